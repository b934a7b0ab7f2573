/- Walks and words of this session, put together by a program of this session (pack.py). Conditions: as each text says. -/
import Derived.Deep.Light
import Derived.Test.YthpgjgmaamcaoaaDoorE4
import Derived.Test.YthpgjgmaamcaoaaDoorE5
set_option linter.unusedVariables false
set_option linter.unusedSimpArgs false
section
namespace Go.Proofs.YthpgjgmaamcaoaaDoor.P
open Go.RowKit Go.Shelf Go.Proofs.YthpgjgmaamcaoaaDoorW.PrintWords Go.Proofs.YthpgjgmaamcaoaaDoorW.PrintLast Go.Proofs.YthpgjgmaamcaoaaDoorW.PrintMore Go.Proofs.YthpgjgmaamcaoaaDoor.Nm
set_option maxRecDepth 100000
set_option linter.unusedVariables false
set_option linter.unusedSimpArgs false
theorem ownsRow_set {W : World} {base e size gp n cap j : Nat} {inner : List Value} {u : Value} (h : W.ownsRow base e size (.slice (some ⟨gp, 0, none⟩) n cap) n inner) : (W.setCell ⟨gp, j, none⟩ u).ownsRow base e size (.slice (some ⟨gp, 0, none⟩) n cap) n (inner.set j u) := by
 obtain ⟨h1, h2⟩ := h;refine ⟨by rw [List.length_set]; exact h1, .inr ?_⟩
 rcases h2 with ⟨h2, _⟩ | ⟨g', cap', cur, he, hb, hc, hle, hm, hs, ht⟩
 ·cases h2
 ·simp only [Value.slice.injEq, Option.some.injEq, Addr.mk.injEq, and_true, true_and] at he
  obtain ⟨rfl, rfl⟩ := he;refine ⟨gp, cap, cur.setIfInBounds j u, rfl, hb, blk_set hc j u, hle, hm, by simpa using hs, ?_⟩;rw [← ht, Array.toList_setIfInBounds, List.take_set]
theorem ownsRow_far {W : World} {base e size n : Nat} {v : Value} {inner : List Value} {p : Addr} {u : Value} (h : W.ownsRow base e size v n inner) (hp : some p.block ≠ v.ownBlock) : (W.setCell p u).ownsRow base e size v n inner := by
 obtain ⟨h1, h2⟩ := h;refine ⟨h1, ?_⟩
 rcases h2 with h2 | ⟨g', cap', cur, rfl, hb, hc, hr⟩
 ·exact .inl h2
 ·exact .inr ⟨g', cap', cur, rfl, hb, blk_far hc (by intro e; exact hp (by simp [Value.ownBlock, e])) u, hr⟩
theorem ownsRow_below {W W' : World} {base e size n : Nat} {v : Value} {inner : List Value} (h : W.ownsRow base e size v n inner) (hb : Below W.heap.size W W') : W'.ownsRow base e size v n inner := by
 obtain ⟨h1, h2⟩ := h;refine ⟨h1, ?_⟩
 rcases h2 with h2 | ⟨g', cap', cur, rfl, hb', hc, hr⟩
 ·exact .inl h2
 ·exact .inr ⟨g', cap', cur, rfl, hb', (hb.block g' (blk_lt hc)).trans hc, hr⟩
theorem ownsRow_take {W : World} {base e gp n cap m : Nat} {a b : List Value} (h : W.ownsRow base e 3 (.slice (some ⟨gp, 0, none⟩) n cap) n (a ++ b)) (ha : a.length = m * 3) (hm : m ≤ n) : W.ownsRow base e 3 (.slice (some ⟨gp, 0, none⟩) m cap) m a := by
 obtain ⟨h1, h2⟩ := h;refine ⟨ha, .inr ?_⟩
 rcases h2 with ⟨h2, _⟩ | ⟨g', cap', cur, he, hb, hc, hle, hmx, hs, ht⟩
 ·cases h2
 ·simp only [Value.slice.injEq, Option.some.injEq, Addr.mk.injEq, and_true, true_and] at he
  obtain ⟨rfl, rfl⟩ := he;refine ⟨gp, cap, cur, rfl, hb, hc, Nat.le_trans hm hle, hmx, hs, ?_⟩
  have : cur.toList.take (m * 3) = (cur.toList.take (n * 3)).take (m * 3) := by rw [List.take_take, Nat.min_eq_left (by omega)]
  rw [this, ht, ← ha];exact List.take_left
theorem ownsRow_slice {W : World} {base e size n : Nat} {v : Value} {inner : List Value} (h : W.ownsRow base e size v n inner) (hn : 0 < n) : ∃ gp cap, v = .slice (some ⟨gp, 0, none⟩) n cap ∧ base ≤ gp ∧ n ≤ cap ∧ gp < W.heap.size ∧ ∃ cur, W.heap[gp]? = some (.cells cur e (0, 0)) := by
 rcases h.2 with ⟨_, h2⟩ | ⟨g', cap', cur, rfl, hb, hc, hle, hr⟩
 ·omega
 ·exact ⟨g', cap', rfl, hb, hle, blk_lt hc, cur, hc⟩
theorem ownsRow_cell {W : World} {base e size n gp cap : Nat} {inner : List Value} (h : W.ownsRow base e size (.slice (some ⟨gp, 0, none⟩) n cap) n inner) {j : Nat} {u : Value} (hj : inner[j]? = some u) : W.cell? ⟨gp, j, none⟩ = some u ∧ W.frozen? ⟨gp, j, none⟩ = false := by
 obtain ⟨h1, h2⟩ := h
 rcases h2 with ⟨h2, _⟩ | ⟨g', cap', cur, he, hb, hc, hle, hmx, hs, ht⟩
 ·cases h2
 ·simp only [Value.slice.injEq, Option.some.injEq, Addr.mk.injEq, and_true, true_and] at he
  obtain ⟨rfl, rfl⟩ := he;refine ⟨?_, bfz hc j⟩;have hjl := (List.getElem?_eq_some_iff.1 hj).1;rw [bceq hc];rw [← ht, List.getElem?_take_of_lt (by omega), Array.getElem?_toList] at hj;exact hj
def Fr (b go : Nat) (pv : Value) (k : Nat) : Prop := b + 1 < k ∧ k ≠ go ∧ some k ≠ pv.ownBlock
def cp (p : Int × Int) : S44 := ⟨p.1, can p.2⟩
structure NS (w W : World) (go g : Nat) (fl : List El) (cb : Bool) (cA : Option Addr) (cc : Nat) (c0 : Int) (pv : Value) (os : List El) (xs : LnP.Ps) : Prop where
 blk : (uBlk go [.bool cb, .slice cA (can c0).f1.length cc, pv] 27).p W
 res : (uBlk (w.heap.size + 1) [.bool false, .slice none 0 0, .slice none 0 0] 27).p W
 lt : w.heap.size + 1 < go
 src : fl = [] ∨ (Own3 g W fl ∧ g < W.heap.size ∧ some g ≠ pv.ownBlock ∧ g ≠ go ∧ w.heap.size + 1 < g)
 own : W.ownsRow (w.heap.size + 2) 44 3 pv os.length (os.flatMap El.cs)
 len : os.length = xs.length
 rep : ∀ (i : Nat) (x : Int × Int) (e : El), xs[i]? = some x → os[i]? = some e → Kd.FK k44 W (Fr w.heap.size go pv) (cp x) e.cs
 cst : Kv k24 (Fr w.heap.size go pv) W (.agg #[.bool cb, .slice cA (can c0).f1.length cc]) (can c0)
 bel : Below w.heap.size w W
section
variable {w W W' : World} {go g : Nat} {fl : List El} {cb : Bool} {cA : Option Addr} {cc : Nat} {c0 : Int} {pv : Value} {os : List El} {xs : LnP.Ps}
theorem NS.below (h : NS w W go g fl cb cA cc c0 pv os xs) (hb : Below W.heap.size W W') : NS w W' go g fl cb cA cc c0 pv os xs :=
 ⟨(uBlk _ _ _).up _ _ h.blk hb, (uBlk _ _ _).up _ _ h.res hb, h.lt, h.src.imp id (fun h => ⟨h.1.below hb, Nat.lt_of_lt_of_le h.2.1 hb.size, h.2.2⟩), ownsRow_below h.own hb, h.len, fun i x e hx he => Kd.FK_below (h.rep i x e hx he) hb, h.cst.below hb, below_step h.bel hb⟩
def uNS (w : World) (go g : Nat) (fl : List El) (cb : Bool) (cA : Option Addr) (cc : Nat) (c0 : Int) (pv : Value) (os : List El) (xs : LnP.Ps) : UpP := ⟨fun W => NS w W go g fl cb cA cc c0 pv os xs, fun _ _ h hb => h.below hb⟩
theorem NS.apart (h : NS w W go g fl cb cA cc c0 pv os xs) : some go ≠ pv.ownBlock ∧ some (w.heap.size + 1) ≠ pv.ownBlock := by
 have key : ∀ (k : Nat) (cs : List Value), (uBlk k cs 27).p W → some k ≠ pv.ownBlock := fun k cs hk he => by
  rcases h.own.2 with ⟨h2, _⟩ | ⟨g', cap', cur, h2, hb, hc, hr⟩
  ·rw [h2] at he; cases he
  ·rw [h2] at he
   simp only [Value.ownBlock, Option.some.injEq] at he;subst he;exact blk_ne (t := 27) hk hc (by decide) rfl
 exact ⟨key _ _ h.blk, key _ _ h.res⟩
theorem NS.next {pv' : Value} {os' : List El} {xs' : LnP.Ps} (h : NS w W go g fl cb cA cc c0 pv os xs) (hg : W.grownBy W' pv.ownBlock) (hat : pv'.ownBlock = pv.ownBlock ∨ ∃ b, pv'.ownBlock = some b ∧ W.heap.size ≤ b) (hown : W'.ownsRow (w.heap.size + 2) 44 3 pv' os'.length (os'.flatMap El.cs)) (hlen : os'.length = xs'.length)
  (hrep : ∀ (i : Nat) (x : Int × Int) (e : El), xs'[i]? = some x → os'[i]? = some e → (∃ j : Nat, xs[j]? = some x ∧ os[j]? = some e) ∨ Kd.FK k44 W (Fr w.heap.size go pv) (cp x) e.cs) : NS w (W'.setCell ⟨go, 2, none⟩ pv') go g fl cb cA cc c0 pv' os' xs' := by
 have hap := h.apart
 have hne : ∀ k, some k ≠ pv.ownBlock → k < W.heap.size → some k ≠ pv'.ownBlock := by
  intro k hk hlt
  rcases hat with hat | ⟨b, hb, hle⟩
  ·rw [hat]; exact hk
  ·rw [hb]
   intro he
   injection he with he
   omega
 have hgo := blk_lt (show W.heap[go]? = _ from h.blk);have hrs := blk_lt (show W.heap[w.heap.size + 1]? = _ from h.res)
 have hBW : ∀ k, k < W.heap.size → some k ≠ pv.ownBlock → k ≠ go → (W'.setCell ⟨go, 2, none⟩ pv').heap[k]? = W.heap[k]? := fun k h1 h2 h3 => (Below.heap_setCell W' _ _ _ h3).trans (hg.block k h1 h2)
 have hlt := h.lt
 have fkm : ∀ {x : S44} {cs : List Value}, Kd.FK k44 W (Fr w.heap.size go pv) x cs → Kd.FK k44 (W'.setCell ⟨go, 2, none⟩ pv') (Fr w.heap.size go pv') x cs := fun hk => by
  have h1 := Kd.FK_bound hk;refine Kd.FK_mono (Kd.FK_step h1 (fun k hk hlt2 => hBW k hk.2 hk.1.2.2 hk.1.2.1)) (fun k hk => ⟨hk.1.1, hk.1.2.1, hne k hk.1.2.2 hk.2⟩)
 refine ⟨?_, (hBW _ hrs hap.2 (by omega)).trans h.res, hlt, ?_, ownsRow_far hown ?_, hlen, fun i x e hx he => ?_, ?_, ?_⟩
 ·have h2 : (uBlk go [.bool cb, .slice cA (can c0).f1.length cc, pv] 27).p W' := (hg.block go hgo hap.1).trans h.blk
  exact Ctx.put h2 2 pv'
 ·rcases h.src with h1 | ⟨⟨cur, hc, hr⟩, h2, h3, h4, h5⟩
  ·exact .inl h1
  ·refine .inr ⟨⟨cur, (hBW g h2 h3 h4).trans hc, hr⟩, ?_, hne g h3 h2, h4, h5⟩
   have := hg.size;simp only [World.size_setCell]
   omega
 ·exact hne go hap.1 hgo
 ·rcases hrep i x e hx he with ⟨j, h1, h2⟩ | h1
  ·exact fkm (h.rep j x e h1 h2)
  ·exact fkm h1
 ·obtain ⟨cs, e, hk⟩ := h.cst
  refine ⟨cs, e, ?_⟩;have h1 := Kd.FK_bound hk;exact Kd.FK_mono (Kd.FK_step h1 (fun k hk hlt2 => hBW k hk.2 hk.1.2.2 hk.1.2.1)) (fun k hk => ⟨hk.1.1, hk.1.2.1, hne k hk.1.2.2 hk.2⟩)
 ·refine (h.bel.grown hg h.bel.size (fun k hk => ?_)).setCell (p := ⟨go, 2, none⟩) (by dsimp only; omega) _
  rcases h.own.2 with ⟨h2, _⟩ | ⟨g', cap', cur, h2, hb, hc, hr⟩
  ·rw [h2] at hk; cases hk
  ·rw [h2] at hk
   simp only [Value.ownBlock, Option.some.injEq] at hk
   omega
theorem grown_refl (W : World) (r : Option Nat) : W.grownBy W r := ⟨rfl, rfl, rfl, Nat.le_refl _, fun _ _ _ => rfl⟩
theorem NS.app (h : NS w W go g fl cb cA cc c0 pv os xs) {x : Int × Int} {e : El} (hx : Kd.FK k44 W (Fr w.heap.size go pv) (cp x) e.cs) {pv' : Value} (hg : W.grownBy W' pv.ownBlock) (hat : pv'.ownBlock = pv.ownBlock ∨ pv'.ownBlock = some W.heap.size) (hown : W'.ownsRow (w.heap.size + 2) 44 3 pv' (os.length + 1) (os.flatMap El.cs ++ e.cs)) : NS w (W'.setCell ⟨go, 2, none⟩ pv') go g fl cb cA cc c0 pv' (os ++ [e]) (xs ++ [x]) := by
 refine h.next hg (hat.imp id (fun h => ⟨_, h, Nat.le_refl _⟩)) (by rw [List.length_append, List.flatMap_append]; simpa using hown) (by simp [h.len]) (fun i y f hy hf => ?_);by_cases hi : i < xs.length
 ·rw [List.getElem?_append_left hi] at hy
  rw [List.getElem?_append_left (by rw [h.len]; exact hi)] at hf;exact .inl ⟨i, hy, hf⟩
 ·have hi2 := (List.getElem?_eq_some_iff.1 hy).1
  simp only [List.length_append, List.length_singleton] at hi2
  obtain rfl : i = xs.length := by omega
  rw [List.getElem?_append_right (Nat.le_refl _)] at hy;rw [← h.len, List.getElem?_append_right (Nat.le_refl _)] at hf;simp only [Nat.sub_self, List.getElem?_cons_zero, Option.some.injEq] at hy hf;subst hy;subst hf;exact .inr hx
theorem NS.cut {gp cap n : Nat} {e : El} {x : Int × Int} (h : NS w W go g fl cb cA cc c0 (.slice (some ⟨gp, 0, none⟩) n cap) (os ++ [e]) (xs ++ [x])) (hn : n = os.length + 1) : NS w (W.setCell ⟨go, 2, none⟩ (.slice (some ⟨gp, 0, none⟩) os.length cap)) go g fl cb cA cc c0 (.slice (some ⟨gp, 0, none⟩) os.length cap) os xs := by
 have hl := h.len;simp only [List.length_append, List.length_singleton] at hl;refine h.next (grown_refl _ _) (.inl rfl) (ownsRow_take (n := n) (b := e.cs) ?_ (cs_flat os) (by omega)) (by omega) (fun i y f hy hf => .inl ⟨i, ?_, ?_⟩)
 ·have := h.own
  rw [List.flatMap_append, List.length_append, List.length_singleton, ← hn] at this
  simpa using this
 ·rw [List.getElem?_append_left (List.getElem?_eq_some_iff.1 hy).1]; exact hy
 ·rw [List.getElem?_append_left (List.getElem?_eq_some_iff.1 hf).1]; exact hf
theorem NS.put {gp cap n : Nat} {e : El} {x : Int × Int} {b : Bool} {A : Option Addr} {m c : Nat} {y : Int} (h : NS w W go g fl cb cA cc c0 (.slice (some ⟨gp, 0, none⟩) n cap) (os ++ [e]) (xs ++ [x])) (hn : n = os.length + 1)
  (hx : Kd.FK k44 W (Fr w.heap.size go (.slice (some ⟨gp, 0, none⟩) n cap)) (cp (x.1, y)) (El.cs ⟨e.v, b, A, m, c⟩)) : NS w ((W.setCell ⟨gp, os.length * 3 + 1, none⟩ (.bool b)).setCell ⟨gp, os.length * 3 + 2, none⟩ (.slice A m c)) go g fl cb cA cc c0 (.slice (some ⟨gp, 0, none⟩) n cap) (os ++ [⟨e.v, b, A, m, c⟩]) (xs ++ [(x.1, y)]) := by
 have hap := h.apart;have hlen := h.len;simp only [List.length_append, List.length_singleton] at hlen
 have hB : ∀ k, k ≠ gp → ((W.setCell ⟨gp, os.length * 3 + 1, none⟩ (.bool b)).setCell ⟨gp, os.length * 3 + 2, none⟩ (.slice A m c)).heap[k]? = W.heap[k]? := fun k hk => (Below.heap_setCell _ _ _ _ hk).trans (Below.heap_setCell _ _ _ _ hk)
 have fkm : ∀ {x : S44} {cs : List Value}, Kd.FK k44 W (Fr w.heap.size go (.slice (some ⟨gp, 0, none⟩) n cap)) x cs → Kd.FK k44 ((W.setCell ⟨gp, os.length * 3 + 1, none⟩ (.bool b)).setCell ⟨gp, os.length * 3 + 2, none⟩ (.slice A m c)) (Fr w.heap.size go (.slice (some ⟨gp, 0, none⟩) n cap)) x cs := fun hk => Kd.FK_step hk (fun k hk _ => hB k (fun e => hk.2.2 (by simp [Value.ownBlock, e])))
 have hgo : go ≠ gp := fun e => hap.1 (by simp [Value.ownBlock, e])
 have hrs : w.heap.size + 1 ≠ gp := fun e => hap.2 (by simp [Value.ownBlock, e])
 have hbase : w.heap.size + 2 ≤ gp := by
  obtain ⟨gp', cap', he, hb, -⟩ := ownsRow_slice h.own (by simp);simp only [List.length_append, Value.slice.injEq, Option.some.injEq, Addr.mk.injEq, and_true] at he
  omega
 refine ⟨(hB go hgo).trans h.blk, (hB _ hrs).trans h.res, h.lt, ?_, ?_, by simp; omega, fun i z f hz hf => ?_, ?_, ?_⟩
 ·rcases h.src with h1 | ⟨⟨cur, hc, hr⟩, h2, h3, h4, h5⟩
  ·exact .inl h1
  ·exact .inr ⟨⟨cur, (hB g (fun e => h3 (by simp [Value.ownBlock, e]))).trans hc, hr⟩, by simpa using h2, h3, h4, h5⟩
 ·have h1 := h.own
  have h2 : ((W.setCell ⟨gp, os.length * 3 + 1, none⟩ (.bool b)).setCell ⟨gp, os.length * 3 + 2, none⟩ (.slice A m c)).ownsRow (w.heap.size + 2) 44 3 (.slice (some ⟨gp, 0, none⟩) n cap) n ((((os ++ [e]).flatMap El.cs).set (os.length * 3 + 1) (.bool b)).set (os.length * 3 + 2) (.slice A m c)) := by
   rw [List.length_append, List.length_singleton, ← hn] at h1;exact ownsRow_set (ownsRow_set h1)
  rw [List.length_append, List.length_singleton, ← hn]
  have e1 : (((os ++ [e]).flatMap El.cs).set (os.length * 3 + 1) (.bool b)).set (os.length * 3 + 2) (.slice A m c) = (os ++ [(⟨e.v, b, A, m, c⟩ : El)]).flatMap El.cs := by
   rw [List.flatMap_append, List.flatMap_append, ← cs_flat os, List.set_append_right _ _ (by omega), List.set_append_right _ _ (by omega)]
   congr 1
   rw [show (os.flatMap El.cs).length + 1 - (os.flatMap El.cs).length = 1 by omega, show (os.flatMap El.cs).length + 2 - (os.flatMap El.cs).length = 2 by omega]
   rfl
  rw [← e1];exact h2
 ·by_cases hi : i < xs.length
  ·rw [List.getElem?_append_left hi] at hz
   rw [List.getElem?_append_left (by omega)] at hf;exact fkm (h.rep i z f (by rw [List.getElem?_append_left hi]; exact hz) (by rw [List.getElem?_append_left (by omega)]; exact hf))
  ·have hi2 := (List.getElem?_eq_some_iff.1 hz).1
   simp only [List.length_append, List.length_singleton] at hi2
   obtain rfl : i = xs.length := by omega
   rw [List.getElem?_append_right (Nat.le_refl _)] at hz;rw [show xs.length = os.length by omega, List.getElem?_append_right (Nat.le_refl _)] at hf;simp only [Nat.sub_self, List.getElem?_cons_zero, Option.some.injEq] at hz hf;subst hz;subst hf;exact fkm hx
 ·obtain ⟨cs, e2, hk⟩ := h.cst
  exact ⟨cs, e2, Kd.FK_step hk (fun k hk _ => hB k (fun e => hk.2.2 (by simp [Value.ownBlock, e])))⟩
 ·exact (h.bel.setCell (p := ⟨gp, _, none⟩) (by dsimp only; omega) _).setCell (p := ⟨gp, _, none⟩) (by dsimp only; omega) _
end
end Go.Proofs.YthpgjgmaamcaoaaDoor.P
end
section
namespace Go.Proofs.YthpgjgmaamcaoaaDoor.P
open Go.RowKit Go.Shelf Go.Proofs.YthpgjgmaamcaoaaDoorW.PrintWords Go.Proofs.YthpgjgmaamcaoaaDoorW.PrintLast Go.Proofs.YthpgjgmaamcaoaaDoorW.PrintMore Go.Proofs.YthpgjgmaamcaoaaDoor.Nm
set_option maxRecDepth 100000
set_option linter.unusedVariables false
set_option linter.unusedSimpArgs false
theorem sl_ins0 (A : Option Addr) (cap : Nat) (fv : Value) (w : World) : Calls Tryd.prog 100 #[.slice A 0 cap, .int .i64 0, .int .i64 0, fv] w fun e w' => e = .returned (.tuple #[]) ∧ w' = w := by
 go_enter Tryd.func100, Tryd.ntmps100
 go_wp2_with fail
 go_loopg [8] 0 (fun gk s8 wr => s8 = .int .i64 1 ∧ wr = w)
 case atStart => exact ⟨rfl, rfl⟩
 case round =>
  obtain ⟨rfl, rfl⟩ := hrel;go_wp2
  go_end0
  exact ⟨rfl, rfl⟩
theorem sl_stable0 (A : Option Addr) (cap : Nat) (fv : Value) (w : World) : Calls Tryd.prog 78 #[.slice A 0 cap, .int .i64 0, fv] w fun e w' => e = .returned (.tuple #[]) ∧ w' = w := by
 have h1 := sl_ins0 A cap fv w;go_enter Tryd.func78, Tryd.ntmps78
 go_wp2_with fail
 go_loopg [7, 8] 0 (fun gk s7 s8 wr => s7 = .int .i64 0 ∧ s8 = .int .i64 20 ∧ wr = w)
 case atStart => exact ⟨rfl, rfl, rfl⟩
 case round =>
  obtain ⟨rfl, rfl, rfl⟩ := hrel;go_wp2_with (go_at_call 100; refine h1.mono ?_; rintro e w2 ⟨rfl, rfl⟩)
  go_loopg [6] 0 (fun gk s6 wr => s6 = .int .i64 20 ∧ wr = w2)
  case atStart => exact ⟨rfl, rfl⟩
  case round =>
   obtain ⟨rfl, rfl⟩ := hrel
   go_wp2_with fail
   go_end0
   exact ⟨rfl, rfl⟩
theorem sl_sort0 (A : Option Addr) (cap : Nat) (fv : Value) (w : World) : Calls Tryd.prog 47 #[.slice A 0 cap, fv] w fun e w' => e = .returned (.tuple #[]) ∧ w' = w := by
 have h1 := sl_stable0 A cap fv w;go_enter Tryd.func47, Tryd.ntmps47;go_wp2_with (go_at_call 78; refine h1.mono ?_; rintro e w2 ⟨rfl, rfl⟩)
 go_end0
 exact ⟨rfl, rfl⟩
theorem ClPost.form {w w' : World} {ps : PE} {e : Ending} (h : ClPost w ps e w') : ∃ LA cap g, e = .returned (.slice LA ps.length cap) ∧ Below w.heap.size w w' ∧ w.heap.size ≤ g ∧ ((LA = none ∧ ps = [] ∧ g = w'.heap.size) ∨ (LA = some ⟨g, 0, none⟩ ∧ Own3 g w' (ps.map Prod.snd))) := by
 obtain ⟨⟨hb, -⟩, ⟨rfl, rfl⟩ | ⟨g, cap, rfl, h1, h2, h3⟩⟩ := h
 ·exact ⟨none, 0, w'.heap.size, rfl, hb, hb.size, .inl ⟨rfl, rfl, rfl⟩⟩
 ·exact ⟨_, cap, g, rfl, hb, h1, .inr ⟨rfl, h3⟩⟩
theorem sl_sortC {w : World} {ps : PE} {LA : Option Addr} {cap g : Nat} (h : (LA = none ∧ ps = [] ∧ g = w.heap.size) ∨ (LA = some ⟨g, 0, none⟩ ∧ Own3 g w (ps.map Prod.snd))) (hl : ps.length ≤ 39) :
  Calls Tryd.prog 47 #[.slice LA ps.length cap, .func (.func 48) #[] #[]] w fun e w' => e = .returned (.tuple #[]) ∧ Below g w w' ∧ ∃ qs : PE, qs.Perm ps ∧ Srt.Up El.v (qs.map Prod.snd) ∧ (qs = [] ∨ (LA = some ⟨g, 0, none⟩ ∧ Own3 g w' (qs.map Prod.snd))) := by
 rcases h with ⟨rfl, rfl, rfl⟩ | ⟨rfl, hO⟩
 ·refine (sl_sort0 none cap _ w).mono ?_
  rintro e w' ⟨rfl, rfl⟩;exact ⟨rfl, Below.refl _ _, [], List.Perm.refl _, List.Pairwise.nil, .inl rfl⟩
 ·refine (sl_sort g cap ps.length (ps.map Prod.snd) w hO (by simp) hl).mono ?_
  rintro e w' ⟨rfl, l, ⟨hp, hu⟩, hO2, hk, hb⟩;obtain ⟨qs, hq, rfl⟩ := perm_lift hp rfl;exact ⟨rfl, hb, qs, hq, hu, .inr ⟨rfl, hO2⟩⟩
theorem NS.start {w w3 w4 : World} {g : Nat} {fl : List El} {cb : Bool} {cA : Option Addr} {cc : Nat} {c0 : Int} (hres : (uBlk (w.heap.size + 1) [.bool false, .slice none 0 0, .slice none 0 0] 27).p w3) (hb : Below w.heap.size w w3) (hs : fl = [] ∨ Own3 g w3 fl) (hg : w.heap.size + 1 < g) (hv : Kv k24 (fun k => w3.heap.size ≤ k) w4 (.agg #[.bool cb, .slice cA (can c0).f1.length cc]) (can c0)) (hb4 : Below w3.heap.size w3 w4) : NS w (w4.alloc (.cells #[.bool cb, .slice cA (can c0).f1.length cc, .slice none 0 0] 27)) w4.heap.size g fl cb cA cc c0 (.slice none 0 0) [] [] := by
 have hr := blk_lt (show w3.heap[w.heap.size + 1]? = _ from hres);have h4 := hb4.size;have hba : Below w4.heap.size w4 (w4.alloc (.cells #[.bool cb, .slice cA (can c0).f1.length cc, .slice none 0 0] 27)) := bal (Below.refl _ _) _;refine ⟨blk_new w4 _, (uBlk _ _ _).up _ _ ((uBlk _ _ _).up _ _ hres hb4) hba, by omega, hs.imp id (fun h => ⟨(h.below hb4).below hba, ?_, by simp [Value.ownBlock], ?_, hg⟩), World.ownsRow_nil _ _ _ _, rfl, fun i x e hx _ => by simp at hx, ?_, below_step (below_step hb hb4) hba⟩
 ·have := h.lt
  simp only [World.size_alloc]
  omega
 ·have := h.lt
  omega
 ·refine (hv.within (ok' := Fr w.heap.size w4.heap.size (.slice none 0 0)) (fun k h1 h2 => ⟨by omega, by omega, by simp [Value.ownBlock]⟩)).below hba
theorem NS.pv {w W : World} {go g : Nat} {fl : List El} {cb : Bool} {cA : Option Addr} {cc : Nat} {c0 : Int} {pv : Value} {os : List El} {xs : LnP.Ps} (h : NS w W go g fl cb cA cc c0 pv os xs) : ∃ PA pc, pv = .slice PA os.length pc := by
 rcases h.own.2 with ⟨h1, h2⟩ | ⟨g', cap', cur, h1, _⟩
 ·exact ⟨none, 0, by rw [h1, h2]⟩
 ·exact ⟨_, _, h1⟩
structure NIn (x : TB) : Prop where
 few : x.f1.length ≤ 39
 c : Big x.f0
 dg : ∀ p ∈ x.f1, Dg B32 p.f1.f1
 len : ∀ p ∈ x.f1, p.f1.f1.length ≤ 1000
def psB (l : List S44) : LnP.Ps := l.map fun p => (p.f0, bv p.f1)
def tt (c : Int) (ps : LnP.Ps) : TB := ⟨can c, ps.map cp⟩
theorem abs_lt {x : S24} (hd : Dg B32 x.f1) (hl : x.f1.length ≤ 1000) : ((bv x).natAbs : Int) < B32 ^ 1000 := by
 have h1 := val_lt (B := B32) (by decide) hd;have h0 := val_nonneg (B := B32) (by decide) hd;have h2 := pow_mono (B := B32) (by decide) hl
 have : ((bv x).natAbs : Int) = val B32 x.f1 := by unfold bv sg; split <;> omega
 omega
theorem step_len (out : LnP.Ps) (q : Int × Int) : (LnP.step out q).length ≤ out.length + 1 := by
 unfold LnP.step
 split
 ·rename_i z hz
  have : out ≠ [] := by rintro rfl; simp at hz
  have hp := List.length_pos_iff.2 this
  split
  ·split
   ·rw [List.length_dropLast]; omega
   ·rw [List.length_append, List.length_dropLast]; simp
  ·split <;> simp
 ·split <;> simp
theorem scan_len : ∀ (l out : LnP.Ps), (LnP.scan out l).length ≤ out.length + l.length
 | [], out => Nat.le_refl _
 | q :: l, out => by
  have h1 := scan_len l (LnP.step out q);have h2 := step_len out q
  show (LnP.scan (LnP.step out q) l).length ≤ _
  simp only [List.length_cons]
  omega
theorem step_nil (p : Int × Int) : LnP.step [] p = if p.2 = 0 then [] else [] ++ [p] := by simp [LnP.step]
theorem step_ne {ys : LnP.Ps} {x p : Int × Int} (h : x.1 ≠ p.1) : LnP.step (ys ++ [x]) p = if p.2 = 0 then ys ++ [x] else (ys ++ [x]) ++ [p] := by simp [LnP.step, h]
theorem step_eq {ys : LnP.Ps} {x p : Int × Int} (h : x.1 = p.1) : LnP.step (ys ++ [x]) p = if x.2 + p.2 = 0 then ys else ys ++ [(x.1, x.2 + p.2)] := by simp [LnP.step, h]
theorem NS.last {w W : World} {go g : Nat} {fl : List El} {cb : Bool} {cA : Option Addr} {cc : Nat} {c0 : Int} {pv : Value} {os : List El} {el : El} {xs : LnP.Ps} (h : NS w W go g fl cb cA cc c0 pv (os ++ [el]) xs) : ∃ ys x, xs = ys ++ [x] ∧ ys.length = os.length ∧ el.v = x.1 ∧ Kd.FK k44 W (Fr w.heap.size go pv) (cp x) el.cs := by
 have hl := h.len;simp only [List.length_append, List.length_singleton] at hl
 rcases List.eq_nil_or_concat xs with rfl | ⟨ys, x, rfl⟩
 ·simp at hl
 ·rw [List.concat_eq_append] at h hl ⊢
  simp only [List.length_append, List.length_singleton] at hl;have hk := h.rep os.length x el (by rw [show os.length = ys.length by omega]; simp) (by simp);exact ⟨ys, x, rfl, by omega, (fk_el hk).1, hk⟩
theorem NS.fresh {w W : World} {go g : Nat} {fl : List El} {cb : Bool} {cA : Option Addr} {cc : Nat} {c0 : Int} {pv : Value} {os : List El} {xs : LnP.Ps} (h : NS w W go g fl cb cA cc c0 pv os xs) : ∀ k, W.heap.size ≤ k → Fr w.heap.size go pv k := by
 intro k hk;have h1 := blk_lt (show W.heap[go]? = _ from h.blk);have h2 := h.lt;refine ⟨by omega, by omega, fun e => ?_⟩
 rcases h.own.2 with ⟨h3, _⟩ | ⟨g', cap', cur, h3, hb, hc, _⟩
 ·rw [h3] at e; cases e
 ·rw [h3] at e
  simp only [Value.ownBlock, Option.some.injEq] at e;have := blk_lt hc
  omega
theorem norm_done {qs ps : PE} {w : World} {ok : Nat → Prop} (hq : qs.Perm ps) (hu : Srt.Up El.v (qs.map Prod.snd)) (hR : Rp ok w qs) : LnP.scan [] (psB (qs.map Prod.fst)) = LnP.nrm (psB (ps.map Prod.fst)) := by
 refine LnP.scan_nrm ?_ ((hq.map _).map _);unfold psB;unfold Srt.Up at hu;rw [List.map_map, List.pairwise_map];rw [List.pairwise_map] at hu;refine hu.imp_of_mem (fun {a b} ha hb h => ?_);have h1 := (fk_el (hR a ha)).1;have h2 := (fk_el (hR b hb)).1
 show a.1.f0 ≤ b.1.f0
 omega
theorem ns_row {W : World} {base : Nat} {O : Nat → Prop} {pv : Value} {os : List El} {xs : List S44} (hown : W.ownsRow base 44 3 pv os.length (os.flatMap El.cs)) (hb : ∀ k, base ≤ k → O k) (hlen : os.length = xs.length) (hm : xs.length ≤ 1000000) (hrep : ∀ (i : Nat) (x : S44) (e : El), xs[i]? = some x → os[i]? = some e → Kd.FK k44 W O x e.cs) : Cv k44 O W pv xs := by
 have h0 := hown
 rcases hown.2 with ⟨rfl, h2⟩ | ⟨g, cap, cur, rfl, hg, hc, hle, hmx, hs, ht⟩
 ·obtain rfl : xs = [] := List.eq_nil_of_length_eq_zero (by omega)
  exact Cv.nil
 ·refine ⟨some ⟨g, 0, none⟩, cap, by rw [hlen], by omega, fun W' hW => ?_⟩
  have hc' := (hW g (hb g hg) (blk_lt hc)).trans hc
  have hown' : W'.ownsRow base 44 3 (.slice (some ⟨g, 0, none⟩) os.length cap) os.length (os.flatMap El.cs) := ⟨hown.1, .inr ⟨g, cap, cur, rfl, hg, hc', hle, hmx, hs, ht⟩⟩
  refine ⟨rfl, by omega, fun _ => ⟨_, rfl, fun j p hj => ?_⟩⟩;have hjl := (List.getElem?_eq_some_iff.1 hj).1
  have hjo : j < os.length := by omega
  refine ⟨os[j].cs, rfl, hrep j p _ hj (List.getElem?_eq_getElem hjo) W' hW, fun i u hu => ?_⟩
  have hi3 : i < 3 := by
   have := (List.getElem?_eq_some_iff.1 hu).1
   simpa [El.cs] using this
  rw [show (k44).sz = 3 from rfl, add_plain];exact (ownsRow_cell hown' (by rw [cs_get os j i hjo hi3]; exact hu)).1
theorem end3 {O ok : Nat → Prop} {w0 W : World} {g t : Nat} {z0 z1 z2 c0 c1 c2 : Value} {x : TB} (hz : (uBlk g [z0, z1, z2] t).p W) (hB : Below w0.heap.size w0 W) (hg : w0.heap.size ≤ g) (hO : ∀ k, O k → ok k ∧ k ≠ g) (h : Kv kTB O W (.agg #[c0, c1, c2]) x) (wf : World)
  (hw : wf = ((W.setCell ⟨g, 0, none⟩ c0).setCell ⟨g, 1, none⟩ c1).setCell ⟨g, 2, none⟩ c2) : KPost kTB ok w0 x (.returned (.agg #[c0, c1, c2])) wf ∧ wf.cell? ⟨g, 0, none⟩ = some c0 ∧ wf.cell? ⟨g, 1, none⟩ = some c1 ∧ wf.cell? ⟨g, 2, none⟩ = some c2 := by
 subst hw;have hp := Ctx.put (Ctx.put (Ctx.put hz 0 c0) 1 c1) 2 c2
 have hne : ∀ k, O k → k ≠ g := fun k hk => (hO k hk).2
 exact ⟨⟨_, rfl, (((h.far (p := ⟨g, 0, none⟩) hne c0).far (p := ⟨g, 1, none⟩) hne c1).far (p := ⟨g, 2, none⟩) hne c2).mono (fun k hk => (hO k hk).1), bstq (bstq (bstq hB hg) hg) hg⟩, Ctx.blk hp 0 rfl, Ctx.blk hp 1 rfl, Ctx.blk hp 2 rfl⟩
theorem NS.kv {w W : World} {go g : Nat} {fl : List El} {cb : Bool} {cA : Option Addr} {cc : Nat} {c0 : Int} {PA : Option Addr} {no pc : Nat} {os : List El} {xs : LnP.Ps} (h : NS w W go g fl cb cA cc c0 (.slice PA no pc) os xs) (hm : xs.length ≤ 1000000) : Kv kTB (fun k => w.heap.size + 1 < k) W (.agg #[.bool cb, .slice cA (can c0).f1.length cc, .slice PA no pc]) (tt c0 xs) := by
 obtain ⟨A', c', he, hl, hF⟩ := h.cst.openB;simp only [Value.agg.injEq, Array.mk.injEq, List.cons.injEq, Value.bool.injEq, Value.slice.injEq, and_true, true_and] at he;obtain ⟨hcb, rfl, rfl⟩ := he;subst hcb
 obtain ⟨B', d', he, hl2, hF2⟩ := ns_row (O := fun k => w.heap.size + 1 < k) (xs := xs.map cp) h.own (fun k hk => by omega) (by rw [List.length_map]; exact h.len) (by simpa using hm) (fun i x e hx he => by
  rw [List.getElem?_map] at hx;obtain ⟨y, hy, rfl⟩ := Option.map_eq_some_iff.1 hx
  exact Kd.FK_mono (h.rep i y e hy he) (fun k hk => hk.1))
 simp only [Value.slice.injEq] at he;obtain ⟨rfl, rfl, rfl⟩ := he;exact ⟨_, rfl, kTB_mkF W _ (tt c0 xs) hl (Kd.F_mono hF (fun k hk => hk.1)) hl2 hF2⟩
def uBx (O : Nat → Prop) (x : S44) (v : Value) : UpP := ⟨fun W => ∃ gb e', v = .slice (some ⟨gb, 0, none⟩) 1 1 ∧ (uBlk gb (El.cs e') 44).p W ∧ Kd.FK k44 W O x e'.cs, fun W W' h hb => by
 obtain ⟨gb, e', h1, h2, h3⟩ := h
 exact ⟨gb, e', h1, (uBlk _ _ _).up _ _ h2 hb, Kd.FK_below h3 hb⟩⟩
theorem bx_news {W : World} {gb : Nat} {e : El} (h : (uBlk gb e.cs 44).p W) : ∀ j u, e.cs[j]? = some u → W.cell? ((⟨gb, 0, none⟩ : Addr).add j) = some u := fun j u hj => by
 rw [add_plain];exact Ctx.blk h j hj
theorem cs_one1 (e : El) : ∀ u ∈ e.cs, u.oneCell' = true := by
 intro u hu;simp only [El.cs, List.mem_cons, List.not_mem_nil, or_false] at hu
 rcases hu with rfl | rfl | rfl <;> rfl
theorem el_kv {ok : Nat → Prop} {W : World} {x : S44} {e : El} (h : Kd.FK k44 W ok x e.cs) : Kv k24 ok W (.agg #[.bool e.b, .slice e.A e.n e.c]) x.f1 := by
 obtain ⟨h1, h2, h3, h4, h5⟩ := fk_el h;rw [h2, h3];exact ⟨_, rfl, k24_mkF W ok x.f1 h4 h5⟩
theorem scan_abs {K : Int} (hK : 0 ≤ K) : ∀ {l out : LnP.Ps} {m : Nat}, (∀ p ∈ out, (p.2.natAbs : Int) ≤ m * K) → (∀ p ∈ l, (p.2.natAbs : Int) ≤ K) → ∀ p ∈ LnP.scan out l, (p.2.natAbs : Int) ≤ (m + l.length : Nat) * K
 | [], out, m, h, _ => fun p hp => by simpa using h p hp
 | q :: l, out, m, h, hl => by
  have hq := hl q (List.mem_cons_self ..);have hmK : (0 : Int) ≤ m * K := Int.mul_nonneg (by omega) hK
  have hs : ∀ p ∈ LnP.step out q, (p.2.natAbs : Int) ≤ (m + 1 : Nat) * K := by
   intro p hp;rw [Int.natCast_add, Int.add_mul, show ((1 : Nat) : Int) * K = K by simp]
   have hold : ∀ p ∈ out, (p.2.natAbs : Int) ≤ m * K + K := fun p hp => by have := h p hp; omega
   unfold LnP.step at hp
   split at hp
   ·rename_i z hz
    have hzm := List.mem_of_getLast? hz
    split at hp
    ·split at hp
     ·exact hold p (List.dropLast_subset _ hp)
     ·rcases List.mem_append.1 hp with hp | hp
      ·exact hold p (List.dropLast_subset _ hp)
      ·obtain rfl : p = (z.1, z.2 + q.2) := by simpa using hp
       have := h z hzm;simp only
       omega
    ·split at hp
     ·exact hold p hp
     ·rcases List.mem_append.1 hp with hp | hp
      ·exact hold p hp
      ·obtain rfl : p = q := by simpa using hp
       omega
   ·split at hp
    ·exact hold p hp
    ·rcases List.mem_append.1 hp with hp | hp
     ·exact hold p hp
     ·obtain rfl : p = q := by simpa using hp
      omega
  have := scan_abs hK (l := l) hs (fun p hp => hl p (List.mem_cons_of_mem _ hp));intro p hp;have h2 := this p hp;rw [show m + 1 + l.length = m + (q :: l).length by simp; omega] at h2;exact h2
theorem big_can {n : Int} (h : (n.natAbs : Int) ≤ 39 * B32 ^ 1000) : Big (can n) := by
 refine ⟨can_dg n, ?_⟩
 have h1 : (n.natAbs : Int) < B32 ^ 1001 := by
  have hp := pow_pos' (B := B32) (by decide) 1000
  have e : B32 ^ 1001 = B32 ^ 1000 * 4294967296 := by rw [show (1001 : Nat) = 1000 + 1 from rfl, Int.pow_succ]
  rw [e];generalize B32 ^ 1000 = K at *
  omega
 have := can_len h1
 omega
theorem scan_big {qs : PE} {i : Nat} (hi : i ≤ 39) (h : ∀ q ∈ qs, Dg B32 q.1.f1.f1 ∧ q.1.f1.f1.length ≤ 1000) : ∀ p ∈ LnP.scan [] ((psB (qs.map Prod.fst)).take i), Big (can p.2) := by
 intro p hp;have hK : (0 : Int) ≤ B32 ^ 1000 := Int.le_of_lt (pow_pos' (B := B32) (by decide) 1000);refine big_can ?_;have h1 := scan_abs hK (l := (psB (qs.map Prod.fst)).take i) (out := []) (m := 0) (fun p hp => by cases hp) (fun p hp => ?_) p hp
 ·have h2 : ((psB (qs.map Prod.fst)).take i).length ≤ 39 := by simp; omega
  rw [Nat.zero_add] at h1;have h3 : ((((psB (qs.map Prod.fst)).take i).length : Nat) : Int) * B32 ^ 1000 ≤ 39 * B32 ^ 1000 := Int.mul_le_mul_of_nonneg_right (by omega) hK
  omega
 ·have h2 := List.mem_of_mem_take hp
  unfold psB at h2;rw [List.map_map] at h2;obtain ⟨q, hq, rfl⟩ := List.mem_map.1 h2;exact Int.le_of_lt (abs_lt (h q hq).1 (h q hq).2)
end Go.Proofs.YthpgjgmaamcaoaaDoor.P
end
section
namespace Go.Proofs.YthpgjgmaamcaoaaDoor.P
open Go.RowKit Go.Shelf Go.Proofs.YthpgjgmaamcaoaaDoorW.PrintWords Go.Proofs.YthpgjgmaamcaoaaDoorW.PrintLast Go.Proofs.YthpgjgmaamcaoaaDoorW.PrintMore Go.Proofs.YthpgjgmaamcaoaaDoor.Nm
set_option maxRecDepth 100000
set_option linter.unusedVariables false
set_option linter.unusedSimpArgs false
theorem lin_Norm.tab9 : tabOf (opsOf Tryd.f17 9) = ([some 40, some 41, some 42, some 43, some 44, some 45, some 46, some 47, some 48, some 49, some 50, some 51, some 52, some 53, some 54, some 55, none], [[], [0], [], [2], [], [4], [], [6], [5, 7], [8], [9], [], [11], [10, 12], [1, 3, 0, 1, 2, 3, 4, 5, 6, 7, 8, 9, 10, 11, 12, 13], [14, 0, 1, 2, 3, 4, 5, 6, 7, 8, 9, 10, 11, 12, 13], [15, 13, 13, 0, 1, 2, 3, 4, 5, 6, 7, 8, 9, 10, 11, 12, 13]]) := by kernel_rfl
theorem lin_Norm.tab13 : tabOf (opsOf Tryd.f17 13) = ([some 75, some 76, some 77, some 78, some 79, some 80, some 81, some 82, some 83, some 84, some 85, none], [[], [0], [], [2], [], [4], [5], [3, 6], [7], [1, 8, 6], [0, 1, 2, 3, 4, 5, 6, 7, 8, 9], [10, 9, 9, 0, 1, 2, 3, 4, 5, 6, 7, 8, 9]]) := by kernel_rfl
set_option maxHeartbeats 3200000 in
theorem lin_Norm (ok : Nat → Prop) (v : Value) (x : TB) (w : World) (hok : ∀ k, w.heap.size ≤ k → ok k) (h : Kv kTB (fun _ => True) w v x) (hx : NIn x) :
  Calls Tryd.prog 17 #[v] w (KPost kTB ok w (tt (bv x.f0) (LnP.nrm (psB x.f1)))) := by
 obtain ⟨A, c, B, d, rfl, hk, hp⟩ := h.openTB;have C := Ctx.new (cs := [.bool false, .slice none 0 0, .slice none 0 0]) (t := 27) (Ctx.new (cs := [.bool x.f0.f0, .slice A x.f0.f1.length c, .slice B x.f1.length d]) (t := 27) (Ctx.cons (uB w) (Below.refl _ _) (Ctx.cons (uK k24 (fun _ => True) (.agg #[.bool x.f0.f0, .slice A x.f0.f1.length c]) x.f0) hk (Ctx.cons (uCv k44 (fun k => k < w.heap.size) x.f1 (.slice B x.f1.length d)) (hp.within (fun k _ h => h)) Ctx.nil))));simp only [World.size_alloc] at C;have hx := Sdq.mk hx;have hok := Sdq.mk hok
 obtain ⟨rr, hrr⟩ : ∃ rr, rr = tt (bv x.f0) (LnP.nrm (psB x.f1)) := ⟨_, rfl⟩
 rw [← hrr];have HRR := Sdq.mk hrr;clear h hk hp hrr;go_enter Tryd.func17, Tryd.ntmps17
 go_upto_region 1 with fail
 refine absW _ C ?_;clear C;intro w1 C;have y0 := Ctx.blk C.2.1 0 rfl;have y1 := Ctx.blk C.2.1 1 rfl;have y2 := Ctx.blk C.2.1 2 rfl;obtain ⟨ps, hps, hR, hcl⟩ := sl_Clone _ x.f1 w1 (show Cv k44 (fun k => k < w.heap.size) w1 (.slice B x.f1.length d) x.f1 from C.2.2.2.2.1) (by have := hx.out.few; omega);have hps := Sdq.mk hps;have hR := Sdq.mk (show Rp (fun k => k < w.heap.size) w ps from hR.step (fun k hk => ((show Below w.heap.size w w1 from C.2.2.1).block k hk).symm));have hsz := Sdq.mk C.1;have C := Sdq.mk C
 go_upto_region 2 with (go_at_call 46; refine hcl.mono ?_; intro e w2 hc2; obtain ⟨LA, cap, g, rfl, hb2, hg2, hO2⟩ := hc2.form; clear hc2)
 have hpl : ps.length ≤ 39 := by have := congrArg List.length hps.out; have := hx.out.few; simp at *; omega
 have hst := sl_sortC (cap := cap) hO2 hpl;have hb2 := Sdq.mk hb2;have hg2 := Sdq.mk hg2;clear hcl hO2 y0 y1 y2
 go_upto_region 3 with (go_at_call 47; refine hst.mono ?_; rintro e w3 ⟨rfl, hb3, qs, hq, hu, hs⟩)
 clear hst;have hq := Sdq.mk hq;have hu := Sdq.mk hu;have hs := Sdq.mk hs;have hql : qs.length = ps.length := hq.out.length_eq
 have C3 := Sdq.mk (show Ctx [uBlk (w.heap.size + 1) [.bool false, .slice none 0 0, .slice none 0 0] 27, uBlk w.heap.size [.bool x.f0.f0, .slice A x.f0.f1.length c, .slice B x.f1.length d] 27, uB w, uK k24 (fun _ => True) (.agg #[.bool x.f0.f0, .slice A x.f0.f1.length c]) x.f0] w3 from by
  have h1 : Below w1.heap.size w1 w3 := hb2.out.trans (hb3.mono (by have := hg2.out; omega));have := C.out.below h1
  exact ⟨this.1, this.2.1, this.2.2.1, this.2.2.2.1, trivial⟩)
 have hR3 := Sdq.mk (hR.out.perm hq.out);clear hb2 hb3 C;have y0 := Ctx.blk C3.out.2.1 0 rfl;have y1 := Ctx.blk C3.out.2.1 1 rfl;have hN := big_Norm (fun k => w3.heap.size ≤ k) (.agg #[.bool x.f0.f0, .slice A x.f0.f1.length c]) x.f0 w3 (fun _ h => h) C3.out.2.2.2.1 hx.out.c
 go_upto_region 4 with (go_at_call 50; refine hN.mono ?_; rintro e w4 ⟨v4, rfl, hv4, hb4⟩; obtain ⟨zA, zc, rfl, zl, zF⟩ := hv4.openB)
 have hi0 := Sdq.mk (NS.start (c0 := bv x.f0) C3.out.1 C3.out.2.2.1 (hs.out.imp (fun h => by rw [h]; rfl) (fun h => h.2)) (by have h1 := hg2.out; have h2 := blk_lt (show w1.heap[w.heap.size + 1]? = _ from hsz.out); omega) hv4 hb4);clear hv4 hb4 zl zF y0 y1 hN C3
 obtain ⟨c0, ec0⟩ : ∃ c0, c0 = bv x.f0 := ⟨_, rfl⟩
 rw [← ec0] at hi0 ⊢;have hc0 := Sdq.mk ec0;clear ec0
 obtain ⟨cb, ecb⟩ : ∃ cb, cb = (can c0).f0 := ⟨_, rfl⟩
 obtain ⟨cn_, ecn⟩ : ∃ n, n = (can c0).f1.length := ⟨_, rfl⟩
 rw [← ecb] at hi0 ⊢;rw [← ecn] at hi0 ⊢;have hcn := Sdq.mk ecn;clear ecb ecn;generalize w4.alloc _ = W5 at hi0 ⊢;generalize w4.heap.size = go at hi0 ⊢
 go_wp2_with fail
 obtain ⟨n, en⟩ : ∃ n, n = List.length ps := ⟨_, rfl⟩
 rw [← en] at hql hpl ⊢;have hqn := Sdq.mk hql;clear hql en
 go_loopg [19] n (fun gk s19 wr => ∃ (i : Nat) (pv : Value) (os : List El), gk + i = n ∧ s19 = .int .i64 (i : Int) ∧ Sdq (NS w wr go g (qs.map Prod.snd) cb zA zc c0 pv os (LnP.scan [] ((psB (qs.map Prod.fst)).take i))))
 case atStart => exact ⟨0, _, _, rfl, rfl, hi0⟩
 case round =>
  clear hi0;obtain ⟨i, pv, os, hgi, rfl, hN⟩ := hrel
  cases gk with
  | zero =>
   obtain rfl : i = n := by omega
   obtain ⟨PA, pc, rfl⟩ := hN.out.pv
   obtain ⟨no, eno0⟩ : ∃ no, no = os.length := ⟨_, rfl⟩
   rw [← eno0] at hN
   have hlx := Sdq.mk (show (LnP.scan [] ((psB (qs.map Prod.fst)).take i)).length ≤ 1000000 by
    have h2 := scan_len ((psB (qs.map Prod.fst)).take i) []
    simp at h2
    omega)
   have hrr := Sdq.mk (show tt c0 (LnP.scan [] ((psB (qs.map Prod.fst)).take i)) = rr by
    rw [HRR.out, List.take_of_length_le (by have := hqn.out; simp [psB]; omega), norm_done hq.out hu.out hR3.out, hps.out, hc0.out])
   have E := Sdq.mk (end3 (O := fun k => w.heap.size + 1 < k) (ok := ok) (x := rr) hN.out.res hN.out.bel (Nat.le_succ _) (fun k hk => ⟨hok.out k (by omega), by omega⟩) (by rw [← hrr.out]; exact hN.out.kv hlx.out) _ rfl);have z0 := Ctx.blk hN.out.blk 0 rfl;have z1 := Ctx.blk hN.out.blk 1 rfl;have z2 := Ctx.blk hN.out.blk 2 rfl;have r0 := Ctx.blk hN.out.res 0 rfl;have r1 := Ctx.blk hN.out.res 1 rfl;have r2 := Ctx.blk hN.out.res 2 rfl;have f0 := Ctx.frz hN.out.res 0;have f1 := Ctx.frz hN.out.res 1;have f2 := Ctx.frz hN.out.res 2;clear hN hlx hrr eno0
   go_wp2_with fail
   have E := E.out;clear z0 z1 z2 r0 r1 r2 f0 f1 f2;generalize World.setCell _ _ _ = wf at E ⊢;obtain ⟨EP, e0, e1, e2⟩ := E;exact bodyPost_ret (by first | (simp [results, Tryd.results17, go_sem, e0, e1, e2]; done) | (simp [results, Tryd.results17, go_sem, e0, e1, e2]; rfl)) rfl EP
  | succ j =>
   have hin : i < n := by omega
   have hiq : i < qs.length := by rw [hqn.out]; exact hin
   obtain ⟨hLA, -⟩ := hs.out.resolve_left (fun h => by rw [h] at hiq; simp at hiq);subst hLA
   obtain ⟨q, eq⟩ : ∃ q, q = qs[i] := ⟨_, rfl⟩
   obtain ⟨e, ee⟩ : ∃ e, e = q.2 := ⟨_, rfl⟩
   have hfk := Sdq.mk (show Kd.FK k44 w (fun k => k < w.heap.size) q.1 e.cs by rw [ee]; exact hR3.out q (by rw [eq]; exact List.getElem_mem hiq));obtain ⟨O3, -⟩ := hN.out.src.resolve_left (fun h => by have := congrArg List.length h; simp at this; rw [this] at hiq; simp at hiq)
   have hml : i < (qs.map Prod.snd).length := by simpa using hiq
   have he : (qs.map Prod.snd)[i] = e := by rw [List.getElem_map, ee, eq]
   have x0 := O3.at0 hml;have x1 := O3.at1 hml;have x2 := O3.at2 hml;rw [he] at x0 x1 x2;have hqE := Sdq.mk (show qs[i]? = some q ∧ e = q.2 from ⟨by rw [eq]; exact List.getElem?_eq_getElem hiq, ee⟩)
   have hdg := Sdq.mk (show Dg B32 q.1.f1.f1 ∧ q.1.f1.f1.length ≤ 1000 by
    have h1 : q.1 ∈ x.f1 := by rw [← hps.out]; exact List.mem_map_of_mem (hq.out.mem_iff.1 (by rw [eq]; exact List.getElem_mem hiq))
    exact ⟨hx.out.dg _ h1, hx.out.len _ h1⟩)
   have hdgq := Sdq.mk (show ∀ q ∈ qs, Dg B32 q.1.f1.f1 ∧ q.1.f1.f1.length ≤ 1000 from fun q hq2 => by
    have h1 : q.1 ∈ x.f1 := by rw [← hps.out]; exact List.mem_map_of_mem (hq.out.mem_iff.1 hq2)
    exact ⟨hx.out.dg _ h1, hx.out.len _ h1⟩)
   have hst := Sdq.mk (show LnP.scan [] ((psB (qs.map Prod.fst)).take (i + 1)) = LnP.step (LnP.scan [] ((psB (qs.map Prod.fst)).take i)) (q.1.f0, bv q.1.f1) by
    have h1 : i < (psB (qs.map Prod.fst)).length := by simpa [psB] using hiq
    rw [List.take_succ_eq_append_getElem h1];unfold LnP.scan;rw [List.foldl_append, List.foldl_cons, List.foldl_nil, eq]
    simp [psB])
   clear O3 hml he eq ee hiq
   go_upto_region 7 with fail
   obtain ⟨PA, pc, rfl⟩ := hN.out.pv
   obtain ⟨xs, hxs⟩ : ∃ xs, xs = LnP.scan [] ((psB (qs.map Prod.fst)).take i) := ⟨_, rfl⟩
   rw [← hxs] at hN hst
   obtain ⟨no, eno0⟩ : ∃ no, no = os.length := ⟨_, rfl⟩
   rw [← eno0] at hN;have eno := Sdq.mk eno0;clear eno0
   have C6 : Ctx [uBlk wr.heap.size [.int .i64 e.v, .bool e.b, .slice e.A e.n e.c] 44, uNS w go g (qs.map Prod.snd) cb zA zc c0 (.slice PA no pc) os xs] (wr.alloc (.cells #[.int .i64 e.v, .bool e.b, .slice e.A e.n e.c] 44)) := ⟨blk_new wr _, hN.out.below (bal (Below.refl _ _) _), trivial⟩
   have hxs := Sdq.mk hxs;refine absW _ C6 ?_;clear C6 hN x0 x1 x2;generalize wr.heap.size = p6;intro w6 C;have HP := Sdq.mk (And.intro hgi hin)
   rcases List.eq_nil_or_concat os with rfl | ⟨os', el, hos⟩
   ·have z2 := Ctx.blk C.2.1.blk 2 rfl
    obtain rfl : no = 0 := by rw [eno.out]; rfl
    have C := Sdq.mk C
    go_upto_region 8 with fail
    refine wp_region_ws 13 (by kernel_rfl) (by kernel_rfl) ?_;simp only [List.take_succ_cons, List.take_zero, List.drop_succ_cons, List.drop_zero]
    repeat (refine ws_step (fun K hK => ?_); go_simp; refine hK _ ?_; clear hK K)
    refine ws_nil ?_
    go_upto_region 12 with fail
    have HST := Sdq.mk (show LnP.step xs (q.1.f0, bv q.1.f1) = if (q.1.f0, bv q.1.f1).2 = 0 then xs else xs ++ [(q.1.f0, bv q.1.f1)] by
     have h1 := C.out.2.1.len;obtain rfl : xs = [] := List.eq_nil_of_length_eq_zero (by simpa using h1.symm)
     exact step_nil _)
    have C := Sdq.mk (C.out.drew);refine absW _ C.out ?_;clear C;intro w7 C;have p1 := Ctx.blk C.1 1 rfl;have p2 := Ctx.blk C.1 2 rfl;have hf7 := Sdq.mk (Kd.FK_step hfk.out (fun k hk _ => C.2.1.bel.block k hk));have hsg := big_Sign _ q.1.f1 w7 ((el_kv hf7.out).mono (fun _ _ => trivial)) (hdg.out).1
    obtain ⟨s, hs_⟩ : ∃ s, s = sgn (bv q.1.f1) := ⟨_, rfl⟩
    rw [← hs_] at hsg;have C := Sdq.mk C;by_cases hz : bv q.1.f1 = 0
    ·obtain rfl : s = 0 := by rw [hs_, hz]; exact sgn_zero rfl
     have HX := Sdq.mk (show LnP.step xs (q.1.f0, bv q.1.f1) = xs by rw [HST.out]; exact if_pos hz);clear hs_ hz;go_wp2_with (go_at_call 51; refine hsg.mono ?_; rintro e8 w8 ⟨rfl, hb8⟩)
     go_roundg j
     case measure => go_light; omega
     case rel => go_light; exact ⟨i + 1, _, _, by have := HP.out; omega, by go_num, ⟨by rw [hst.out, HX.out]; exact (C.out.below hb8).2.1⟩⟩
    ·have hs0 : (s != 0) = true := by
      simp only [bne_iff_ne, ne_eq];rw [hs_]
      rcases Int.lt_or_gt_of_ne hz with h | h
      ·rw [sgn_lt h]; decide
      ·rw [sgn_gt h]; decide
     have HX := Sdq.mk (show LnP.step xs (q.1.f0, bv q.1.f1) = xs ++ [(q.1.f0, bv q.1.f1)] by rw [HST.out]; exact if_neg hz);clear hs_ hz
     go_upto_region 13 with (go_at_call 51; refine hsg.mono ?_; rintro e8 w8 ⟨rfl, hb8⟩)
     have C9 := C.out.below hb8;clear hb8 hsg C p1 p2 z2;have hL := Sdq.mk (fun (W : World) (hC : Ctx [uBlk p6 [.int .i64 e.v, .bool e.b, .slice e.A e.n e.c] 44, uNS w go g (qs.map Prod.snd) cb zA zc c0 (.slice PA (0) pc) (([] : List El)) xs] W) => big_Norm (Fr w.heap.size go (.slice PA (0) pc)) _ q.1.f1 W hC.2.1.fresh ((el_kv (Kd.FK_step hfk.out (fun k hk _ => hC.2.1.bel.block k hk))).mono (fun _ _ => trivial)) ⟨hdg.out.1, by have := hdg.out.2; omega⟩);refine absW _ C9 ?_;clear C9;intro w9 C;refine flowS (m := 9) (n := 12) lin_Norm.tab13 rfl (Ctx _) (Rl [uEq (.pointer (some ⟨go, 2, none⟩)), uEq (.slice PA (0) pc), uEq (.pointer (some ⟨p6, 0, none⟩)), uEq (.int .i64 e.v), uEq (.pointer (some ⟨p6, 1, none⟩)), uEq (.agg #[.bool e.b, .slice e.A e.n e.c]), uKd k24 (Fr w.heap.size go (.slice PA (0) pc)) (can (bv q.1.f1)), uKd k44 (Fr w.heap.size go (.slice PA (0) pc)) (cp (q.1.f0, bv q.1.f1)), uBx (Fr w.heap.size go (.slice PA (0) pc)) (cp (q.1.f0, bv q.1.f1))]) rfl (by kernel_rfl) (by kernel_rfl) (fun _ _ h hb => h.below hb) (Rl.up _) C ⟨⟨⟨⟨⟨⟨⟨⟨⟨trivial, ?_⟩, ?_⟩, ?_⟩, ?_⟩, ?_⟩, ?_⟩, ?_⟩, ?_⟩, ?_⟩ ?_
     ·refine At.of _ rfl (fun e_ a w hC hd hb K hK => ?_)
      have b4 : a.tmps[4]? = some (.pointer (some ⟨go, 0, none⟩)) := hb 4 (by decide);refine value_ (w1 := w) (v := .pointer (some ⟨go, 2, none⟩)) (by rfl) rfl ?_ (hK.out _ _ (Below.refl _ _) rfl);clear hC hd hb hK hL
      first | (go_simp; done) | (go_simp; rfl)
     ·refine At.of _ rfl (fun e_ a w hC hd hb K hK => ?_)
      have q75 := (hd 0 (by decide)).2 75 rfl;rw [show e_ 0 = _ from (hd 0 (by decide)).1] at q75;have cc2 : w.cell? ⟨go, 2, none⟩ = some (.slice PA (0) pc) := Ctx.blk hC.2.1.blk 2 rfl;refine value_ (w1 := w) (v := .slice PA (0) pc) (by rfl) rfl ?_ (hK.out _ _ (Below.refl _ _) rfl);clear hC hd hb hK hL
      first | (go_simp; done) | (go_simp; rfl)
     ·refine At.of _ rfl (fun e_ a w hC hd hb K hK => ?_)
      have b6 : a.tmps[6]? = some (.pointer (some ⟨p6, 0, none⟩)) := hb 6 (by decide);refine value_ (w1 := w) (v := .pointer (some ⟨p6, 0, none⟩)) (by rfl) rfl ?_ (hK.out _ _ (Below.refl _ _) rfl);clear hC hd hb hK hL
      first | (go_simp; done) | (go_simp; rfl)
     ·refine At.of _ rfl (fun e_ a w hC hd hb K hK => ?_)
      have q77 := (hd 2 (by decide)).2 77 rfl;rw [show e_ 2 = _ from (hd 2 (by decide)).1] at q77;have cc0 : w.cell? ⟨p6, 0, none⟩ = some (.int .i64 e.v) := Ctx.blk hC.1 0 rfl;refine value_ (w1 := w) (v := .int .i64 e.v) (by rfl) rfl ?_ (hK.out _ _ (Below.refl _ _) rfl);clear hC hd hb hK hL
      first | (go_simp; done) | (go_simp; rfl)
     ·refine At.of _ rfl (fun e_ a w hC hd hb K hK => ?_)
      have b6 : a.tmps[6]? = some (.pointer (some ⟨p6, 0, none⟩)) := hb 6 (by decide);refine value_ (w1 := w) (v := .pointer (some ⟨p6, 1, none⟩)) (by rfl) rfl ?_ (hK.out _ _ (Below.refl _ _) rfl);clear hC hd hb hK hL
      first | (go_simp; done) | (go_simp; rfl)
     ·refine At.of _ rfl (fun e_ a w hC hd hb K hK => ?_)
      have q79 := (hd 4 (by decide)).2 79 rfl;rw [show e_ 4 = _ from (hd 4 (by decide)).1] at q79;have cc1 : w.cell? ⟨p6, 1, none⟩ = some (.bool e.b) := Ctx.blk hC.1 1 rfl;have cc2 : w.cell? ⟨p6, 2, none⟩ = some (.slice e.A e.n e.c) := Ctx.blk hC.1 2 rfl;refine value_ (w1 := w) (v := .agg #[.bool e.b, .slice e.A e.n e.c]) (by rfl) rfl ?_ (hK.out _ _ (Below.refl _ _) rfl);clear hC hd hb hK hL
      first | (go_simp; done) | (go_simp; rfl)
     ·refine At.of _ rfl (fun e_ a w hC hd hb K hK => ?_)
      have q80 := (hd 5 (by decide)).2 80 rfl;rw [show e_ 5 = _ from (hd 5 (by decide)).1] at q80;refine goes_ Tryd.func50 (by kernel_rfl) rfl #[.agg #[.bool e.b, .slice e.A e.n e.c]] (by rfl) rfl rfl (by first | (simp [Act.eval, q80]; done) | (simp [Act.eval, q80]; rfl)) ?_;refine (hL.out w hC).mono ?_;rintro en w' ⟨v, rfl, hv, hb'⟩;exact ⟨v, rfl, hK.out v w' hb' hv⟩
     ·refine At.of _ rfl (fun e_ a w hC hd hb K hK => ?_)
      have q78 := (hd 3 (by decide)).2 78 rfl;rw [show e_ 3 = _ from (hd 3 (by decide)).1] at q78;have q81 := (hd 6 (by decide)).2 81 rfl;obtain ⟨yA, yc, he6, yl, yF⟩ := Kv.openB (hd 6 (by decide)).1;rw [he6] at q81;refine value_ (w1 := w) (v := .agg #[.int .i64 e.v, .bool (can (bv q.1.f1)).f0, .slice yA (can (bv q.1.f1)).f1.length yc]) (by rfl) rfl ?_ (hK.out _ _ (Below.refl _ _) ⟨_, rfl, by rw [(fk_el hfk.out).1]; exact k44_mkF w _ (cp (q.1.f0, bv q.1.f1)) yl yF⟩);clear hC hd hb hK hL yl yF he6
      first | (go_simp; done) | (go_simp; rfl)
     ·refine At.of _ rfl (fun e_ a w hC hd hb K hK => ?_)
      have q82 := (hd 7 (by decide)).2 82 rfl;obtain ⟨cs7, he7, hK7⟩ := (hd 7 (by decide)).1;obtain ⟨yA, yc, rfl, yl, yF⟩ := k44_openF hK7;rw [he7] at q82;refine value_ (w1 := w.alloc (.cells (El.cs ⟨q.1.f0, (can (bv q.1.f1)).f0, yA, (can (bv q.1.f1)).f1.length, yc⟩).toArray 44)) (v := .slice (some ⟨w.heap.size, 0, none⟩) 1 1) (by rfl) rfl ?_ (hK.out _ _ (bal (Below.refl _ _) _) ⟨w.heap.size, _, rfl, blk_new w _, Kd.FK_below hK7 (bal (Below.refl _ _) _)⟩);clear hC hd hb hK hL yl yF he7 hK7;unfold El.cs
      first | (go_simp; done) | (go_simp; rfl)
     ·intro e_ w10 hC hr a ha
      obtain ⟨gb, e', he8, hbx, hK8⟩ := hr.2;have r1 : e_ 1 = .slice PA (0) pc := hr.1.1.1.1.1.1.1.2;simp only [fill, Act.put, r1, he8, Nat.reduceAdd, Nat.reduceLT, decide_true, decide_false, if_true, Bool.false_eq_true, if_false, List.setIfInBounds_toArray, List.set_cons_zero, List.set_cons_succ] at ha;subst ha;clear hr r1 he8 hL;obtain ⟨i0, hi, hzz⟩ := Option.map_eq_some_iff.1 infoP;simp only [Prod.mk.injEq] at hzz;obtain ⟨hz1, hz2, hz3⟩ := hzz;have hHI := Sdq.mk (And.intro hi (And.intro hz1 (And.intro hz2 hz3)));clear hi hz1 hz2 hz3;have hN := Sdq.mk hC.2.1;have hnw := Sdq.mk (bx_news hbx);have hone := Sdq.mk (cs_one1 e');have hK8 := Sdq.mk hK8;have hOL := Sdq.mk (show (([] : List El)).length ≤ 100001 by have := hN.out.len; have h2 := scan_len ((psB (qs.map Prod.fst)).take i) []; rw [← hxs.out, ← this] at h2; have := HP.out; simp at h2 ⊢ <;> omega);have hsz10 := Sdq.mk (show w.heap.size + 2 ≤ w10.heap.size by have h1 := blk_lt (show w10.heap[go]? = _ from hN.out.blk); have h2 := hN.out.lt; omega);clear hC hbx;simp only [List.drop_succ_cons, List.drop_zero]
      go_wp2_with (first
       | ((with_reducible refine gate_builtin (b := .append) (xs := #[.tmp 76, .tmp 83]) rfl ?_); at_builtin; go_loud (refine wpList_append_own_at _ rfl (.tmp 76) (.tmp 83) 25 rfl (w.heap.size + 2) 44 i0 _ 3 40 undP hHI.out.1 hHI.out.2.1 hHI.out.2.2.1 hHI.out.2.2.2 rfl (by decide) (.slice PA (0) pc) (([] : List El)).length ((([] : List El)).flatMap El.cs) rfl hN.out.own ⟨gb, 0, none⟩ 1 1 e'.cs rfl rfl hnw.out hone.out (by have := hOL.out; simp only [maxLen]; omega) (by have := hOL.out; omega) hsz10.out ?_; intro v1 w11 hown1 hg1 hnil1 hat1; obtain ⟨g1, c1, hv1, -⟩ := ownsRow_slice hown1 (by omega); subst hv1; have hgo := (show (uBlk go _ 27).p w11 from (hg1.block go (blk_lt (show w10.heap[go]? = _ from hN.out.blk)) hN.out.apart.1).trans hN.out.blk); have z2 := Ctx.blk hgo 2 rfl; have f2 := Ctx.frz hgo 2; have HNS := Sdq.mk (hN.out.app (x := (q.1.f0, bv q.1.f1)) hK8.out hg1 hat1 hown1); clear hgo hown1 hg1 hnil1 hat1)))
      clear z2 f2
      go_roundg j
      case measure => go_light; omega
      case rel => go_light; exact ⟨i + 1, .slice (some ⟨g1, 0, none⟩) ((([] : List El)).length + 1) c1, ([] : List El) ++ [e'], by have := HP.out; omega, by go_num, ⟨by rw [hst.out, HX.out]; first | exact HNS.out | (have h := HNS.out; simp only [List.length_append, List.length_cons, List.length_nil, Nat.zero_add] at h ⊢; exact h)⟩⟩
   ·rw [List.concat_eq_append] at hos
    subst hos
    obtain ⟨k, ek⟩ : ∃ k, k = os'.length := ⟨_, rfl⟩
    obtain ⟨gp, pc', hpe, hgpb, hkc, -⟩ := ownsRow_slice C.2.1.own (by simp);simp only [Value.slice.injEq, true_and] at hpe;obtain ⟨rfl, hno, rfl⟩ := hpe;simp only [List.length_append, List.length_singleton] at hno;rw [← ek] at hno;subst hno;have hown := C.2.1.own;rw [show (os' ++ [el]).length = k + 1 by simp [ek]] at hown;have y0 := (ownsRow_cell (j := k * 3) (u := .int .i64 el.v) hown (by rw [ek]; have := cs_get (os' ++ [el]) os'.length 0 (by simp) (by decide); simpa [El.cs] using this)).1;have z2 := Ctx.blk C.2.1.blk 2 rfl;have p0 := Ctx.blk C.1 0 rfl
    have lk : k ≤ 100000 := by
     have h1 := C.2.1.len;have h2 := scan_len ((psB (qs.map Prod.fst)).take i) [];rw [← hxs.out, ← h1] at h2
     simp at h2
     omega
    have n1 : (k : Int) < (k : Int) + 1 := by omega
    have HK := Sdq.mk (And.intro ek hgpb);clear ek hgpb hown;have C := Sdq.mk C;by_cases hv : el.v = e.v
    ·have hvb : (el.v == e.v) = true := by simpa using hv
     go_upto_region 8 with fail
     have xk := x64 lk;have wk := w64 (n := k) rfl lk;refine wp_region_ws 13 (by kernel_rfl) (by kernel_rfl) ?_;simp only [List.take_succ_cons, List.take_zero, List.drop_succ_cons, List.drop_zero]
     repeat (refine ws_step (fun K hK => ?_); go_simp; refine hK _ ?_; clear hK K)
     refine ws_nil ?_;clear xk wk
     go_upto_region 9 with fail
     have C := Sdq.mk (C.out.drew);obtain ⟨ys, x_, hxe, hys, hvx, -⟩ := C.out.2.1.last;have hbg := Sdq.mk (show Big (can x_.2) from scan_big (qs := qs) (i := i) (by have := HP.out; omega) (fun q hq => hdgq.out q hq) x_ (by rw [← hxs.out, hxe]; simp));subst hxe;have HST := Sdq.mk (show LnP.step (ys ++ [x_]) (q.1.f0, bv q.1.f1) = if (x_.2 + bv q.1.f1) = 0 then ys else ys ++ [(x_.1, (x_.2 + bv q.1.f1))] from step_eq (by rw [← hvx, hv]; exact (fk_el hfk.out).1));have hvx := Sdq.mk hvx;clear hys y0 z2 p0;have C9 := C.out;clear C;refine absW _ C9 ?_;clear C9;intro w9 C;have hL := Sdq.mk (fun (W : World) (hC : Ctx [uBlk p6 [.int .i64 e.v, .bool e.b, .slice e.A e.n e.c] 44, uNS w go g (qs.map Prod.snd) cb zA zc c0 (.slice (some ⟨gp, 0, none⟩) (k + 1) pc) (os' ++ [el]) (ys ++ [x_])] W) => (big_Add (Fr w.heap.size go (.slice (some ⟨gp, 0, none⟩) (k + 1) pc)) (.agg #[.bool el.b, .slice el.A el.n el.c]) (.agg #[.bool e.b, .slice e.A e.n e.c]) (can x_.2) q.1.f1 W hC.2.1.fresh (by obtain ⟨ys2, x2, h1, -, -, h3⟩ := hC.2.1.last; obtain ⟨-, h4⟩ := List.append_inj' h1 rfl; obtain rfl : x_ = x2 := (by simpa using h4); exact (el_kv h3).mono (fun _ _ => trivial)) ((el_kv (Kd.FK_step hfk.out (fun k hk _ => hC.2.1.bel.block k hk))).mono (fun _ _ => trivial)) hbg.out ⟨hdg.out.1, by have := hdg.out.2; omega⟩));rw [bv_can] at hL
     have hyc := Sdq.mk (fun (W : World) (hC : NS w W go g (qs.map Prod.snd) cb zA zc c0 (.slice (some ⟨gp, 0, none⟩) (k + 1) pc) (os' ++ [el]) (ys ++ [x_])) => (show W.cell? ⟨gp, k * 3 + 1, none⟩ = some (.bool el.b) ∧ W.cell? ⟨gp, k * 3 + 2, none⟩ = some (.slice el.A el.n el.c) ∧ W.frozen? ⟨gp, k * 3 + 1, none⟩ = false ∧ W.frozen? ⟨gp, k * 3 + 2, none⟩ = false from by
      have hown := hC.own;rw [show (os' ++ [el]).length = k + 1 by simp [HK.out.1]] at hown;have h1 := ownsRow_cell (j := k * 3 + 1) (u := .bool el.b) hown (by rw [HK.out.1]; have := cs_get (os' ++ [el]) os'.length 1 (by simp) (by decide); simpa [El.cs] using this);have h2 := ownsRow_cell (j := k * 3 + 2) (u := .slice el.A el.n el.c) hown (by rw [HK.out.1]; have := cs_get (os' ++ [el]) os'.length 2 (by simp) (by decide); simpa [El.cs] using this)
      exact ⟨h1.1, h2.1, h1.2, h2.2⟩))
     have wk := w64 (n := k) rfl lk;have xk := x64 lk;refine flowS (m := 14) (n := 17) lin_Norm.tab9 rfl (Ctx _) (Rl [uEq (.pointer (some ⟨go, 2, none⟩)), uEq (.slice (some ⟨gp, 0, none⟩) (k + 1) pc), uEq (.int .i64 ((k : Int) + 1)), uEq (.int .i64 (k : Int)), uEq (.pointer (some ⟨go, 2, none⟩)), uEq (.slice (some ⟨gp, 0, none⟩) (k + 1) pc), uEq (.int .i64 ((k : Int) + 1)), uEq (.int .i64 (k : Int)), uEq (.pointer (some ⟨gp, k * 3, none⟩)), uEq (.pointer (some ⟨gp, k * 3 + 1, none⟩)), uEq (.agg #[.bool el.b, .slice el.A el.n el.c]), uEq (.pointer (some ⟨p6, 1, none⟩)), uEq (.agg #[.bool e.b, .slice e.A e.n e.c]), uKd k24 (Fr w.heap.size go (.slice (some ⟨gp, 0, none⟩) (k + 1) pc)) (can (x_.2 + bv q.1.f1))]) rfl (by kernel_rfl) (by kernel_rfl) (fun _ _ h hb => h.below hb) (Rl.up _) C ⟨⟨⟨⟨⟨⟨⟨⟨⟨⟨⟨⟨⟨⟨trivial, ?_⟩, ?_⟩, ?_⟩, ?_⟩, ?_⟩, ?_⟩, ?_⟩, ?_⟩, ?_⟩, ?_⟩, ?_⟩, ?_⟩, ?_⟩, ?_⟩ ?_
     ·refine At.of _ rfl (fun e_ a w hC hd hb K hK => ?_)
      have b4 : a.tmps[4]? = some (.pointer (some ⟨go, 0, none⟩)) := hb 4 (by decide);refine value_ (w1 := w) (v := .pointer (some ⟨go, 2, none⟩)) (by rfl) rfl ?_ (hK.out _ _ (Below.refl _ _) rfl);clear hC hd hb hK hL
      first | (go_simp; done) | (go_simp; rfl)
     ·refine At.of _ rfl (fun e_ a w hC hd hb K hK => ?_)
      have q40 := (hd 0 (by decide)).2 40 rfl;rw [show e_ 0 = _ from (hd 0 (by decide)).1] at q40;have cc2 : w.cell? ⟨go, 2, none⟩ = some (.slice (some ⟨gp, 0, none⟩) (k + 1) pc) := Ctx.blk hC.2.1.blk 2 rfl;refine value_ (w1 := w) (v := .slice (some ⟨gp, 0, none⟩) (k + 1) pc) (by rfl) rfl ?_ (hK.out _ _ (Below.refl _ _) rfl);clear hC hd hb hK hL
      first | (go_simp; done) | (go_simp; rfl)
     ·refine At.of _ rfl (fun e_ a w hC hd hb K hK => ?_)
      have b7 : a.tmps[7]? = some (.int .i64 ((k : Int) + 1)) := hb 7 (by decide);refine value_ (w1 := w) (v := .int .i64 ((k : Int) + 1)) (by rfl) rfl ?_ (hK.out _ _ (Below.refl _ _) rfl);clear hC hd hb hK hL
      first | (go_simp; done) | (go_simp; rfl)
     ·refine At.of _ rfl (fun e_ a w hC hd hb K hK => ?_)
      have q42 := (hd 2 (by decide)).2 42 rfl;rw [show e_ 2 = _ from (hd 2 (by decide)).1] at q42;refine value_ (w1 := w) (v := .int .i64 (k : Int)) (by rfl) rfl ?_ (hK.out _ _ (Below.refl _ _) rfl);clear hC hd hb hK hL
      first | (go_simp; done) | (go_simp; rfl)
     ·refine At.of _ rfl (fun e_ a w hC hd hb K hK => ?_)
      have b4 : a.tmps[4]? = some (.pointer (some ⟨go, 0, none⟩)) := hb 4 (by decide);refine value_ (w1 := w) (v := .pointer (some ⟨go, 2, none⟩)) (by rfl) rfl ?_ (hK.out _ _ (Below.refl _ _) rfl);clear hC hd hb hK hL
      first | (go_simp; done) | (go_simp; rfl)
     ·refine At.of _ rfl (fun e_ a w hC hd hb K hK => ?_)
      have q44 := (hd 4 (by decide)).2 44 rfl;rw [show e_ 4 = _ from (hd 4 (by decide)).1] at q44;have cc2 : w.cell? ⟨go, 2, none⟩ = some (.slice (some ⟨gp, 0, none⟩) (k + 1) pc) := Ctx.blk hC.2.1.blk 2 rfl;refine value_ (w1 := w) (v := .slice (some ⟨gp, 0, none⟩) (k + 1) pc) (by rfl) rfl ?_ (hK.out _ _ (Below.refl _ _) rfl);clear hC hd hb hK hL
      first | (go_simp; done) | (go_simp; rfl)
     ·refine At.of _ rfl (fun e_ a w hC hd hb K hK => ?_)
      have b7 : a.tmps[7]? = some (.int .i64 ((k : Int) + 1)) := hb 7 (by decide);refine value_ (w1 := w) (v := .int .i64 ((k : Int) + 1)) (by rfl) rfl ?_ (hK.out _ _ (Below.refl _ _) rfl);clear hC hd hb hK hL
      first | (go_simp; done) | (go_simp; rfl)
     ·refine At.of _ rfl (fun e_ a w hC hd hb K hK => ?_)
      have q46 := (hd 6 (by decide)).2 46 rfl;rw [show e_ 6 = _ from (hd 6 (by decide)).1] at q46;refine value_ (w1 := w) (v := .int .i64 (k : Int)) (by rfl) rfl ?_ (hK.out _ _ (Below.refl _ _) rfl);clear hC hd hb hK hL
      first | (go_simp; done) | (go_simp; rfl)
     ·refine At.of _ rfl (fun e_ a w hC hd hb K hK => ?_)
      have q45 := (hd 5 (by decide)).2 45 rfl;rw [show e_ 5 = _ from (hd 5 (by decide)).1] at q45;have q47 := (hd 7 (by decide)).2 47 rfl;rw [show e_ 7 = _ from (hd 7 (by decide)).1] at q47;refine value_ (w1 := w) (v := .pointer (some ⟨gp, k * 3, none⟩)) (by rfl) rfl ?_ (hK.out _ _ (Below.refl _ _) rfl);clear hC hd hb hK hL
      first | (go_simp; done) | (go_simp; rfl)
     ·refine At.of _ rfl (fun e_ a w hC hd hb K hK => ?_)
      have q48 := (hd 8 (by decide)).2 48 rfl;rw [show e_ 8 = _ from (hd 8 (by decide)).1] at q48;refine value_ (w1 := w) (v := .pointer (some ⟨gp, k * 3 + 1, none⟩)) (by rfl) rfl ?_ (hK.out _ _ (Below.refl _ _) rfl);clear hC hd hb hK hL
      first | (go_simp; done) | (go_simp; rfl)
     ·refine At.of _ rfl (fun e_ a w hC hd hb K hK => ?_)
      have q49 := (hd 9 (by decide)).2 49 rfl;rw [show e_ 9 = _ from (hd 9 (by decide)).1] at q49;obtain ⟨cc1, cc2, -, -⟩ := hyc.out w hC.2.1;refine value_ (w1 := w) (v := .agg #[.bool el.b, .slice el.A el.n el.c]) (by rfl) rfl ?_ (hK.out _ _ (Below.refl _ _) rfl);clear hC hd hb hK hL
      first | (go_simp; done) | (go_simp; rfl)
     ·refine At.of _ rfl (fun e_ a w hC hd hb K hK => ?_)
      have b6 : a.tmps[6]? = some (.pointer (some ⟨p6, 0, none⟩)) := hb 6 (by decide);refine value_ (w1 := w) (v := .pointer (some ⟨p6, 1, none⟩)) (by rfl) rfl ?_ (hK.out _ _ (Below.refl _ _) rfl);clear hC hd hb hK hL
      first | (go_simp; done) | (go_simp; rfl)
     ·refine At.of _ rfl (fun e_ a w hC hd hb K hK => ?_)
      have q51 := (hd 11 (by decide)).2 51 rfl;rw [show e_ 11 = _ from (hd 11 (by decide)).1] at q51;have cc1 : w.cell? ⟨p6, 1, none⟩ = some (.bool e.b) := Ctx.blk hC.1 1 rfl;have cc2 : w.cell? ⟨p6, 2, none⟩ = some (.slice e.A e.n e.c) := Ctx.blk hC.1 2 rfl;refine value_ (w1 := w) (v := .agg #[.bool e.b, .slice e.A e.n e.c]) (by rfl) rfl ?_ (hK.out _ _ (Below.refl _ _) rfl);clear hC hd hb hK hL
      first | (go_simp; done) | (go_simp; rfl)
     ·refine At.of _ rfl (fun e_ a w hC hd hb K hK => ?_)
      have q50 := (hd 10 (by decide)).2 50 rfl;rw [show e_ 10 = _ from (hd 10 (by decide)).1] at q50;have q52 := (hd 12 (by decide)).2 52 rfl;rw [show e_ 12 = _ from (hd 12 (by decide)).1] at q52;refine goes_ Tryd.func38 (by kernel_rfl) rfl #[.agg #[.bool el.b, .slice el.A el.n el.c], .agg #[.bool e.b, .slice e.A e.n e.c]] (by rfl) rfl rfl (by first | (simp [Act.eval, q50, q52]; done) | (simp [Act.eval, q50, q52]; rfl)) ?_;refine (hL.out w hC).mono ?_;rintro en w' ⟨v, rfl, hv, hb'⟩;exact ⟨v, rfl, hK.out v w' hb' hv⟩
     ·intro e_ w10 hC hr a ha
      obtain ⟨yA, yc, he13, yl, yF⟩ := Kv.openB hr.2;have r1 : e_ 1 = .slice (some ⟨gp, 0, none⟩) (k + 1) pc := hr.1.1.1.1.1.1.1.1.1.1.1.1.2;have r3 : e_ 3 = .int .i64 (k : Int) := hr.1.1.1.1.1.1.1.1.1.1.2;simp only [fill, Act.put, r1, r3, he13, Nat.reduceAdd, Nat.reduceLT, decide_true, decide_false, if_true, Bool.false_eq_true, if_false, List.setIfInBounds_toArray, List.set_cons_zero, List.set_cons_succ] at ha;subst ha;clear hr r1 r3 he13 hL
      obtain ⟨yv, eyv⟩ : ∃ y, y = (x_.2 + bv q.1.f1) := ⟨_, rfl⟩
      rw [← eyv] at yl yF HST ⊢;have HF := Sdq.mk (show Kd.FK k44 w10 (Fr w.heap.size go (.slice (some ⟨gp, 0, none⟩) (k + 1) pc)) (cp (x_.1, yv)) (El.cs ⟨el.v, (can yv).f0, yA, (can yv).f1.length, yc⟩) from by unfold El.cs; rw [hvx.out]; exact k44_mkF w10 _ (cp (x_.1, yv)) yl yF);obtain ⟨u1, u2, g1, g2⟩ := hyc.out w10 hC.2.1;have HN := Sdq.mk (show NS w ((w10.setCell ⟨gp, k * 3 + 1, none⟩ (.bool (can yv).f0)).setCell ⟨gp, k * 3 + 1 + 1, none⟩ (.slice yA (can yv).f1.length yc)) go g (qs.map Prod.snd) cb zA zc c0 (.slice (some ⟨gp, 0, none⟩) (k + 1) pc) (os' ++ [⟨el.v, (can yv).f0, yA, (can yv).f1.length, yc⟩]) (ys ++ [(x_.1, yv)]) from by have h := hC.2.1.put (by rw [← HK.out.1]) HF.out; rw [← HK.out.1] at h; exact h);clear hC hyc HF yl yF eyv;simp only [List.drop_succ_cons, List.drop_zero]
      go_upto_region 10 with fail
      refine absW [uNS w go g (qs.map Prod.snd) cb zA zc c0 (.slice (some ⟨gp, 0, none⟩) (k + 1) pc) (os' ++ [El.mk el.v (can yv).f0 yA (can yv).f1.length yc]) (ys ++ [(x_.1, yv)])] ⟨HN.out, trivial⟩ ?_;clear HN u1 u2 g1 g2 wk xk;intro w11 C
      obtain ⟨nA, enA⟩ : ∃ e', e' = (⟨el.v, (can yv).f0, yA, (can yv).f1.length, yc⟩ : El) := ⟨_, rfl⟩
      rw [← enA] at C;have hown := C.1.own;rw [show (os' ++ [nA]).length = k + 1 by simp [HK.out.1]] at hown;have u1 := (ownsRow_cell (j := k * 3 + 1) (u := .bool nA.b) hown (by rw [HK.out.1]; have := cs_get (os' ++ [nA]) os'.length 1 (by simp) (by decide); simpa [El.cs] using this)).1;have u2 := (ownsRow_cell (j := k * 3 + 2) (u := .slice nA.A nA.n nA.c) hown (by rw [HK.out.1]; have := cs_get (os' ++ [nA]) os'.length 2 (by simp) (by decide); simpa [El.cs] using this)).1;have z2 := Ctx.blk C.1.blk 2 rfl
      have hkv : Kv k24 (fun _ => True) w11 (.agg #[.bool nA.b, .slice nA.A nA.n nA.c]) (can yv) := by
       obtain ⟨ys2, x2, h1, -, -, h3⟩ := C.1.last;obtain ⟨-, h4⟩ := List.append_inj' h1 rfl
       obtain rfl : (x_.1, yv) = x2 := (by simpa using h4)
       exact (el_kv h3).mono (fun _ _ => trivial)
      have hsg := big_Sign _ (can yv) w11 hkv (can_dg yv);rw [bv_can] at hsg
      obtain ⟨s, hs_⟩ : ∃ s, s = sgn yv := ⟨_, rfl⟩
      rw [← hs_] at hsg;clear enA hown hkv;have C := Sdq.mk C;by_cases hz : yv = 0
      ·obtain rfl : s = 0 := by rw [hs_, hz]; exact sgn_zero rfl
       have HX := Sdq.mk (show LnP.step (ys ++ [x_]) (q.1.f0, bv q.1.f1) = ys by rw [HST.out]; exact if_pos hz);obtain ⟨i44, hi44, -⟩ := info_of infoP;have hcut := cut_h undP hi44 (some ⟨gp, 0, none⟩) (k + 1) pc k (by have := HK.out.1; simp at hkc; omega);clear hs_ hz hi44
       go_upto_region 11 with (go_at_call 51; refine hsg.mono ?_; rintro e8 w12 ⟨rfl, hb8⟩)
       have C2 := C.out.below hb8;clear C hb8 hsg u1 u2 z2;have z2 := Ctx.blk C2.1.blk 2 rfl;have f2 := Ctx.frz C2.1.blk 2;have HN2 := Sdq.mk (C2.1.cut (by rw [HK.out.1]));rw [← HK.out.1] at HN2;clear C2
       go_wp2_with fail
       go_roundg j
       case measure => go_light; omega
       case rel => go_light; exact ⟨i + 1, _, os', by have := HP.out; omega, by go_num, ⟨by rw [hst.out, HX.out]; exact HN2.out⟩⟩
      ·have hs0 : (s == 0) = false := by
        simp only [beq_eq_false_iff_ne, ne_eq];rw [hs_]
        rcases Int.lt_or_gt_of_ne hz with h | h
        ·rw [sgn_lt h]; decide
        ·rw [sgn_gt h]; decide
       have HX := Sdq.mk (show LnP.step (ys ++ [x_]) (q.1.f0, bv q.1.f1) = ys ++ [(x_.1, yv)] by rw [HST.out]; exact if_neg hz);clear hs_ hz;go_wp2_with (go_at_call 51; refine hsg.mono ?_; rintro e8 w12 ⟨rfl, hb8⟩)
       go_roundg j
       case measure => go_light; omega
       case rel => go_light; exact ⟨i + 1, _, _, by have := HP.out; omega, by go_num, ⟨by rw [hst.out, HX.out]; exact (C.out.below hb8).1⟩⟩
    ·have hvb : (el.v == e.v) = false := by simpa using hv
     go_upto_region 8 with fail
     have xk := x64 lk;have wk := w64 (n := k) rfl lk;refine wp_region_ws 13 (by kernel_rfl) (by kernel_rfl) ?_;simp only [List.take_succ_cons, List.take_zero, List.drop_succ_cons, List.drop_zero]
     repeat (refine ws_step (fun K hK => ?_); go_simp; refine hK _ ?_; clear hK K)
     refine ws_nil ?_;clear xk wk
     go_upto_region 12 with fail
     have HST := Sdq.mk (show LnP.step xs (q.1.f0, bv q.1.f1) = if (q.1.f0, bv q.1.f1).2 = 0 then xs else xs ++ [(q.1.f0, bv q.1.f1)] by
      obtain ⟨ys, x_, rfl, -, h2, -⟩ := C.out.2.1.last
      exact step_ne (fun h => hv (by rw [h2, h]; exact (fk_el hfk.out).1.symm)))
     have C := Sdq.mk (C.out.drew);refine absW _ C.out ?_;clear C;intro w7 C;have p1 := Ctx.blk C.1 1 rfl;have p2 := Ctx.blk C.1 2 rfl;have hf7 := Sdq.mk (Kd.FK_step hfk.out (fun k hk _ => C.2.1.bel.block k hk));have hsg := big_Sign _ q.1.f1 w7 ((el_kv hf7.out).mono (fun _ _ => trivial)) (hdg.out).1
     obtain ⟨s, hs_⟩ : ∃ s, s = sgn (bv q.1.f1) := ⟨_, rfl⟩
     rw [← hs_] at hsg;have C := Sdq.mk C;by_cases hz : bv q.1.f1 = 0
     ·obtain rfl : s = 0 := by rw [hs_, hz]; exact sgn_zero rfl
      have HX := Sdq.mk (show LnP.step xs (q.1.f0, bv q.1.f1) = xs by rw [HST.out]; exact if_pos hz);clear hs_ hz;go_wp2_with (go_at_call 51; refine hsg.mono ?_; rintro e8 w8 ⟨rfl, hb8⟩)
      go_roundg j
      case measure => go_light; omega
      case rel => go_light; exact ⟨i + 1, _, _, by have := HP.out; omega, by go_num, ⟨by rw [hst.out, HX.out]; exact (C.out.below hb8).2.1⟩⟩
     ·have hs0 : (s != 0) = true := by
       simp only [bne_iff_ne, ne_eq];rw [hs_]
       rcases Int.lt_or_gt_of_ne hz with h | h
       ·rw [sgn_lt h]; decide
       ·rw [sgn_gt h]; decide
      have HX := Sdq.mk (show LnP.step xs (q.1.f0, bv q.1.f1) = xs ++ [(q.1.f0, bv q.1.f1)] by rw [HST.out]; exact if_neg hz);clear hs_ hz
      go_upto_region 13 with (go_at_call 51; refine hsg.mono ?_; rintro e8 w8 ⟨rfl, hb8⟩)
      have C9 := C.out.below hb8;clear hb8 hsg C p1 p2 z2;have hL := Sdq.mk (fun (W : World) (hC : Ctx [uBlk p6 [.int .i64 e.v, .bool e.b, .slice e.A e.n e.c] 44, uNS w go g (qs.map Prod.snd) cb zA zc c0 (.slice (some ⟨gp, 0, none⟩) (k + 1) pc) (os' ++ [el]) xs] W) => big_Norm (Fr w.heap.size go (.slice (some ⟨gp, 0, none⟩) (k + 1) pc)) _ q.1.f1 W hC.2.1.fresh ((el_kv (Kd.FK_step hfk.out (fun k hk _ => hC.2.1.bel.block k hk))).mono (fun _ _ => trivial)) ⟨hdg.out.1, by have := hdg.out.2; omega⟩);refine absW _ C9 ?_;clear C9;intro w9 C;refine flowS (m := 9) (n := 12) lin_Norm.tab13 rfl (Ctx _) (Rl [uEq (.pointer (some ⟨go, 2, none⟩)), uEq (.slice (some ⟨gp, 0, none⟩) (k + 1) pc), uEq (.pointer (some ⟨p6, 0, none⟩)), uEq (.int .i64 e.v), uEq (.pointer (some ⟨p6, 1, none⟩)), uEq (.agg #[.bool e.b, .slice e.A e.n e.c]), uKd k24 (Fr w.heap.size go (.slice (some ⟨gp, 0, none⟩) (k + 1) pc)) (can (bv q.1.f1)), uKd k44 (Fr w.heap.size go (.slice (some ⟨gp, 0, none⟩) (k + 1) pc)) (cp (q.1.f0, bv q.1.f1)), uBx (Fr w.heap.size go (.slice (some ⟨gp, 0, none⟩) (k + 1) pc)) (cp (q.1.f0, bv q.1.f1))]) rfl (by kernel_rfl) (by kernel_rfl) (fun _ _ h hb => h.below hb) (Rl.up _) C ⟨⟨⟨⟨⟨⟨⟨⟨⟨trivial, ?_⟩, ?_⟩, ?_⟩, ?_⟩, ?_⟩, ?_⟩, ?_⟩, ?_⟩, ?_⟩ ?_
      ·refine At.of _ rfl (fun e_ a w hC hd hb K hK => ?_)
       have b4 : a.tmps[4]? = some (.pointer (some ⟨go, 0, none⟩)) := hb 4 (by decide);refine value_ (w1 := w) (v := .pointer (some ⟨go, 2, none⟩)) (by rfl) rfl ?_ (hK.out _ _ (Below.refl _ _) rfl);clear hC hd hb hK hL
       first | (go_simp; done) | (go_simp; rfl)
      ·refine At.of _ rfl (fun e_ a w hC hd hb K hK => ?_)
       have q75 := (hd 0 (by decide)).2 75 rfl;rw [show e_ 0 = _ from (hd 0 (by decide)).1] at q75;have cc2 : w.cell? ⟨go, 2, none⟩ = some (.slice (some ⟨gp, 0, none⟩) (k + 1) pc) := Ctx.blk hC.2.1.blk 2 rfl;refine value_ (w1 := w) (v := .slice (some ⟨gp, 0, none⟩) (k + 1) pc) (by rfl) rfl ?_ (hK.out _ _ (Below.refl _ _) rfl);clear hC hd hb hK hL
       first | (go_simp; done) | (go_simp; rfl)
      ·refine At.of _ rfl (fun e_ a w hC hd hb K hK => ?_)
       have b6 : a.tmps[6]? = some (.pointer (some ⟨p6, 0, none⟩)) := hb 6 (by decide);refine value_ (w1 := w) (v := .pointer (some ⟨p6, 0, none⟩)) (by rfl) rfl ?_ (hK.out _ _ (Below.refl _ _) rfl);clear hC hd hb hK hL
       first | (go_simp; done) | (go_simp; rfl)
      ·refine At.of _ rfl (fun e_ a w hC hd hb K hK => ?_)
       have q77 := (hd 2 (by decide)).2 77 rfl;rw [show e_ 2 = _ from (hd 2 (by decide)).1] at q77;have cc0 : w.cell? ⟨p6, 0, none⟩ = some (.int .i64 e.v) := Ctx.blk hC.1 0 rfl;refine value_ (w1 := w) (v := .int .i64 e.v) (by rfl) rfl ?_ (hK.out _ _ (Below.refl _ _) rfl);clear hC hd hb hK hL
       first | (go_simp; done) | (go_simp; rfl)
      ·refine At.of _ rfl (fun e_ a w hC hd hb K hK => ?_)
       have b6 : a.tmps[6]? = some (.pointer (some ⟨p6, 0, none⟩)) := hb 6 (by decide);refine value_ (w1 := w) (v := .pointer (some ⟨p6, 1, none⟩)) (by rfl) rfl ?_ (hK.out _ _ (Below.refl _ _) rfl);clear hC hd hb hK hL
       first | (go_simp; done) | (go_simp; rfl)
      ·refine At.of _ rfl (fun e_ a w hC hd hb K hK => ?_)
       have q79 := (hd 4 (by decide)).2 79 rfl;rw [show e_ 4 = _ from (hd 4 (by decide)).1] at q79;have cc1 : w.cell? ⟨p6, 1, none⟩ = some (.bool e.b) := Ctx.blk hC.1 1 rfl;have cc2 : w.cell? ⟨p6, 2, none⟩ = some (.slice e.A e.n e.c) := Ctx.blk hC.1 2 rfl;refine value_ (w1 := w) (v := .agg #[.bool e.b, .slice e.A e.n e.c]) (by rfl) rfl ?_ (hK.out _ _ (Below.refl _ _) rfl);clear hC hd hb hK hL
       first | (go_simp; done) | (go_simp; rfl)
      ·refine At.of _ rfl (fun e_ a w hC hd hb K hK => ?_)
       have q80 := (hd 5 (by decide)).2 80 rfl;rw [show e_ 5 = _ from (hd 5 (by decide)).1] at q80;refine goes_ Tryd.func50 (by kernel_rfl) rfl #[.agg #[.bool e.b, .slice e.A e.n e.c]] (by rfl) rfl rfl (by first | (simp [Act.eval, q80]; done) | (simp [Act.eval, q80]; rfl)) ?_;refine (hL.out w hC).mono ?_;rintro en w' ⟨v, rfl, hv, hb'⟩;exact ⟨v, rfl, hK.out v w' hb' hv⟩
      ·refine At.of _ rfl (fun e_ a w hC hd hb K hK => ?_)
       have q78 := (hd 3 (by decide)).2 78 rfl;rw [show e_ 3 = _ from (hd 3 (by decide)).1] at q78;have q81 := (hd 6 (by decide)).2 81 rfl;obtain ⟨yA, yc, he6, yl, yF⟩ := Kv.openB (hd 6 (by decide)).1;rw [he6] at q81;refine value_ (w1 := w) (v := .agg #[.int .i64 e.v, .bool (can (bv q.1.f1)).f0, .slice yA (can (bv q.1.f1)).f1.length yc]) (by rfl) rfl ?_ (hK.out _ _ (Below.refl _ _) ⟨_, rfl, by rw [(fk_el hfk.out).1]; exact k44_mkF w _ (cp (q.1.f0, bv q.1.f1)) yl yF⟩);clear hC hd hb hK hL yl yF he6
       first | (go_simp; done) | (go_simp; rfl)
      ·refine At.of _ rfl (fun e_ a w hC hd hb K hK => ?_)
       have q82 := (hd 7 (by decide)).2 82 rfl;obtain ⟨cs7, he7, hK7⟩ := (hd 7 (by decide)).1;obtain ⟨yA, yc, rfl, yl, yF⟩ := k44_openF hK7;rw [he7] at q82;refine value_ (w1 := w.alloc (.cells (El.cs ⟨q.1.f0, (can (bv q.1.f1)).f0, yA, (can (bv q.1.f1)).f1.length, yc⟩).toArray 44)) (v := .slice (some ⟨w.heap.size, 0, none⟩) 1 1) (by rfl) rfl ?_ (hK.out _ _ (bal (Below.refl _ _) _) ⟨w.heap.size, _, rfl, blk_new w _, Kd.FK_below hK7 (bal (Below.refl _ _) _)⟩);clear hC hd hb hK hL yl yF he7 hK7;unfold El.cs
       first | (go_simp; done) | (go_simp; rfl)
      ·intro e_ w10 hC hr a ha
       obtain ⟨gb, e', he8, hbx, hK8⟩ := hr.2;have r1 : e_ 1 = .slice (some ⟨gp, 0, none⟩) (k + 1) pc := hr.1.1.1.1.1.1.1.2;simp only [fill, Act.put, r1, he8, Nat.reduceAdd, Nat.reduceLT, decide_true, decide_false, if_true, Bool.false_eq_true, if_false, List.setIfInBounds_toArray, List.set_cons_zero, List.set_cons_succ] at ha;subst ha;clear hr r1 he8 hL;obtain ⟨i0, hi, hzz⟩ := Option.map_eq_some_iff.1 infoP;simp only [Prod.mk.injEq] at hzz;obtain ⟨hz1, hz2, hz3⟩ := hzz;have hHI := Sdq.mk (And.intro hi (And.intro hz1 (And.intro hz2 hz3)));clear hi hz1 hz2 hz3;have hN := Sdq.mk hC.2.1;have hnw := Sdq.mk (bx_news hbx);have hone := Sdq.mk (cs_one1 e');have hK8 := Sdq.mk hK8;have hOL := Sdq.mk (show (os' ++ [el]).length ≤ 100001 by have := hN.out.len; have h2 := scan_len ((psB (qs.map Prod.fst)).take i) []; rw [← hxs.out, ← this] at h2; have := HP.out; simp at h2 ⊢ <;> omega);have hsz10 := Sdq.mk (show w.heap.size + 2 ≤ w10.heap.size by have h1 := blk_lt (show w10.heap[go]? = _ from hN.out.blk); have h2 := hN.out.lt; omega);clear hC hbx;simp only [List.drop_succ_cons, List.drop_zero]
       go_wp2_with (first
        | ((with_reducible refine gate_builtin (b := .append) (xs := #[.tmp 76, .tmp 83]) rfl ?_); at_builtin; go_loud (refine wpList_append_own_at _ rfl (.tmp 76) (.tmp 83) 25 rfl (w.heap.size + 2) 44 i0 _ 3 40 undP hHI.out.1 hHI.out.2.1 hHI.out.2.2.1 hHI.out.2.2.2 rfl (by decide) (.slice (some ⟨gp, 0, none⟩) (k + 1) pc) (os' ++ [el]).length ((os' ++ [el]).flatMap El.cs) rfl hN.out.own ⟨gb, 0, none⟩ 1 1 e'.cs rfl rfl hnw.out hone.out (by have := hOL.out; simp only [maxLen]; omega) (by have := hOL.out; omega) hsz10.out ?_; intro v1 w11 hown1 hg1 hnil1 hat1; obtain ⟨g1, c1, hv1, -⟩ := ownsRow_slice hown1 (by omega); subst hv1; have hgo := (show (uBlk go _ 27).p w11 from (hg1.block go (blk_lt (show w10.heap[go]? = _ from hN.out.blk)) hN.out.apart.1).trans hN.out.blk); have z2 := Ctx.blk hgo 2 rfl; have f2 := Ctx.frz hgo 2; have HNS := Sdq.mk (hN.out.app (x := (q.1.f0, bv q.1.f1)) hK8.out hg1 hat1 hown1); clear hgo hown1 hg1 hnil1 hat1)))
       clear z2 f2
       go_roundg j
       case measure => go_light; omega
       case rel => go_light; exact ⟨i + 1, .slice (some ⟨g1, 0, none⟩) ((os' ++ [el]).length + 1) c1, os' ++ [el] ++ [e'], by have := HP.out; omega, by go_num, ⟨by rw [hst.out, HX.out]; first | exact HNS.out | (have h := HNS.out; simp only [List.length_append, List.length_cons, List.length_nil, Nat.zero_add] at h ⊢; exact h)⟩⟩
end Go.Proofs.YthpgjgmaamcaoaaDoor.P
end
section
namespace Go.Proofs.YthpgjgmaamcaoaaDoor.P
open Go.RowKit Go.Shelf Go.Proofs.YthpgjgmaamcaoaaDoorW.PrintWords Go.Proofs.YthpgjgmaamcaoaaDoorW.PrintLast Go.Proofs.YthpgjgmaamcaoaaDoorW.PrintMore Go.Proofs.YthpgjgmaamcaoaaDoor.Nm
set_option maxRecDepth 100000
set_option linter.unusedVariables false
set_option linter.unusedSimpArgs false
def Fo (go : Nat) (pv : Value) (k : Nat) : Prop := k ≠ go ∧ some k ≠ pv.ownBlock
structure BS (W0 W : World) (cb : Bool) (cA : Option Addr) (cc : Nat) (x0 : S24) (pv : Value) (os : List El) (xs : List S44) : Prop where
 blk : (uBlk W0.heap.size [.bool cb, .slice cA x0.f1.length cc, pv] 27).p W
 own : W.ownsRow (W0.heap.size + 1) 44 3 pv os.length (os.flatMap El.cs)
 len : os.length = xs.length
 rep : ∀ (i : Nat) (x : S44) (e : El), xs[i]? = some x → os[i]? = some e → Kd.FK k44 W (Fo W0.heap.size pv) x e.cs
 cst : Kv k24 (Fo W0.heap.size pv) W (.agg #[.bool cb, .slice cA x0.f1.length cc]) x0
 bel : Below W0.heap.size W0 W
def uBS (W0 : World) (cb : Bool) (cA : Option Addr) (cc : Nat) (x0 : S24) (pv : Value) (os : List El) (xs : List S44) : UpP := ⟨fun W => BS W0 W cb cA cc x0 pv os xs, fun W W' h hb =>
 ⟨(uBlk _ _ _).up _ _ h.blk hb, ownsRow_below h.own hb, h.len, fun i x e hx he => Kd.FK_below (h.rep i x e hx he) hb, h.cst.below hb, below_step h.bel hb⟩⟩
section
variable {W0 W W' : World} {cb : Bool} {cA : Option Addr} {cc : Nat} {x0 : S24} {pv : Value} {os : List El} {xs : List S44}
theorem BS.start (hv : Kv k24 (fun _ => True) W0 (.agg #[.bool cb, .slice cA x0.f1.length cc]) x0) : BS W0 (W0.alloc (.cells #[.bool cb, .slice cA x0.f1.length cc, .slice none 0 0] 27)) cb cA cc x0 (.slice none 0 0) [] [] :=
 ⟨blk_new W0 _, World.ownsRow_nil _ _ _ _, rfl, fun i x e hx _ => by simp at hx, (hv.within (fun k _ h2 => ⟨by omega, by simp [Value.ownBlock]⟩)).below (bal (Below.refl _ _) _), bal (Below.refl _ _) _⟩
theorem BS.apart (h : BS W0 W cb cA cc x0 pv os xs) : some W0.heap.size ≠ pv.ownBlock := fun he => by
 rcases h.own.2 with ⟨h2, _⟩ | ⟨g', cap', cur, h2, hb, hc, hr⟩
 ·rw [h2] at he; cases he
 ·rw [h2] at he
  simp only [Value.ownBlock, Option.some.injEq] at he
  omega
theorem BS.pvf (h : BS W0 W cb cA cc x0 pv os xs) : ∃ PA pc, pv = .slice PA os.length pc := by
 rcases h.own.2 with ⟨h1, h2⟩ | ⟨g', cap', cur, h1, _⟩
 ·exact ⟨none, 0, by rw [h1, h2]⟩
 ·exact ⟨_, _, h1⟩
theorem BS.fresh (h : BS W0 W cb cA cc x0 pv os xs) : ∀ k, W.heap.size ≤ k → Fo W0.heap.size pv k := by
 intro k hk;have h1 := blk_lt (show W.heap[W0.heap.size]? = _ from h.blk);refine ⟨by omega, fun e => ?_⟩
 rcases h.own.2 with ⟨h3, _⟩ | ⟨g', cap', cur, h3, hb, hc, _⟩
 ·rw [h3] at e; cases e
 ·rw [h3] at e
  simp only [Value.ownBlock, Option.some.injEq] at e;have := blk_lt hc
  omega
theorem BS.app (h : BS W0 W cb cA cc x0 pv os xs) {x : S44} {e : El} (hx : Kd.FK k44 W (Fo W0.heap.size pv) x e.cs) {pv' : Value} (hg : W.grownBy W' pv.ownBlock) (hat : pv'.ownBlock = pv.ownBlock ∨ pv'.ownBlock = some W.heap.size) (hown : W'.ownsRow (W0.heap.size + 1) 44 3 pv' (os.length + 1) (os.flatMap El.cs ++ e.cs)) : BS W0 (W'.setCell ⟨W0.heap.size, 2, none⟩ pv') cb cA cc x0 pv' (os ++ [e]) (xs ++ [x]) := by
 have hap := h.apart;have hgo := blk_lt (show W.heap[W0.heap.size]? = _ from h.blk)
 have hne : ∀ k, some k ≠ pv.ownBlock → k < W.heap.size → some k ≠ pv'.ownBlock := by
  intro k hk hlt
  rcases hat with hat | hat
  ·rw [hat]; exact hk
  ·rw [hat]
   intro he
   injection he with he
   omega
 have hBW : ∀ k, k < W.heap.size → some k ≠ pv.ownBlock → k ≠ W0.heap.size → (W'.setCell ⟨W0.heap.size, 2, none⟩ pv').heap[k]? = W.heap[k]? := fun k h1 h2 h3 => (Below.heap_setCell W' _ _ _ h3).trans (hg.block k h1 h2)
 have fkm : ∀ {y : S44} {cs : List Value}, Kd.FK k44 W (Fo W0.heap.size pv) y cs → Kd.FK k44 (W'.setCell ⟨W0.heap.size, 2, none⟩ pv') (Fo W0.heap.size pv') y cs := fun hk =>
  Kd.FK_mono (Kd.FK_step (Kd.FK_bound hk) (fun k hk hlt2 => hBW k hk.2 hk.1.2 hk.1.1)) (fun k hk => ⟨hk.1.1, hne k hk.1.2 hk.2⟩)
 refine ⟨?_, ownsRow_far ?_ (hne _ hap hgo), by simp [h.len], fun i y f hy hf => ?_, ?_, ?_⟩
 ·have h2 : (uBlk W0.heap.size [.bool cb, .slice cA x0.f1.length cc, pv] 27).p W' := (hg.block _ hgo hap).trans h.blk
  exact Ctx.put h2 2 pv'
 ·rw [List.length_append, List.flatMap_append]
  simpa using hown
 ·by_cases hi : i < xs.length
  ·rw [List.getElem?_append_left hi] at hy
   rw [List.getElem?_append_left (by rw [h.len]; exact hi)] at hf;exact fkm (h.rep i y f hy hf)
  ·have hi2 := (List.getElem?_eq_some_iff.1 hy).1
   simp only [List.length_append, List.length_singleton] at hi2
   obtain rfl : i = xs.length := by omega
   rw [List.getElem?_append_right (Nat.le_refl _)] at hy;rw [← h.len, List.getElem?_append_right (Nat.le_refl _)] at hf;simp only [Nat.sub_self, List.getElem?_cons_zero, Option.some.injEq] at hy hf;subst hy;subst hf;exact fkm hx
 ·obtain ⟨cs, e, hk⟩ := h.cst
  exact ⟨cs, e, Kd.FK_mono (Kd.FK_step (Kd.FK_bound hk) (fun k hk hlt2 => hBW k hk.2 hk.1.2 hk.1.1)) (fun k hk => ⟨hk.1.1, hne k hk.1.2 hk.2⟩)⟩
 ·refine (h.bel.grown hg h.bel.size (fun k hk => ?_)).setCell (p := ⟨W0.heap.size, 2, none⟩) (Nat.le_refl _) _
  rcases h.own.2 with ⟨h2, _⟩ | ⟨g', cap', cur, h2, hb, hc, hr⟩
  ·rw [h2] at hk; cases hk
  ·rw [h2] at hk
   simp only [Value.ownBlock, Option.some.injEq] at hk
   omega
theorem BS.kv {PA : Option Addr} {no pc : Nat} (h : BS W0 W cb cA cc x0 (.slice PA no pc) os xs) (hm : xs.length ≤ 1000000) : Kv kTB (fun _ => True) W (.agg #[.bool cb, .slice cA x0.f1.length cc, .slice PA no pc]) ⟨x0, xs⟩ := by
 obtain ⟨A', c', he, hl, hF⟩ := h.cst.openB;simp only [Value.agg.injEq, Array.mk.injEq, List.cons.injEq, Value.bool.injEq, Value.slice.injEq, and_true, true_and] at he;obtain ⟨hcb, rfl, rfl⟩ := he;subst hcb;obtain ⟨B', d', he, hl2, hF2⟩ := ns_row (O := fun _ => True) (xs := xs) h.own (fun k hk => trivial) h.len hm (fun i x e hx he => Kd.FK_mono (h.rep i x e hx he) (fun k hk => trivial));simp only [Value.slice.injEq] at he;obtain ⟨rfl, rfl, rfl⟩ := he;exact ⟨_, rfl, kTB_mkF W _ ⟨x0, xs⟩ hl (Kd.F_mono hF (fun k hk => trivial)) hl2 hF2⟩
end
end Go.Proofs.YthpgjgmaamcaoaaDoor.P
end
section
namespace Go.Proofs.YthpgjgmaamcaoaaDoor.P
open Go.RowKit Go.Shelf Go.Proofs.YthpgjgmaamcaoaaDoorW.PrintWords Go.Proofs.YthpgjgmaamcaoaaDoorW.PrintLast Go.Proofs.YthpgjgmaamcaoaaDoorW.PrintMore Go.Proofs.YthpgjgmaamcaoaaDoor.Nm
set_option maxRecDepth 100000
set_option linter.unusedVariables false
set_option linter.unusedSimpArgs false
theorem row_el {ok : Nat → Prop} {W : World} {A : Option Addr} {xs : List S44} {i : Nat} (h : Kd.F k44 W ok A xs.length xs) (hi : i < xs.length) : ∃ ad e, A = some ad ∧ W.cell? (ad.add (i * 3)) = some (.int .i64 (El.v e)) ∧ W.cell? ⟨(ad.add (i * 3)).block, (ad.add (i * 3)).off + 1, none⟩ = some (.bool (El.b e)) ∧ W.cell? ⟨(ad.add (i * 3)).block, (ad.add (i * 3)).off + 2, none⟩ = some (.slice (El.A e) (El.n e) (El.c e)) ∧ Kd.FK k44 W ok xs[i] e.cs := by
 obtain ⟨ad, cs, hA, -, hK, hcc, -⟩ := Kd.F_get h z44 (i : Int) (by omega) (by omega);rw [show xs.getD (i : Int).toNat z44 = xs[i] by simp [hi]] at hK;obtain ⟨A2, c2, rfl, l2, g2⟩ := k44_openF hK;have hc : ∀ j u, ([.int .i64 xs[i].f0, .bool xs[i].f1.f0, .slice A2 xs[i].f1.f1.length c2] : List Value)[j]? = some u → W.cell? (ad.add (i * 3 + j)) = some u := hcc;exact ⟨ad, ⟨xs[i].f0, xs[i].f1.f0, A2, xs[i].f1.f1.length, c2⟩, hA, hc 0 _ rfl, by rw [← add_field _ _ 1 (by omega)]; exact hc 1 _ rfl, by rw [← add_field _ _ 2 (by omega)]; exact hc 2 _ rfl, hK⟩
set_option maxHeartbeats 3200000 in
theorem lin_Without (ok : Nat → Prop) (v : Value) (x : TB) (vr : Int) (w : World) (hok : ∀ k, w.heap.size ≤ k → ok k) (h : Kv kTB (fun _ => True) w v x) (hx : NIn x) :
  Calls Tryd.prog 15 #[v, .int .i64 vr] w (KPost kTB ok w (tt (bv x.f0) (LnP.nrm (psB (x.f1.filter (fun p => p.f0 != vr)))))) := by
 obtain ⟨A, c, B, d, rfl, hk, hp⟩ := h.openTB;have C := Ctx.new (cs := [.bool false, .slice none 0 0, .slice none 0 0]) (t := 27) (Ctx.new (cs := [.bool x.f0.f0, .slice A x.f0.f1.length c, .slice B x.f1.length d]) (t := 27) (Ctx.cons (uB w) (Below.refl _ _) (Ctx.cons (uK k24 (fun _ => True) (.agg #[.bool x.f0.f0, .slice A x.f0.f1.length c]) x.f0) hk (Ctx.cons (uCv k44 (fun k => k < w.heap.size) x.f1 (.slice B x.f1.length d)) (hp.within (fun k _ h => h)) Ctx.nil))));simp only [World.size_alloc] at C;have hx := Sdq.mk hx;have hok := Sdq.mk hok
 obtain ⟨rr, hrr⟩ : ∃ rr, rr = tt (bv x.f0) (LnP.nrm (psB (x.f1.filter (fun p => p.f0 != vr)))) := ⟨_, rfl⟩
 rw [← hrr];have HRR := Sdq.mk hrr;clear h hk hp hrr;go_enter Tryd.func15, Tryd.ntmps15
 go_upto_region 1 with fail
 refine absW _ C ?_;clear C;intro w1 C;have y0 := Ctx.blk C.2.1 0 rfl;have y1 := Ctx.blk C.2.1 1 rfl;have y2 := Ctx.blk C.2.1 2 rfl;have hB0 := Sdq.mk (BS.start (x0 := x.f0) C.2.2.2.1);have C := Sdq.mk C
 go_upto_region 2 with fail
 have C2 : Ctx [uBlk w.heap.size [.bool x.f0.f0, .slice A x.f0.f1.length c, .slice B x.f1.length d] 27] (w1.alloc (.cells #[.bool x.f0.f0, .slice A x.f0.f1.length c, .slice none 0 0] 27)) := ⟨(uBlk _ _ _).up _ _ C.out.2.1 (bal (Below.refl _ _) _), trivial⟩
 clear y0 y1 y2;have y2 := Ctx.blk C2.1 2 rfl;have C2 := Sdq.mk C2
 obtain ⟨W5, eW5⟩ : ∃ W5, W5 = w1.alloc (.cells #[.bool x.f0.f0, .slice A x.f0.f1.length c, .slice none 0 0] 27) := ⟨_, rfl⟩
 rw [← eW5] at hB0 y2 ⊢;clear eW5 C2
 go_wp2_with fail
 clear y2
 obtain ⟨n, en⟩ : ∃ n, n = x.f1.length := ⟨_, rfl⟩
 rw [← en];have hn := Sdq.mk en
 have hn39 : n ≤ 39 := by rw [en]; exact hx.out.few
 clear en
 obtain ⟨go, ego⟩ : ∃ go, go = w1.heap.size := ⟨_, rfl⟩
 rw [← ego];have hgo := Sdq.mk ego;clear ego
 go_loopg [14] n (fun gk s14 wr => ∃ (i : Nat) (pv : Value) (os : List El), gk + i = n ∧ s14 = .int .i64 (i : Int) ∧ Sdq (BS w1 wr x.f0.f0 A c x.f0 pv os ((x.f1.take i).filter (fun p => p.f0 != vr))))
 case atStart => exact ⟨0, _, _, rfl, rfl, hB0⟩
 case round =>
  clear hB0;obtain ⟨i, pv, os, hgi, rfl, hN⟩ := hrel
  cases gk with
  | zero =>
   obtain rfl : i = n := by omega
   obtain ⟨PA, pc, rfl⟩ := hN.out.pvf
   obtain ⟨no, eno0⟩ : ∃ no, no = os.length := ⟨_, rfl⟩
   rw [← eno0] at hN;rw [List.take_of_length_le (by have := hn.out; omega)] at hN;have hC2 := Sdq.mk (And.intro ((uBlk _ _ _).up _ _ C.out.1 hN.out.bel) (below_step C.out.2.2.1 hN.out.bel))
   have hNm := lin_Norm (fun k => ok k ∧ k ≠ w.heap.size + 1) _ _ wr (fun k hk => by
    have h1 := blk_lt (show wr.heap[w.heap.size + 1]? = _ from hC2.out.1)
    exact ⟨hok.out k (by omega), by omega⟩) (hN.out.kv (by refine Nat.le_trans (List.length_filter_le ..) ?_; have := hx.out.few; omega)) ⟨Nat.le_trans (List.length_filter_le ..) hx.out.few, hx.out.c, fun p hp => hx.out.dg p ((List.mem_filter.1 hp).1), fun p hp => hx.out.len p ((List.mem_filter.1 hp).1)⟩
   have hNm := hNm
   dsimp only at hNm
   rw [← HRR.out] at hNm;have z0 := Ctx.blk hN.out.blk 0 rfl;have z1 := Ctx.blk hN.out.blk 1 rfl;have z2 := Ctx.blk hN.out.blk 2 rfl;rw [← hgo.out] at z0 z1 z2;clear hN eno0;go_wp2_with (go_at_call 17; refine hNm.mono ?_; rintro e2 w2 ⟨v2, rfl, hv2, hb2⟩; obtain ⟨yA, yc, yB, yd, rfl, -, -⟩ := hv2.openTB; have hC3 := And.intro ((uBlk _ _ _).up _ _ hC2.out.1 hb2) (below_step hC2.out.2 hb2); have E := Sdq.mk (end3 (O := fun k => ok k ∧ k ≠ w.heap.size + 1) (ok := ok) hC3.1 hC3.2 (Nat.le_succ _) (fun k hk => hk) hv2 _ rfl); have r0 := Ctx.blk hC3.1 0 rfl; have r1 := Ctx.blk hC3.1 1 rfl; have r2 := Ctx.blk hC3.1 2 rfl; have f0 := Ctx.frz hC3.1 0; have f1 := Ctx.frz hC3.1 1; have f2 := Ctx.frz hC3.1 2; clear hC3 hv2 hb2);have E := E.out;clear r0 r1 r2 f0 f1 f2;generalize World.setCell _ _ _ = wf at E ⊢;obtain ⟨EP, e0, e1, e2⟩ := E;exact bodyPost_ret (by first | (simp [results, Tryd.results15, go_sem, e0, e1, e2]; done) | (simp [results, Tryd.results15, go_sem, e0, e1, e2]; rfl)) rfl EP
  | succ j =>
   have hin : i < x.f1.length := by have := hn.out; omega
   obtain ⟨B', d', e1, -, hF⟩ := C.out.2.2.2.2.1.below hN.out.bel
   injection e1 with e2 _ e3
   subst e2;subst e3;obtain ⟨ad, e, rfl, x0, x1, x2, hfk⟩ := row_el hF hin;have HP := Sdq.mk (And.intro hgi hin)
   have hin2 : i < n := by omega
   have hst := Sdq.mk (show (x.f1.take (i + 1)).filter (fun p => p.f0 != vr) = (x.f1.take i).filter (fun p => p.f0 != vr) ++ [x.f1[i]].filter (fun p => p.f0 != vr) by rw [List.take_succ_eq_append_getElem hin, List.filter_append]);have hev : e.v = x.f1[i].f0 := (fk_el hfk).1
   obtain ⟨q, eq⟩ : ∃ q, q = x.f1[i] := ⟨_, rfl⟩
   rw [← eq] at hfk hev hst;have HEV := Sdq.mk hev;clear hev
   have hfo := Sdq.mk (show Kd.FK k44 wr (Fo go pv) q e.cs from Kd.FK_mono hfk (fun k hk => ⟨by have h1 := (show Below w.heap.size w w1 from C.out.2.2.1).size; have h2 := hgo.out; omega, fun h => by
    rcases hN.out.own.2 with ⟨h3, _⟩ | ⟨g', cap', cur, h3, hb, hc, _⟩
    ·rw [h3] at h; cases h
    ·rw [h3] at h
     simp only [Value.ownBlock, Option.some.injEq] at h;have h1 := (show Below w.heap.size w w1 from C.out.2.2.1).size
     omega⟩))
   obtain ⟨xs, hxs⟩ : ∃ xs, xs = (x.f1.take i).filter (fun p => p.f0 != vr) := ⟨_, rfl⟩
   rw [← hxs] at hN hst;have hxl := Sdq.mk (show xs.length ≤ 39 by rw [hxs]; refine Nat.le_trans (List.length_filter_le ..) ?_; simp; omega);clear hF eq hfk hxs hgi hin
   go_upto_region 5 with fail
   obtain ⟨PA, pc, rfl⟩ := hN.out.pvf
   obtain ⟨no, eno0⟩ : ∃ no, no = os.length := ⟨_, rfl⟩
   rw [← eno0] at hN hfo;have eno := Sdq.mk eno0;clear eno0;have hba : Below wr.heap.size wr (wr.alloc (.cells #[.int .i64 e.v, .bool e.b, .slice e.A e.n e.c] 44)) := bal (Below.refl _ _) _
   have C6 : Ctx [uBlk wr.heap.size [.int .i64 e.v, .bool e.b, .slice e.A e.n e.c] 44, uBS w1 x.f0.f0 A c x.f0 (.slice PA no pc) os xs, ⟨fun W => Kd.FK k44 W (Fo go (.slice PA no pc)) q e.cs, fun _ _ h hb => Kd.FK_below h hb⟩] (wr.alloc (.cells #[.int .i64 e.v, .bool e.b, .slice e.A e.n e.c] 44)) := ⟨blk_new wr _, (uBS _ _ _ _ _ _ _ _).up _ _ hN.out hba, Kd.FK_below hfo.out hba, trivial⟩
   refine absW _ C6 ?_;clear C6 hN hba hfo x0 x1 x2;generalize wr.heap.size = p6;intro w6 C6;have p0 := Ctx.blk C6.1 0 rfl;by_cases hv : e.v = vr
   ·have hvb : (e.v != vr) = false := by simpa using hv
    have HX := Sdq.mk (show xs ++ [q].filter (fun p => p.f0 != vr) = xs by
     have : (q.f0 != vr) = false := by rw [← HEV.out]; exact hvb
     simp [this])
    have C6 := Sdq.mk C6;clear hv
    go_wp2_with fail
    go_roundg j
    case measure => go_light; omega
    case rel => go_light; exact ⟨i + 1, _, _, by have := HP.out; omega, by go_num, ⟨by rw [hst.out, HX.out]; exact C6.out.2.1⟩⟩
   ·have hvb : (e.v != vr) = true := by simpa using hv
    have HX := Sdq.mk (show xs ++ [q].filter (fun p => p.f0 != vr) = xs ++ [q] by
     have : (q.f0 != vr) = true := by rw [← HEV.out]; exact hvb
     simp [this])
    have p1 := Ctx.blk C6.1 1 rfl;have p2 := Ctx.blk C6.1 2 rfl;have z2 := Ctx.blk C6.2.1.blk 2 rfl;rw [← hgo.out] at z2;obtain ⟨i0, hi, hzz⟩ := Option.map_eq_some_iff.1 infoP;simp only [Prod.mk.injEq] at hzz;obtain ⟨hz1, hz2, hz3⟩ := hzz;have hHI := Sdq.mk (And.intro hi (And.intro hz1 (And.intro hz2 hz3)));have hba : Below w6.heap.size w6 (w6.alloc (.cells e.cs.toArray 44)) := bal (Below.refl _ _) _;have hN := Sdq.mk ((uBS _ _ _ _ _ _ _ _).up _ _ C6.2.1 hba);have hK := Sdq.mk (Kd.FK_below C6.2.2.1 hba);rw [hgo.out] at hK;have hnw := Sdq.mk (bx_news (show (uBlk w6.heap.size e.cs 44).p (w6.alloc (.cells e.cs.toArray 44)) from blk_new w6 _));have hone := Sdq.mk (cs_one1 e);have hOL := Sdq.mk (show os.length ≤ 100001 by have := C6.2.1.len; have := hxl.out; omega);have hs6 := Sdq.mk (show w1.heap.size + 1 ≤ (w6.alloc (.cells e.cs.toArray 44)).heap.size by have h1 := blk_lt (show w6.heap[w1.heap.size]? = _ from C6.2.1.blk); simp only [World.size_alloc]; omega);clear hv hba hi hz1 hz2 hz3 C6
    go_wp2_with (first
     | ((with_reducible refine gate_builtin (b := .append) (xs := #[.tmp 23, .tmp 25]) rfl ?_); at_builtin; go_loud (refine wpList_append_own_at _ rfl (.tmp 23) (.tmp 25) 25 rfl (w1.heap.size + 1) 44 i0 _ 3 40 undP hHI.out.1 hHI.out.2.1 hHI.out.2.2.1 hHI.out.2.2.2 rfl (by decide) (.slice PA no pc) os.length (os.flatMap El.cs) rfl hN.out.own ⟨w6.heap.size, 0, none⟩ 1 1 e.cs rfl rfl hnw.out hone.out (by have := hOL.out; simp only [maxLen]; omega) (by have := hOL.out; omega) hs6.out ?_; intro v1 w11 hown1 hg1 hnil1 hat1; obtain ⟨g1, c1, hv1, -⟩ := ownsRow_slice hown1 (by omega); subst hv1; have hgb := (show (uBlk w1.heap.size _ 27).p w11 from (hg1.block _ (blk_lt (show (w6.alloc _).heap[w1.heap.size]? = _ from hN.out.blk)) hN.out.apart).trans hN.out.blk); have z3 := Ctx.blk hgb 2 rfl; have f3 := Ctx.frz hgb 2; have HNS := Sdq.mk (hN.out.app hK.out hg1 hat1 hown1); rw [← hgo.out] at z3 f3 HNS; clear hgb hown1 hg1 hnil1 hat1)))
    clear z3 f3
    go_roundg j
    case measure => go_light; omega
    case rel => go_light; exact ⟨i + 1, .slice (some ⟨g1, 0, none⟩) (os.length + 1) c1, os ++ [e], by have := HP.out; omega, by go_num, ⟨by rw [hst.out, HX.out]; exact HNS.out⟩⟩
end Go.Proofs.YthpgjgmaamcaoaaDoor.P
end
section
namespace Go.Proofs.YthpgjgmaamcaoaaDoor.P.R
open Go.RowKit Go.Shelf Go.Proofs.YthpgjgmaamcaoaaDoor.P Go.Proofs.YthpgjgmaamcaoaaDoorW.PrintWords Go.Proofs.YthpgjgmaamcaoaaDoorW.PrintLast Go.Proofs.YthpgjgmaamcaoaaDoorW.PrintMore Go.Proofs.YthpgjgmaamcaoaaDoor.Nm
set_option maxRecDepth 100000
set_option linter.unusedVariables false
set_option linter.unusedSimpArgs false
theorem infoP : (Tryd.prog.info? 66).map (fun i => (i.zero, i.size, i.bytes)) = some (some (.agg #[(.int .i64 0), (.bool false), (.slice none 0 0)]), 3, 40) := by kernel_rfl
theorem undP : Tryd.prog.underlying 35 = some (.slice 66) := by kernel_rfl
theorem fk_el {ok : Nat → Prop} {W : World} {x : S66} {e : El} (h : Kd.FK k66 W ok x e.cs) : e.v = x.f0 ∧ e.b = x.f1.f0 ∧ e.n = x.f1.f1.length ∧ x.f1.f1.length ≤ e.c ∧ Kd.F (Kd.int .i64) W ok e.A x.f1.f1.length x.f1.f1 := by
 obtain ⟨A, c, he, hl, hF⟩ := k66_openF h;unfold El.cs at he;simp only [List.cons.injEq, Value.int.injEq, Value.bool.injEq, Value.slice.injEq, true_and, and_true] at he;obtain ⟨h1, h2, h3, h4, h5⟩ := he;exact ⟨h1, h2, h4, h5 ▸ hl, h3 ▸ hF⟩
theorem el_fk {ok : Nat → Prop} {W : World} {x : S66} {e : El} (h1 : e.v = x.f0) (h2 : e.b = x.f1.f0) (h3 : e.n = x.f1.f1.length) (h4 : x.f1.f1.length ≤ e.c) (h5 : Kd.F (Kd.int .i64) W ok e.A x.f1.f1.length x.f1.f1) : Kd.FK k66 W ok x e.cs := by
 have := k66_mkF W ok x h4 h5;unfold El.cs;rw [h1, h2, h3];exact this
theorem ns_row {W : World} {base : Nat} {O : Nat → Prop} {pv : Value} {os : List El} {xs : List S66} (hown : W.ownsRow base 66 3 pv os.length (os.flatMap El.cs)) (hb : ∀ k, base ≤ k → O k) (hlen : os.length = xs.length) (hm : xs.length ≤ 1000000) (hrep : ∀ (i : Nat) (x : S66) (e : El), xs[i]? = some x → os[i]? = some e → Kd.FK k66 W O x e.cs) : Cv k66 O W pv xs := by
 have h0 := hown
 rcases hown.2 with ⟨rfl, h2⟩ | ⟨g, cap, cur, rfl, hg, hc, hle, hmx, hs, ht⟩
 ·obtain rfl : xs = [] := List.eq_nil_of_length_eq_zero (by omega)
  exact Cv.nil
 ·refine ⟨some ⟨g, 0, none⟩, cap, by rw [hlen], by omega, fun W' hW => ?_⟩
  have hc' := (hW g (hb g hg) (blk_lt hc)).trans hc
  have hown' : W'.ownsRow base 66 3 (.slice (some ⟨g, 0, none⟩) os.length cap) os.length (os.flatMap El.cs) := ⟨hown.1, .inr ⟨g, cap, cur, rfl, hg, hc', hle, hmx, hs, ht⟩⟩
  refine ⟨rfl, by omega, fun _ => ⟨_, rfl, fun j p hj => ?_⟩⟩;have hjl := (List.getElem?_eq_some_iff.1 hj).1
  have hjo : j < os.length := by omega
  refine ⟨os[j].cs, rfl, hrep j p _ hj (List.getElem?_eq_getElem hjo) W' hW, fun i u hu => ?_⟩
  have hi3 : i < 3 := by
   have := (List.getElem?_eq_some_iff.1 hu).1
   simpa [El.cs] using this
  rw [show (k66).sz = 3 from rfl, add_plain];exact (ownsRow_cell hown' (by rw [cs_get os j i hjo hi3]; exact hu)).1
theorem end3 {O ok : Nat → Prop} {w0 W : World} {g t : Nat} {z0 z1 z2 c0 c1 c2 : Value} {x : TR} (hz : (uBlk g [z0, z1, z2] t).p W) (hB : Below w0.heap.size w0 W) (hg : w0.heap.size ≤ g) (hO : ∀ k, O k → ok k ∧ k ≠ g) (h : Kv kTR O W (.agg #[c0, c1, c2]) x) (wf : World)
  (hw : wf = ((W.setCell ⟨g, 0, none⟩ c0).setCell ⟨g, 1, none⟩ c1).setCell ⟨g, 2, none⟩ c2) : KPost kTR ok w0 x (.returned (.agg #[c0, c1, c2])) wf ∧ wf.cell? ⟨g, 0, none⟩ = some c0 ∧ wf.cell? ⟨g, 1, none⟩ = some c1 ∧ wf.cell? ⟨g, 2, none⟩ = some c2 := by
 subst hw;have hp := Ctx.put (Ctx.put (Ctx.put hz 0 c0) 1 c1) 2 c2
 have hne : ∀ k, O k → k ≠ g := fun k hk => (hO k hk).2
 exact ⟨⟨_, rfl, (((h.far (p := ⟨g, 0, none⟩) hne c0).far (p := ⟨g, 1, none⟩) hne c1).far (p := ⟨g, 2, none⟩) hne c2).mono (fun k hk => (hO k hk).1), bstq (bstq (bstq hB hg) hg) hg⟩, Ctx.blk hp 0 rfl, Ctx.blk hp 1 rfl, Ctx.blk hp 2 rfl⟩
def uBx (O : Nat → Prop) (x : S66) (v : Value) : UpP := ⟨fun W => ∃ gb e', v = .slice (some ⟨gb, 0, none⟩) 1 1 ∧ (uBlk gb (El.cs e') 66).p W ∧ Kd.FK k66 W O x e'.cs, fun W W' h hb => by
 obtain ⟨gb, e', h1, h2, h3⟩ := h
 exact ⟨gb, e', h1, (uBlk _ _ _).up _ _ h2 hb, Kd.FK_below h3 hb⟩⟩
theorem bx_news {W : World} {gb : Nat} {e : El} (h : (uBlk gb e.cs 66).p W) : ∀ j u, e.cs[j]? = some u → W.cell? ((⟨gb, 0, none⟩ : Addr).add j) = some u := fun j u hj => by
 rw [add_plain];exact Ctx.blk h j hj
theorem el_kv {ok : Nat → Prop} {W : World} {x : S66} {e : El} (h : Kd.FK k66 W ok x e.cs) : Kv k34 ok W (.agg #[.bool e.b, .slice e.A e.n e.c]) x.f1 := by
 obtain ⟨h1, h2, h3, h4, h5⟩ := fk_el h;rw [h2, h3];exact ⟨_, rfl, k34_mkF W ok x.f1 h4 h5⟩
def Fo (B go : Nat) (pv : Value) (k : Nat) : Prop := B ≤ k ∧ k ≠ go ∧ some k ≠ pv.ownBlock
structure BS (B : Nat) (W0 W : World) (cb : Bool) (cA : Option Addr) (cc : Nat) (x0 : S34) (pv : Value) (os : List El) (xs : List S66) : Prop where
 blk : (uBlk W0.heap.size [.bool cb, .slice cA x0.f1.length cc, pv] 37).p W
 own : W.ownsRow (W0.heap.size + 1) 66 3 pv os.length (os.flatMap El.cs)
 len : os.length = xs.length
 rep : ∀ (i : Nat) (x : S66) (e : El), xs[i]? = some x → os[i]? = some e → Kd.FK k66 W (Fo B W0.heap.size pv) x e.cs
 cst : Kv k34 (Fo B W0.heap.size pv) W (.agg #[.bool cb, .slice cA x0.f1.length cc]) x0
 bel : Below W0.heap.size W0 W
 base : B ≤ W0.heap.size
def uBS (B : Nat) (W0 : World) (cb : Bool) (cA : Option Addr) (cc : Nat) (x0 : S34) (pv : Value) (os : List El) (xs : List S66) : UpP := ⟨fun W => BS B W0 W cb cA cc x0 pv os xs, fun W W' h hb =>
 ⟨(uBlk _ _ _).up _ _ h.blk hb, ownsRow_below h.own hb, h.len, fun i x e hx he => Kd.FK_below (h.rep i x e hx he) hb, h.cst.below hb, below_step h.bel hb, h.base⟩⟩
section
variable {B : Nat} {W0 W W' : World} {cb : Bool} {cA : Option Addr} {cc : Nat} {x0 : S34} {pv : Value} {os : List El} {xs : List S66}
theorem BS.start (hB : B ≤ W0.heap.size) (hv : Kv k34 (fun k => B ≤ k) W0 (.agg #[.bool cb, .slice cA x0.f1.length cc]) x0) : BS B W0 (W0.alloc (.cells #[.bool cb, .slice cA x0.f1.length cc, .slice none 0 0] 37)) cb cA cc x0 (.slice none 0 0) [] [] :=
 ⟨blk_new W0 _, World.ownsRow_nil _ _ _ _, rfl, fun i x e hx _ => by simp at hx, (hv.within (fun k h1 h2 => ⟨h1, by omega, by simp [Value.ownBlock]⟩)).below (bal (Below.refl _ _) _), bal (Below.refl _ _) _, hB⟩
theorem BS.apart (h : BS B W0 W cb cA cc x0 pv os xs) : some W0.heap.size ≠ pv.ownBlock := fun he => by
 rcases h.own.2 with ⟨h2, _⟩ | ⟨g', cap', cur, h2, hb, hc, hr⟩
 ·rw [h2] at he; cases he
 ·rw [h2] at he
  simp only [Value.ownBlock, Option.some.injEq] at he
  omega
theorem BS.pvf (h : BS B W0 W cb cA cc x0 pv os xs) : ∃ PA pc, pv = .slice PA os.length pc := by
 rcases h.own.2 with ⟨h1, h2⟩ | ⟨g', cap', cur, h1, _⟩
 ·exact ⟨none, 0, by rw [h1, h2]⟩
 ·exact ⟨_, _, h1⟩
theorem BS.fresh (h : BS B W0 W cb cA cc x0 pv os xs) : ∀ k, W.heap.size ≤ k → Fo B W0.heap.size pv k := by
 intro k hk;have h1 := blk_lt (show W.heap[W0.heap.size]? = _ from h.blk);have hbs := h.base;refine ⟨by omega, by omega, fun e => ?_⟩
 rcases h.own.2 with ⟨h3, _⟩ | ⟨g', cap', cur, h3, hb, hc, _⟩
 ·rw [h3] at e; cases e
 ·rw [h3] at e
  simp only [Value.ownBlock, Option.some.injEq] at e;have := blk_lt hc
  omega
theorem BS.app (h : BS B W0 W cb cA cc x0 pv os xs) {x : S66} {e : El} (hx : Kd.FK k66 W (Fo B W0.heap.size pv) x e.cs) {pv' : Value} (hg : W.grownBy W' pv.ownBlock) (hat : pv'.ownBlock = pv.ownBlock ∨ pv'.ownBlock = some W.heap.size) (hown : W'.ownsRow (W0.heap.size + 1) 66 3 pv' (os.length + 1) (os.flatMap El.cs ++ e.cs)) : BS B W0 (W'.setCell ⟨W0.heap.size, 2, none⟩ pv') cb cA cc x0 pv' (os ++ [e]) (xs ++ [x]) := by
 have hap := h.apart;have hgo := blk_lt (show W.heap[W0.heap.size]? = _ from h.blk)
 have hne : ∀ k, some k ≠ pv.ownBlock → k < W.heap.size → some k ≠ pv'.ownBlock := by
  intro k hk hlt
  rcases hat with hat | hat
  ·rw [hat]; exact hk
  ·rw [hat]
   intro he
   injection he with he
   omega
 have hBW : ∀ k, k < W.heap.size → some k ≠ pv.ownBlock → k ≠ W0.heap.size → (W'.setCell ⟨W0.heap.size, 2, none⟩ pv').heap[k]? = W.heap[k]? := fun k h1 h2 h3 => (Below.heap_setCell W' _ _ _ h3).trans (hg.block k h1 h2)
 have fkm : ∀ {y : S66} {cs : List Value}, Kd.FK k66 W (Fo B W0.heap.size pv) y cs → Kd.FK k66 (W'.setCell ⟨W0.heap.size, 2, none⟩ pv') (Fo B W0.heap.size pv') y cs := fun hk =>
  Kd.FK_mono (Kd.FK_step (Kd.FK_bound hk) (fun k hk hlt2 => hBW k hk.2 hk.1.2.2 hk.1.2.1)) (fun k hk => ⟨hk.1.1, hk.1.2.1, hne k hk.1.2.2 hk.2⟩)
 refine ⟨?_, ownsRow_far ?_ (hne _ hap hgo), by simp [h.len], fun i y f hy hf => ?_, ?_, ?_, h.base⟩
 ·have h2 : (uBlk W0.heap.size [.bool cb, .slice cA x0.f1.length cc, pv] 37).p W' := (hg.block _ hgo hap).trans h.blk
  exact Ctx.put h2 2 pv'
 ·rw [List.length_append, List.flatMap_append]
  simpa using hown
 ·by_cases hi : i < xs.length
  ·rw [List.getElem?_append_left hi] at hy
   rw [List.getElem?_append_left (by rw [h.len]; exact hi)] at hf;exact fkm (h.rep i y f hy hf)
  ·have hi2 := (List.getElem?_eq_some_iff.1 hy).1
   simp only [List.length_append, List.length_singleton] at hi2
   obtain rfl : i = xs.length := by omega
   rw [List.getElem?_append_right (Nat.le_refl _)] at hy;rw [← h.len, List.getElem?_append_right (Nat.le_refl _)] at hf;simp only [Nat.sub_self, List.getElem?_cons_zero, Option.some.injEq] at hy hf;subst hy;subst hf;exact fkm hx
 ·obtain ⟨cs, e, hk⟩ := h.cst
  exact ⟨cs, e, Kd.FK_mono (Kd.FK_step (Kd.FK_bound hk) (fun k hk hlt2 => hBW k hk.2 hk.1.2.2 hk.1.2.1)) (fun k hk => ⟨hk.1.1, hk.1.2.1, hne k hk.1.2.2 hk.2⟩)⟩
 ·refine (h.bel.grown hg h.bel.size (fun k hk => ?_)).setCell (p := ⟨W0.heap.size, 2, none⟩) (Nat.le_refl _) _
  rcases h.own.2 with ⟨h2, _⟩ | ⟨g', cap', cur, h2, hb, hc, hr⟩
  ·rw [h2] at hk; cases hk
  ·rw [h2] at hk
   simp only [Value.ownBlock, Option.some.injEq] at hk
   omega
theorem BS.keep {α : Type} {d : Kd α} {pv' u : Value} {ys : List α} (h : BS B W0 W cb cA cc x0 pv os xs) (hg : W.grownBy W' pv.ownBlock) (hat : pv'.ownBlock = pv.ownBlock ∨ pv'.ownBlock = some W.heap.size) (hu : Cv d (Fo 0 W0.heap.size pv) W u ys) : Cv d (Fo 0 W0.heap.size pv') (W'.setCell ⟨W0.heap.size, 2, none⟩ pv') u ys := by
 obtain ⟨A, c, e, hc, hF⟩ := hu;refine ⟨A, c, e, hc, Kd.F_mono (Kd.F_step (Kd.F_bound hF) (fun k hk hlt => (Below.heap_setCell W' _ _ _ hk.1.2.1).trans (hg.block k hlt hk.1.2.2))) (fun k hk => ⟨hk.1.1, hk.1.2.1, ?_⟩)⟩
 rcases hat with hat | hat
 ·rw [hat]; exact hk.1.2.2
 ·rw [hat]
  intro he
  injection he with he
  omega
theorem BS.kv {PA : Option Addr} {no pc : Nat} (h : BS B W0 W cb cA cc x0 (.slice PA no pc) os xs) (hm : xs.length ≤ 1000000) : Kv kTR (fun k => B ≤ k) W (.agg #[.bool cb, .slice cA x0.f1.length cc, .slice PA no pc]) ⟨x0, xs⟩ := by
 obtain ⟨A', c', he, hl, hF⟩ := h.cst.openN;simp only [Value.agg.injEq, Array.mk.injEq, List.cons.injEq, Value.bool.injEq, Value.slice.injEq, and_true, true_and] at he;obtain ⟨hcb, rfl, rfl⟩ := he;subst hcb;obtain ⟨B', d', he, hl2, hF2⟩ := ns_row (O := fun k => B ≤ k) (xs := xs) h.own (fun k hk => by have := h.base; omega) h.len hm (fun i x e hx he => Kd.FK_mono (h.rep i x e hx he) (fun k hk => hk.1));simp only [Value.slice.injEq] at he;obtain ⟨rfl, rfl, rfl⟩ := he;exact ⟨_, rfl, kTR_mkF W _ ⟨x0, xs⟩ hl (Kd.F_mono hF (fun k hk => hk.1)) hl2 hF2⟩
end
theorem row_el {ok : Nat → Prop} {W : World} {A : Option Addr} {xs : List S66} {i : Nat} (h : Kd.F k66 W ok A xs.length xs) (hi : i < xs.length) : ∃ ad e, A = some ad ∧ W.cell? (ad.add (i * 3)) = some (.int .i64 (El.v e)) ∧ W.cell? ⟨(ad.add (i * 3)).block, (ad.add (i * 3)).off + 1, none⟩ = some (.bool (El.b e)) ∧ W.cell? ⟨(ad.add (i * 3)).block, (ad.add (i * 3)).off + 2, none⟩ = some (.slice (El.A e) (El.n e) (El.c e)) ∧ Kd.FK k66 W ok xs[i] e.cs := by
 obtain ⟨ad, cs, hA, -, hK, hcc, -⟩ := Kd.F_get h z66 (i : Int) (by omega) (by omega);rw [show xs.getD (i : Int).toNat z66 = xs[i] by simp [hi]] at hK;obtain ⟨A2, c2, rfl, l2, g2⟩ := k66_openF hK;have hc : ∀ j u, ([.int .i64 xs[i].f0, .bool xs[i].f1.f0, .slice A2 xs[i].f1.f1.length c2] : List Value)[j]? = some u → W.cell? (ad.add (i * 3 + j)) = some u := hcc;exact ⟨ad, ⟨xs[i].f0, xs[i].f1.f0, A2, xs[i].f1.f1.length, c2⟩, hA, hc 0 _ rfl, by rw [← add_field _ _ 1 (by omega)]; exact hc 1 _ rfl, by rw [← add_field _ _ 2 (by omega)]; exact hc 2 _ rfl, hK⟩
def cp (p : Int × Int) : S66 := ⟨p.1, cn p.2⟩
def psR (l : List S66) : LnP.Ps := l.map fun p => (p.f0, nv p.f1)
def tt (c : Int) (ps : LnP.Ps) : TR := ⟨cn c, ps.map cp⟩
structure DIn (L : Nat) (x : TR) : Prop where
 few : x.f1.length ≤ 39
 c : Dg 10 x.f0.f1 ∧ x.f0.f1.length ≤ L
 p : ∀ p ∈ x.f1, Dg 10 p.f1.f1 ∧ p.f1.f1.length ≤ L
def uEl (ad : Addr) (i : Nat) (e : El) : UpP := ⟨fun W => W.cell? (ad.add (i * 3)) = some (.int .i64 e.v) ∧ W.cell? ⟨(ad.add (i * 3)).block, (ad.add (i * 3)).off + 1, none⟩ = some (.bool e.b) ∧ W.cell? ⟨(ad.add (i * 3)).block, (ad.add (i * 3)).off + 2, none⟩ = some (.slice e.A e.n e.c), fun W W' h hb => ⟨pw_cell_below hb h.1, pw_cell_below hb h.2.1, pw_cell_below hb h.2.2⟩⟩
end Go.Proofs.YthpgjgmaamcaoaaDoor.P.R
end
section
namespace Go.Proofs.YthpgjgmaamcaoaaDoor.P
open Go.RowKit Go.Shelf Go.Proofs.YthpgjgmaamcaoaaDoorW.PrintWords Go.Proofs.YthpgjgmaamcaoaaDoorW.PrintLast Go.Proofs.YthpgjgmaamcaoaaDoorW.PrintMore Go.Proofs.YthpgjgmaamcaoaaDoor.Nm
set_option maxRecDepth 100000
set_option linter.unusedVariables false
set_option linter.unusedSimpArgs false
theorem lin_Scale.tab5 : tabOf (opsOf Tryd.f24 5) = ([some 20, some 21, some 22, some 23, some 24, some 25, some 26, some 27, some 28, some 29, some 30, some 31, none], [[], [0], [], [2], [], [4], [], [5, 6], [3, 7], [8], [1, 9, 7], [0, 1, 2, 3, 4, 5, 6, 7, 8, 9, 10], [11, 10, 10, 0, 1, 2, 3, 4, 5, 6, 7, 8, 9, 10]]) := by kernel_rfl
structure SIn (x : TB) : Prop where
 few : x.f1.length ≤ 39
 c : Dg B32 x.f0.f1 ∧ x.f0.f1.length ≤ 400
 p : ∀ p ∈ x.f1, Dg B32 p.f1.f1 ∧ p.f1.f1.length ≤ 400
theorem abs_lt' {x : S24} {k : Nat} (hd : Dg B32 x.f1) (hl : x.f1.length ≤ k) : ((bv x).natAbs : Int) < B32 ^ k := by
 have h1 := val_lt (B := B32) (by decide) hd;have h0 := val_nonneg (B := B32) (by decide) hd;have h2 := pow_mono (B := B32) (by decide) hl
 have : ((bv x).natAbs : Int) = val B32 x.f1 := by unfold bv sg; split <;> omega
 omega
theorem mul_len {x y : S24} (hx : Dg B32 x.f1 ∧ x.f1.length ≤ 400) (hy : Dg B32 y.f1 ∧ y.f1.length ≤ 400) : (can (bv x * bv y)).f1.length ≤ 800 := by
 refine can_len ?_;have h1 := abs_lt' hx.1 hx.2;have h2 := abs_lt' hy.1 hy.2;have hp := pow_pos' (B := B32) (by decide) 400;rw [Int.natAbs_mul, Int.natCast_mul, show (800 : Nat) = 400 + 400 from rfl, Int.pow_add];generalize B32 ^ 400 = K at *;generalize ((bv x).natAbs : Int) = a at *
 have hb : (0 : Int) ≤ ((bv y).natAbs : Int) := by omega
 generalize ((bv y).natAbs : Int) = b at *;have e1 : a * b ≤ K * b := Int.mul_le_mul_of_nonneg_right (by omega) hb;have e2 : K * b < K * K := Int.mul_lt_mul_of_pos_left h2 (by omega)
 omega
def sp (n : Int) (p : S44) : S44 := ⟨p.f0, can (bv p.f1 * n)⟩
set_option maxHeartbeats 3200000 in
theorem lin_Scale (ok : Nat → Prop) (v u : Value) (x : TB) (y : S24) (w0 : World) (hok : ∀ k, w0.heap.size ≤ k → ok k) (h : Kv kTB (fun _ => True) w0 v x) (h' : Kv k24 (fun _ => True) w0 u y) (hx : SIn x) (hy : Dg B32 y.f1 ∧ y.f1.length ≤ 400) :
  Calls Tryd.prog 24 #[v, u] w0 (KPost kTB ok w0 (tt (bv x.f0 * bv y) (LnP.nrm ((psB x.f1).map (fun p => (p.1, p.2 * bv y)))))) := by
 obtain ⟨A, c, B, d, rfl, hk, hp⟩ := h.openTB;obtain ⟨nA, nc, rfl, nl, nF⟩ := h'.openB;have C := Ctx.new (cs := [.bool false, .slice none 0 0, .slice none 0 0]) (t := 27) (Ctx.new (cs := [.bool y.f0, .slice nA y.f1.length nc]) (t := 24) (Ctx.new (cs := [.bool x.f0.f0, .slice A x.f0.f1.length c, .slice B x.f1.length d]) (t := 27) (Ctx.cons (uB w0) (Below.refl _ _) (Ctx.cons (uK k24 (fun _ => True) (.agg #[.bool x.f0.f0, .slice A x.f0.f1.length c]) x.f0) hk (Ctx.cons (uCv k44 (fun k => k < w0.heap.size) x.f1 (.slice B x.f1.length d)) (hp.within (fun k _ h => h)) (Ctx.cons (uK k24 (fun _ => True) (.agg #[.bool y.f0, .slice nA y.f1.length nc]) y) h' Ctx.nil))))));simp only [World.size_alloc] at C;have hx := Sdq.mk hx;have hy := Sdq.mk hy;have hok := Sdq.mk hok
 obtain ⟨rr, hrr⟩ : ∃ rr, rr = tt (bv x.f0 * bv y) (LnP.nrm ((psB x.f1).map (fun p => (p.1, p.2 * bv y)))) := ⟨_, rfl⟩
 rw [← hrr];have HRR := Sdq.mk hrr;clear h h' hk hp hrr nl nF;go_enter Tryd.func24, Tryd.ntmps24
 go_upto_region 1 with fail
 refine absW _ C ?_;clear C;intro w1 C;have y0 := Ctx.blk C.2.2.1 0 rfl;have y1 := Ctx.blk C.2.2.1 1 rfl;have n0 := Ctx.blk C.2.1 0 rfl;have n1 := Ctx.blk C.2.1 1 rfl;have hMl := big_Mul (fun _ => True) (.agg #[.bool x.f0.f0, .slice A x.f0.f1.length c]) (.agg #[.bool y.f0, .slice nA y.f1.length nc]) x.f0 y w1 (fun _ _ => trivial) C.2.2.2.2.1 C.2.2.2.2.2.2.1 ⟨hx.out.c.1, by have := hx.out.c.2; omega⟩ ⟨hy.out.1, by have := hy.out.2; omega⟩;have C := Sdq.mk C
 go_upto_region 2 with (go_at_call 40; refine hMl.mono ?_; rintro e4 w4 ⟨v4, rfl, hv4, hb4⟩; obtain ⟨zA, zc, rfl, -, -⟩ := hv4.openB)
 have hB0 := Sdq.mk (BS.start (x0 := can (bv x.f0 * bv y)) hv4);have C := Sdq.mk (C.out.below hb4);clear hv4 hb4 hMl y0 y1 n0 n1;have y2 := Ctx.blk ((uBlk _ _ _).up _ _ C.out.2.2.1 (bal (Below.refl _ _) (.cells #[.bool (can (bv x.f0 * bv y)).f0, .slice zA (can (bv x.f0 * bv y)).f1.length zc, .slice none 0 0] 27))) 2 rfl
 obtain ⟨cv, ecv⟩ : ∃ cv, cv = can (bv x.f0 * bv y) := ⟨_, rfl⟩
 rw [← ecv] at hB0 y2 ⊢;have hcv := Sdq.mk ecv;clear ecv
 obtain ⟨W5, eW5⟩ : ∃ W5, W5 = w4.alloc (.cells #[.bool cv.f0, .slice zA cv.f1.length zc, .slice none 0 0] 27) := ⟨_, rfl⟩
 rw [← eW5] at hB0 y2 ⊢;clear eW5
 go_wp2_with fail
 clear y2
 obtain ⟨n, en⟩ : ∃ n, n = x.f1.length := ⟨_, rfl⟩
 rw [← en];have hn := Sdq.mk en
 have hn39 : n ≤ 39 := by rw [en]; exact hx.out.few
 clear en
 obtain ⟨go, ego⟩ : ∃ go, go = w4.heap.size := ⟨_, rfl⟩
 rw [← ego];have hgo := Sdq.mk ego;clear ego
 go_loopg [16] n (fun gk s16 wr => ∃ (i : Nat) (pv : Value) (os : List El), gk + i = n ∧ s16 = .int .i64 (i : Int) ∧ Sdq (BS w4 wr cv.f0 zA zc cv pv os ((x.f1.take i).map (sp (bv y)))))
 case atStart => exact ⟨0, _, _, rfl, rfl, hB0⟩
 case round =>
  clear hB0;obtain ⟨i, pv, os, hgi, rfl, hN⟩ := hrel
  cases gk with
  | zero =>
   obtain rfl : i = n := by omega
   obtain ⟨PA, pc, rfl⟩ := hN.out.pvf
   obtain ⟨no, eno0⟩ : ∃ no, no = os.length := ⟨_, rfl⟩
   rw [← eno0] at hN;rw [List.take_of_length_le (by have := hn.out; omega)] at hN;have hC2 := Sdq.mk (And.intro ((uBlk _ _ _).up _ _ C.out.1 hN.out.bel) (below_step C.out.2.2.2.1 hN.out.bel))
   have hNm := lin_Norm (fun k => ok k ∧ k ≠ w0.heap.size + 2) _ _ wr (fun k hk => by
    have h1 := blk_lt (show wr.heap[w0.heap.size + 2]? = _ from hC2.out.1)
    exact ⟨hok.out k (by omega), by omega⟩) (hN.out.kv (by have := hx.out.few; simp; omega)) ⟨by have := hx.out.few; simpa using this, by rw [hcv.out]; exact ⟨can_dg _, Nat.le_trans (mul_len hx.out.c hy.out) (by decide)⟩, fun p hp => by
     obtain ⟨z, _, rfl⟩ := List.mem_map.1 hp
     exact can_dg _, fun p hp => by
     obtain ⟨z, hz, rfl⟩ := List.mem_map.1 hp;have := mul_len (hx.out.p z hz) hy.out
     show (can (bv z.f1 * bv y)).f1.length ≤ 1000
     omega⟩
   have hrr := Sdq.mk (show tt (bv cv) (LnP.nrm (psB (x.f1.map (sp (bv y))))) = rr by
    rw [HRR.out, hcv.out, bv_can]
    congr 2
    unfold psB sp;simp only [List.map_map];refine List.map_congr_left (fun p _ => ?_)
    simp [bv_can])
   dsimp only at hNm
   rw [hrr.out] at hNm;have z0 := Ctx.blk hN.out.blk 0 rfl;have z1 := Ctx.blk hN.out.blk 1 rfl;have z2 := Ctx.blk hN.out.blk 2 rfl;rw [← hgo.out] at z0 z1 z2;clear hN eno0;go_wp2_with (go_at_call 17; refine hNm.mono ?_; rintro e2 w2 ⟨v2, rfl, hv2, hb2⟩; obtain ⟨yA, yc, yB, yd, rfl, -, -⟩ := hv2.openTB; have hC3 := And.intro ((uBlk _ _ _).up _ _ hC2.out.1 hb2) (below_step hC2.out.2 hb2); have E := Sdq.mk (end3 (O := fun k => ok k ∧ k ≠ w0.heap.size + 2) (ok := ok) hC3.1 hC3.2 (by omega) (fun k hk => hk) hv2 _ rfl); have r0 := Ctx.blk hC3.1 0 rfl; have r1 := Ctx.blk hC3.1 1 rfl; have r2 := Ctx.blk hC3.1 2 rfl; have f0 := Ctx.frz hC3.1 0; have f1 := Ctx.frz hC3.1 1; have f2 := Ctx.frz hC3.1 2; clear hC3 hv2 hb2);have E := E.out;clear r0 r1 r2 f0 f1 f2;generalize World.setCell _ _ _ = wf at E ⊢;obtain ⟨EP, e0, e1, e2⟩ := E;exact bodyPost_ret (by first | (simp [results, Tryd.results24, go_sem, e0, e1, e2]; done) | (simp [results, Tryd.results24, go_sem, e0, e1, e2]; rfl)) rfl EP
  | succ j =>
   have hin : i < x.f1.length := by have := hn.out; omega
   obtain ⟨B', d', e1, -, hF⟩ := C.out.2.2.2.2.2.1.below hN.out.bel
   injection e1 with e2 _ e3
   subst e2;subst e3;obtain ⟨ad, e, rfl, x0, x1, x2, hfk⟩ := row_el hF hin;have HP := Sdq.mk (And.intro hgi hin)
   have hin2 : i < n := by omega
   have hst := Sdq.mk (show (x.f1.take (i + 1)).map (sp (bv y)) = (x.f1.take i).map (sp (bv y)) ++ [sp (bv y) x.f1[i]] by rw [List.take_succ_eq_append_getElem hin, List.map_append]; rfl);have hev : e.v = x.f1[i].f0 := (fk_el hfk).1;have hqd := hx.out.p x.f1[i] (List.getElem_mem hin)
   obtain ⟨q, eq⟩ : ∃ q, q = x.f1[i] := ⟨_, rfl⟩
   rw [← eq] at hfk hev hst hqd;have HEV := Sdq.mk hev;clear hev;have hqd := Sdq.mk hqd
   obtain ⟨xs, hxs⟩ : ∃ xs, xs = (x.f1.take i).map (sp (bv y)) := ⟨_, rfl⟩
   rw [← hxs] at hN hst;have hxl := Sdq.mk (show xs.length ≤ 39 by rw [hxs]; simp; omega);have hfk := Sdq.mk hfk;clear hF eq hxs hgi hin
   go_upto_region 5 with fail
   obtain ⟨PA, pc, rfl⟩ := hN.out.pvf
   obtain ⟨no, eno0⟩ : ∃ no, no = os.length := ⟨_, rfl⟩
   rw [← eno0] at hN;have eno := Sdq.mk eno0;clear eno0;have hba : Below wr.heap.size wr (wr.alloc (.cells #[.int .i64 e.v, .bool e.b, .slice e.A e.n e.c] 44)) := bal (Below.refl _ _) _
   have C6 : Ctx [uBlk wr.heap.size [.int .i64 e.v, .bool e.b, .slice e.A e.n e.c] 44, uBS w4 cv.f0 zA zc cv (.slice PA no pc) os xs, ⟨fun W => Kd.FK k44 W (fun k => k < w0.heap.size) q e.cs, fun _ _ h hb => Kd.FK_below h hb⟩, uBlk (w0.heap.size + 1) [.bool y.f0, .slice nA y.f1.length nc] 24, uK k24 (fun _ => True) (.agg #[.bool y.f0, .slice nA y.f1.length nc]) y] (wr.alloc (.cells #[.int .i64 e.v, .bool e.b, .slice e.A e.n e.c] 44)) := ⟨blk_new wr _, (uBS _ _ _ _ _ _ _ _).up _ _ hN.out hba, Kd.FK_below hfk.out hba, (uBlk _ _ _).up _ _ ((uBlk _ _ _).up _ _ C.out.2.1 hN.out.bel) hba, (uK _ _ _ _).up _ _ ((uK _ _ _ _).up _ _ C.out.2.2.2.2.2.2.1 hN.out.bel) hba, trivial⟩
   refine absW _ C6 ?_;clear C6 hN hba hfk x0 x1 x2;generalize wr.heap.size = p6;have hL := Sdq.mk (fun (W : World) (hC : Ctx [uBlk p6 [.int .i64 e.v, .bool e.b, .slice e.A e.n e.c] 44, uBS w4 cv.f0 zA zc cv (.slice PA no pc) os xs, ⟨fun W => Kd.FK k44 W (fun k => k < w0.heap.size) q e.cs, fun _ _ h hb => Kd.FK_below h hb⟩, uBlk (w0.heap.size + 1) [.bool y.f0, .slice nA y.f1.length nc] 24, uK k24 (fun _ => True) (.agg #[.bool y.f0, .slice nA y.f1.length nc]) y] W) => big_Mul (Fo go (.slice PA no pc)) (.agg #[.bool e.b, .slice e.A e.n e.c]) (.agg #[.bool y.f0, .slice nA y.f1.length nc]) q.f1 y W (by rw [hgo.out]; exact hC.2.1.fresh) ((el_kv hC.2.2.1).mono (fun _ _ => trivial)) hC.2.2.2.2.1 ⟨hqd.out.1, by have := hqd.out.2; omega⟩ ⟨hy.out.1, by have := hy.out.2; omega⟩);intro w6 C;refine flowS (m := 10) (n := 13) lin_Scale.tab5 rfl (Ctx _) (Rl [uEq (.pointer (some ⟨go, 2, none⟩)), uEq (.slice PA no pc), uEq (.pointer (some ⟨p6, 0, none⟩)), uEq (.int .i64 e.v), uEq (.pointer (some ⟨p6, 1, none⟩)), uEq (.agg #[.bool e.b, .slice e.A e.n e.c]), uEq (.agg #[.bool y.f0, .slice nA y.f1.length nc]), uKd k24 (Fo go (.slice PA no pc)) (can (bv q.f1 * bv y)), uKd k44 (Fo go (.slice PA no pc)) ⟨q.f0, can (bv q.f1 * bv y)⟩, uBx (Fo go (.slice PA no pc)) ⟨q.f0, can (bv q.f1 * bv y)⟩]) rfl (by kernel_rfl) (by kernel_rfl) (fun _ _ h hb => h.below hb) (Rl.up _) C ⟨⟨⟨⟨⟨⟨⟨⟨⟨⟨trivial, ?_⟩, ?_⟩, ?_⟩, ?_⟩, ?_⟩, ?_⟩, ?_⟩, ?_⟩, ?_⟩, ?_⟩ ?_
   ·refine At.of _ rfl (fun e_ a w hC hd hb K hK => ?_)
    have b5 : a.tmps[5]? = some (.pointer (some ⟨go, 0, none⟩)) := hb 5 (by decide);refine value_ (w1 := w) (v := .pointer (some ⟨go, 2, none⟩)) (by rfl) rfl ?_ (hK.out _ _ (Below.refl _ _) rfl);clear hC hd hb hK hL
    first | (go_simp; done) | (go_simp; rfl)
   ·refine At.of _ rfl (fun e_ a w hC hd hb K hK => ?_)
    have q20 := (hd 0 (by decide)).2 20 rfl;rw [show e_ 0 = _ from (hd 0 (by decide)).1] at q20;have cc2 : w.cell? ⟨w4.heap.size, 2, none⟩ = some (.slice PA no pc) := Ctx.blk hC.2.1.blk 2 rfl;rw [← hgo.out] at cc2;refine value_ (w1 := w) (v := .slice PA no pc) (by rfl) rfl ?_ (hK.out _ _ (Below.refl _ _) rfl);clear hC hd hb hK hL
    first | (go_simp; done) | (go_simp; rfl)
   ·refine At.of _ rfl (fun e_ a w hC hd hb K hK => ?_)
    have b7 : a.tmps[7]? = some (.pointer (some ⟨p6, 0, none⟩)) := hb 7 (by decide);refine value_ (w1 := w) (v := .pointer (some ⟨p6, 0, none⟩)) (by rfl) rfl ?_ (hK.out _ _ (Below.refl _ _) rfl);clear hC hd hb hK hL
    first | (go_simp; done) | (go_simp; rfl)
   ·refine At.of _ rfl (fun e_ a w hC hd hb K hK => ?_)
    have q22 := (hd 2 (by decide)).2 22 rfl;rw [show e_ 2 = _ from (hd 2 (by decide)).1] at q22;have cc0 : w.cell? ⟨p6, 0, none⟩ = some (.int .i64 e.v) := Ctx.blk hC.1 0 rfl;refine value_ (w1 := w) (v := .int .i64 e.v) (by rfl) rfl ?_ (hK.out _ _ (Below.refl _ _) rfl);clear hC hd hb hK hL
    first | (go_simp; done) | (go_simp; rfl)
   ·refine At.of _ rfl (fun e_ a w hC hd hb K hK => ?_)
    have b7 : a.tmps[7]? = some (.pointer (some ⟨p6, 0, none⟩)) := hb 7 (by decide);refine value_ (w1 := w) (v := .pointer (some ⟨p6, 1, none⟩)) (by rfl) rfl ?_ (hK.out _ _ (Below.refl _ _) rfl);clear hC hd hb hK hL
    first | (go_simp; done) | (go_simp; rfl)
   ·refine At.of _ rfl (fun e_ a w hC hd hb K hK => ?_)
    have q24 := (hd 4 (by decide)).2 24 rfl;rw [show e_ 4 = _ from (hd 4 (by decide)).1] at q24;have cc1 : w.cell? ⟨p6, 1, none⟩ = some (.bool e.b) := Ctx.blk hC.1 1 rfl;have cc2 : w.cell? ⟨p6, 2, none⟩ = some (.slice e.A e.n e.c) := Ctx.blk hC.1 2 rfl;refine value_ (w1 := w) (v := .agg #[.bool e.b, .slice e.A e.n e.c]) (by rfl) rfl ?_ (hK.out _ _ (Below.refl _ _) rfl);clear hC hd hb hK hL
    first | (go_simp; done) | (go_simp; rfl)
   ·refine At.of _ rfl (fun e_ a w hC hd hb K hK => ?_)
    have b3 : a.tmps[3]? = some (.pointer (some ⟨w0.heap.size + 1, 0, none⟩)) := hb 3 (by decide);have cc1 : w.cell? ⟨w0.heap.size + 1, 0, none⟩ = some (.bool y.f0) := Ctx.blk hC.2.2.2.1 0 rfl;have cc2 : w.cell? ⟨w0.heap.size + 1, 1, none⟩ = some (.slice nA y.f1.length nc) := Ctx.blk hC.2.2.2.1 1 rfl;refine value_ (w1 := w) (v := .agg #[.bool y.f0, .slice nA y.f1.length nc]) (by rfl) rfl ?_ (hK.out _ _ (Below.refl _ _) rfl);clear hC hd hb hK hL
    first | (go_simp; done) | (go_simp; rfl)
   ·refine At.of _ rfl (fun e_ a w hC hd hb K hK => ?_)
    have q25 := (hd 5 (by decide)).2 25 rfl;rw [show e_ 5 = _ from (hd 5 (by decide)).1] at q25;have q26 := (hd 6 (by decide)).2 26 rfl;rw [show e_ 6 = _ from (hd 6 (by decide)).1] at q26;refine goes_ Tryd.func40 (by kernel_rfl) rfl #[.agg #[.bool e.b, .slice e.A e.n e.c], .agg #[.bool y.f0, .slice nA y.f1.length nc]] (by rfl) rfl rfl (by first | (simp [Act.eval, q25, q26]; done) | (simp [Act.eval, q25, q26]; rfl)) ?_;refine (hL.out w hC).mono ?_;rintro en w' ⟨v, rfl, hv, hb'⟩;exact ⟨v, rfl, hK.out v w' hb' hv⟩
   ·refine At.of _ rfl (fun e_ a w hC hd hb K hK => ?_)
    have q23 := (hd 3 (by decide)).2 23 rfl;rw [show e_ 3 = _ from (hd 3 (by decide)).1] at q23;have q27 := (hd 7 (by decide)).2 27 rfl;obtain ⟨yA, yc, he7, yl, yF⟩ := Kv.openB (hd 7 (by decide)).1;rw [he7] at q27;refine value_ (w1 := w) (v := .agg #[.int .i64 e.v, .bool (can (bv q.f1 * bv y)).f0, .slice yA (can (bv q.f1 * bv y)).f1.length yc]) (by rfl) rfl ?_ (hK.out _ _ (Below.refl _ _) ⟨_, rfl, by rw [HEV.out]; exact k44_mkF w _ ⟨q.f0, can (bv q.f1 * bv y)⟩ yl yF⟩);clear hC hd hb hK hL yl yF he7
    first | (go_simp; done) | (go_simp; rfl)
   ·refine At.of _ rfl (fun e_ a w hC hd hb K hK => ?_)
    have q28 := (hd 8 (by decide)).2 28 rfl;obtain ⟨cs8, he8, hK8⟩ := (hd 8 (by decide)).1;obtain ⟨yA, yc, rfl, yl, yF⟩ := k44_openF hK8;rw [he8] at q28;refine value_ (w1 := w.alloc (.cells (El.cs ⟨q.f0, (can (bv q.f1 * bv y)).f0, yA, (can (bv q.f1 * bv y)).f1.length, yc⟩).toArray 44)) (v := .slice (some ⟨w.heap.size, 0, none⟩) 1 1) (by rfl) rfl ?_ (hK.out _ _ (bal (Below.refl _ _) _) ⟨w.heap.size, _, rfl, blk_new w _, Kd.FK_below hK8 (bal (Below.refl _ _) _)⟩);clear hC hd hb hK hL yl yF he8 hK8;unfold El.cs
    first | (go_simp; done) | (go_simp; rfl)
   ·intro e_ w10 hC hr a ha
    obtain ⟨gb, e', he9, hbx, hK9⟩ := hr.2;have r1 : e_ 1 = .slice PA no pc := hr.1.1.1.1.1.1.1.1.2;simp only [fill, Act.put, r1, he9, Nat.reduceAdd, Nat.reduceLT, decide_true, decide_false, if_true, Bool.false_eq_true, if_false, List.setIfInBounds_toArray, List.set_cons_zero, List.set_cons_succ] at ha;subst ha;clear hr r1 he9 hL;obtain ⟨i0, hi, hzz⟩ := Option.map_eq_some_iff.1 infoP;simp only [Prod.mk.injEq] at hzz;obtain ⟨hz1, hz2, hz3⟩ := hzz;have hHI := Sdq.mk (And.intro hi (And.intro hz1 (And.intro hz2 hz3)));clear hi hz1 hz2 hz3;have hN := Sdq.mk hC.2.1;have hnw := Sdq.mk (bx_news hbx);have hone := Sdq.mk (cs_one1 e');rw [hgo.out] at hK9;have hK := Sdq.mk hK9;have hOL := Sdq.mk (show os.length ≤ 100001 by have := hN.out.len; have := hxl.out; omega);have hs6 := Sdq.mk (show w4.heap.size + 1 ≤ w10.heap.size by have h1 := blk_lt (show w10.heap[w4.heap.size]? = _ from hN.out.blk); omega);clear hC hbx hK9;simp only [List.drop_succ_cons, List.drop_zero]
    go_wp2_with (first
     | ((with_reducible refine gate_builtin (b := .append) (xs := #[.tmp 21, .tmp 29]) rfl ?_); at_builtin; go_loud (refine wpList_append_own_at _ rfl (.tmp 21) (.tmp 29) 25 rfl (w4.heap.size + 1) 44 i0 _ 3 40 undP hHI.out.1 hHI.out.2.1 hHI.out.2.2.1 hHI.out.2.2.2 rfl (by decide) (.slice PA no pc) os.length (os.flatMap El.cs) rfl hN.out.own ⟨gb, 0, none⟩ 1 1 e'.cs rfl rfl hnw.out hone.out (by have := hOL.out; simp only [maxLen]; omega) (by have := hOL.out; omega) hs6.out ?_; intro v1 w11 hown1 hg1 hnil1 hat1; obtain ⟨g1, c1, hv1, -⟩ := ownsRow_slice hown1 (by omega); subst hv1; have hgb := (show (uBlk w4.heap.size _ 27).p w11 from (hg1.block _ (blk_lt (show w10.heap[w4.heap.size]? = _ from hN.out.blk)) hN.out.apart).trans hN.out.blk); have z3 := Ctx.blk hgb 2 rfl; have f3 := Ctx.frz hgb 2; have HNS := Sdq.mk (hN.out.app hK.out hg1 hat1 hown1); rw [← hgo.out] at z3 f3 HNS; clear hgb hown1 hg1 hnil1 hat1)))
    clear z3 f3
    go_roundg j
    case measure => go_light; omega
    case rel => go_light; exact ⟨i + 1, .slice (some ⟨g1, 0, none⟩) (os.length + 1) c1, os ++ [e'], by have := HP.out; omega, by go_num, ⟨by rw [hst.out]; exact HNS.out⟩⟩
end Go.Proofs.YthpgjgmaamcaoaaDoor.P
end
