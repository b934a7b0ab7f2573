/- Walks and words of this session, put together by a program of this session (pack.py). Conditions: as each text says. -/
import Derived.Deep.RegionLaw
import Derived.Maps.Own
import Derived.Maps.OwnOps
import Derived.Maps.Views
import Derived.StringKeys
import Derived.Carry
import Derived.Recover
import Derived.Defers
import Derived.Tactics2
import Derived.Laws.Pointers
import Derived.Test.YteighppcdpaekaaDoorQ2
import Derived.Test.YteighppcdpaekaaDoorQ9
set_option linter.unusedVariables false
set_option linter.unusedSimpArgs false
section
namespace Go.Proofs.YteighppcdpaekaaDoor.Rd
open Go.RowKit Go.Proofs.YteighppcdpaekaaDoorW.PrintWords
open Go.Proofs.YteighppcdpaekaaDoor Go.Proofs.YteighppcdpaekaaDoor.P
mutual
def toS : Js.Val → S27
 | .mk k t ks l => ⟨k, strOfNums t, ks.map strOfNums, toSs l⟩
def toSs : List Js.Val → List S27
 | [] => []
 | v :: r => toS v :: toSs r
end
theorem toSs_map (l : List Js.Val) : toSs l = l.map toS := by
 induction l with
 | nil => rfl
 | cons v r ih => simp [toSs, ih]
theorem toSs_snoc (l : List Js.Val) (v : Js.Val) : toSs (l ++ [v]) = toSs l ++ [toS v] := by simp [toSs_map]
theorem toSs_length (l : List Js.Val) : (toSs l).length = l.length := by simp [toSs_map]
def VVal (n0 : Nat) (w' : World) (v : Js.Val) (u : Value) : Prop := ∃ (x0 : Int) (x1 : ByteArray) (v2 v3 : Value), u = .agg #[.int .i64 x0, .string x1, v2, v3] ∧ k27.M w' n0 (fun _ => True) (toS v) [.int .i64 x0, .string x1, v2, v3] ∧ k27.R 27 w' n0 (fun k => some k ≠ v2.ownBlock) v3 (toS v).f3
theorem VVal.of (n0 : Nat) (w' : World) (v : Js.Val) {v2 v3 : Value} (h2 : Kd.string.R 9 w' n0 (fun _ => True) v2 (toS v).f2) (h3 : k27.R 27 w' n0 (fun k => some k ≠ v2.ownBlock) v3 (toS v).f3) :
  VVal n0 w' v (.agg #[.int .i64 (toS v).f0, .string (toS v).f1, v2, v3]) := ⟨_, _, _, _, rfl, k27_mkM w' n0 _ (toS v) h2 (Kd.R_mono h3 (fun _ _ => trivial)), h3⟩
def Z25k (kind : Int) (v2 v3 : Value) : Obj := .cells #[.int .i64 kind, .string ⟨#[]⟩, v2, v3] 27 (0, 0)
structure AS (w0 : World) (g : Nat) (A : Option Addr) (c : Nat) (b : List Int) (w : World) (d : Int) (wc : World) (q : Nat) (lv : Value) (l : List Js.Val) : Prop where
 rs : RS w0 g A c b wc q d
 kb : Kbt w wc g none
 zb : wc.heap[w.heap.size]? = some Z25
 vb : wc.heap[w.heap.size + 1]? = some (Z25k 5 (.slice none 0 0) lv)
 own : k27.R 27 wc (w.heap.size + 2) (fun _ => True) lv (toSs l)
section
variable {w0 : World} {g : Nat} {A : Option Addr} {c : Nat} {b : List Int} {w : World} {d d2 : Int} {wc w2 : World} {q r : Nat} {lv v1 : Value} {l : List Js.Val}
theorem AS.step (h : AS w0 g A c b w d wc q lv l) (hg : g < w.heap.size) (hS : RS w0 g A c b w2 r d2) (hK : Kbt wc w2 g none) : AS w0 g A c b w d2 w2 r lv l :=
 ⟨hS, h.kb.trans hK (.inl rfl), hK.blk h.zb (by omega) (by simp), hK.blk h.vb (by omega) (by simp), Kd.R_mono (Kd.R_keep (Kd.R_bound h.own) hK (fun k hk => by have := hk.2.1; omega)) (fun _ _ => trivial)⟩
theorem AS.drewN (h : AS w0 g A c b w d wc q lv l) (hg : g < w.heap.size) (n : Nat) : AS w0 g A c b w d (wc.drewN n) q lv l := h.step hg (h.rs.drewN n) (kdrN (Kbt.refl _ _ _) n)
theorem AS.drew (h : AS w0 g A c b w d wc q lv l) (hg : g < w.heap.size) : AS w0 g A c b w d wc.drew q lv l := h.step hg h.rs.drew (keep_drew (Kbt.refl _ _ _))
theorem AS.alloc (h : AS w0 g A c b w d wc q lv l) (hg : g < w.heap.size) (x : Obj) : AS w0 g A c b w d (wc.alloc x) q lv l := h.step hg (h.rs.alloc x) (kal (Kbt.refl _ _ _) x)
end
section
variable {w0 : World} {g : Nat} {A : Option Addr} {c : Nat} {b : List Int} {w : World} {d : Int} {wc : World} {q : Nat} {lv : Value} {l : List Js.Val}
theorem R_st {w wc : World} {lv : Value} {xs : List S27} (h : k27.R 27 wc (w.heap.size + 2) (fun _ => True) lv xs) {i : Nat} (hi : i < w.heap.size + 2) (j : Nat) (u : Value) : k27.R 27 (wc.setCell ⟨i, j, none⟩ u) (w.heap.size + 2) (fun _ => True) lv xs :=
 Kd.R_mono (Kd.R_far (p := ⟨i, j, none⟩) (Kd.R_bound h) (fun k hk => by have h2 := hk.2.1; show k ≠ i; omega) u) (fun _ _ => trivial)
theorem AS.stored (h : AS w0 g A c b w d wc q lv l) (hg : g < w.heap.size) (v0 v1 v2 v3 : Value) :
  let wf := (((wc.setCell ⟨w.heap.size, 0, none⟩ v0).setCell ⟨w.heap.size, 1, none⟩ v1).setCell ⟨w.heap.size, 2, none⟩ v2).setCell ⟨w.heap.size, 3, none⟩ v3
  wf.heap[w.heap.size]? = some (.cells #[v0, v1, v2, v3] 27 (0, 0)) ∧ RS w0 g A c b wf q d ∧ Kbt w wf g none ∧ k27.R 27 wf (w.heap.size + 2) (fun _ => True) lv (toSs l) := by
 have hS := St.stored (w := w) (wc := wc) ⟨h.rs, h.kb, h.zb⟩ hg v0 v1 v2 v3;exact ⟨hS.1, hS.2.1, hS.2.2, R_st (R_st (R_st (R_st h.own (by omega) 0 v0) (by omega) 1 v1) (by omega) 2 v2) (by omega) 3 v3⟩
theorem AS.at1 (h : AS w0 g A c b w d wc q lv l) (hg : g < w.heap.size) {x : Int} (hx : x = (q : Int) + 1) : AS w0 g A c b w d (wc.setCell ⟨g, 1, none⟩ (.int .i64 x)) (q + 1) lv l :=
 h.step hg ((h.rs.set1 _).to (by omega) rfl) ((Kbt.refl _ _ _).set_ _ _)
theorem AS.at2 (h : AS w0 g A c b w d wc q lv l) (hg : g < w.heap.size) (x : Int) : AS w0 g A c b w x (wc.setCell ⟨g, 2, none⟩ (.int .i64 x)) q lv l :=
 h.step hg (h.rs.set2 _) ((Kbt.refl _ _ _).set_ _ _)
theorem AS.cells (h : AS w0 g A c b w d wc q lv l) :
  (wc.cell? ⟨w.heap.size, 0, none⟩ = some (.int .i64 0) ∧ wc.cell? ⟨w.heap.size, 1, none⟩ = some (.string ⟨#[]⟩) ∧ wc.cell? ⟨w.heap.size, 2, none⟩ = some (.slice none 0 0) ∧ wc.cell? ⟨w.heap.size, 3, none⟩ = some (.slice none 0 0)) ∧
  (wc.cell? ⟨w.heap.size + 1, 0, none⟩ = some (.int .i64 5) ∧ wc.cell? ⟨w.heap.size + 1, 1, none⟩ = some (.string ⟨#[]⟩) ∧ wc.cell? ⟨w.heap.size + 1, 2, none⟩ = some (.slice none 0 0) ∧ wc.cell? ⟨w.heap.size + 1, 3, none⟩ = some lv) ∧
  (wc.frozen? ⟨w.heap.size, 0, none⟩ = false ∧ wc.frozen? ⟨w.heap.size, 1, none⟩ = false ∧ wc.frozen? ⟨w.heap.size, 2, none⟩ = false ∧ wc.frozen? ⟨w.heap.size, 3, none⟩ = false) :=
 ⟨blk4 h.zb, blk4 h.vb, bfz h.zb 0, bfz h.zb 1, bfz h.zb 2, bfz h.zb 3⟩
theorem AS.base (h : AS w0 g A c b w d wc q lv l) : ∀ k, lv.ownBlock = some k → w.heap.size + 2 ≤ k := Kd.R_base h.own
theorem AS.vbg (h : AS w0 g A c b w d wc q lv l) {w3 : World} (hg3 : wc.grownBy w3 lv.ownBlock) : w3.cell? ⟨w.heap.size + 1, 3, none⟩ = some lv ∧ w3.frozen? ⟨w.heap.size + 1, 3, none⟩ = false := by
 have hb := blk_grown h.vb hg3 (fun e => by have := h.base _ e.symm; omega);exact ⟨(blk4 hb).2.2.2, bfz hb 3⟩
theorem AS.appended (h : AS w0 g A c b w d wc q lv l) (hg : g < w.heap.size) {w3 : World} {v1 : Value} {v : Js.Val} (hR3 : k27.R 27 w3 (w.heap.size + 2) (fun _ => True) v1 (toSs l ++ [toS v])) (hg3 : wc.grownBy w3 lv.ownBlock) :
  AS w0 g A c b w d (w3.setCell ⟨w.heap.size + 1, 3, none⟩ v1) q v1 (l ++ [v]) := by
 have hge : w0.heap.size ≤ w.heap.size := Nat.le_trans h.rs.ge (Nat.le_of_lt hg)
 have hne : ∀ i, i < w.heap.size + 2 → some i ≠ lv.ownBlock := fun i hi e => by have := h.base _ e.symm; omega
 have hrs : RS w0 g A c b w3 q d := h.rs.grown hg3 (hne g (by omega)) (h.rs.bel.grown hg3 (Nat.le_trans hge h.kb.1) (fun k hk => by have := h.base k hk; omega))
 have hkb : Kbt w w3 g none := by
  refine h.kb.trans (Kbt.of_grown hg3 g) ?_
  cases hv : lv.ownBlock with
  | none => exact .inl rfl
  | some k => exact .inr ⟨k, rfl, by have := h.base k hv; omega⟩
 refine ⟨hrs.far (q := ⟨w.heap.size + 1, 3, none⟩) (by show g ≠ w.heap.size + 1; omega) (by show w0.heap.size ≤ w.heap.size + 1; omega) v1,
  keep_far (p := ⟨w.heap.size + 1, 3, none⟩) hkb (by show w.heap.size ≤ w.heap.size + 1; omega) v1,
  blk_far (blk_grown h.zb hg3 (hne _ (by omega))) (p := ⟨w.heap.size + 1, 3, none⟩) (by show w.heap.size ≠ w.heap.size + 1; omega) v1,
  blk_set (blk_grown h.vb hg3 (hne _ (by omega))) 3 v1, ?_⟩
 rw [toSs_snoc];exact R_st hR3 (by omega) 3 v1
end
theorem info_25 : (Tryd.prog.info? 27).map (fun i => (i.zero, i.size, i.bytes)) = some (some (.agg #[(.int .i64 0), (.string ⟨#[]⟩), (.slice none 0 0), (.slice none 0 0)]), 4, 72) := by kernel_rfl
def ValueOK (j : Nat) : Prop := ∀ (w0 : World) (g : Nat) (A : Option Addr) (c : Nat) (b : List Int) (w : World) (p d : Nat) (o : Js.Out Js.Val), Bytes b → RS w0 g A c b w p d → p ≤ b.length → b.length ≤ c → d ≤ 64 → Js.value b j d p = some o →
 Calls Tryd.prog 59 #[.pointer (some ⟨g, 0, none⟩)] w (Post w0 g A c b w d (VVal w.heap.size) o)
theorem law_false {P : Program} {ops : Array Oper} {o : Oper} {a : Act} {w : World} {K : Act → World → Prop} {Q : Exit → Act → World → Prop} {E : Prop} (hf : Hid False) (v : Value) (_hK : K (a.put o.dst v) w) :
  if Region.wanted o (yielded ops a.tmps) = true then Oper.wp P o a w K Q else E := hf.out.elim
set_option maxRecDepth 100000 in
set_option maxHeartbeats 3200000 in
theorem array_calls {k : Nat} (ih : ∀ j, j < k → ValueOK j) {w0 : World} {g : Nat} {A : Option Addr} {c : Nat} {b : List Int} {w : World} {p d : Nat} {o : Js.Out Js.Val} (hb : Bytes b) (h : RS w0 g A c b w p d) (hp : p < b.length) (hbc : b.length ≤ c) (hd : d ≤ 64) (ho : Js.arr b k d p = some o) :
  Calls Tryd.prog 76 #[.pointer (some ⟨g, 0, none⟩)] w (Post w0 g A c b w d (VVal w.heap.size) o) := by
 have hsm := h.small;have hg := h.lt
 have hA0 : AS w0 g A c b w d ((w.alloc Z25).alloc (Z25k 5 (.slice none 0 0) (.slice none 0 0))) p (.slice none 0 0) [] :=
  ⟨(h.alloc _).alloc _, kal (kal (Kbt.refl _ _ _) _) _, blk_alloc (blk_new _ _) _, by have := blk_new (w.alloc Z25) (Z25k 5 (.slice none 0 0) (.slice none 0 0)); simpa using this, Kd.R_nil _ _ _ _ _⟩
 by_cases hde : 64 < d + 1
 ·obtain rfl : Js.Out.no p 13 = o := by simpa [Js.arr, Js.enter, hde] using ho
  have hen := enter_no hA0.rs (by omega) hde;clear ho;go_enter Tryd.func76, Tryd.ntmps76;go_wp2_with (go_at_call 97; refine hen.mono ?_; rintro e w' ⟨rfl, hB, hK⟩);refine ⟨rfl, ?_⟩;exact ⟨rfl, hB, hA0.kb.trans hK (.inl rfl)⟩
 ·have hen := enter_ok hA0.rs hp (by omega)
  have hq := Js.blank_le (b := b) (p := p + 1) (by omega);unfold Js.arr at ho;rw [show Js.enter b d p = .ok () (Js.blank b (p + 1)) by simp [Js.enter, hde]] at ho;simp only at ho;generalize Js.blank b (p + 1) = q at hen hq ho
  cases hx : b[q]? with
  | none =>
   rw [hx] at ho;obtain rfl : Js.Out.no q 11 = o := Option.some.inj ho;go_enter Tryd.func76, Tryd.ntmps76;go_wp2_with (go_at_call 97; refine hen.mono ?_; rintro e w1 ⟨rfl, hS, hK⟩);have hpk := peek_no hS hx;clear hx ho;go_wp2_with (go_at_call 74; refine hpk.mono ?_; rintro e w2 ⟨rfl, m, rfl⟩);refine ⟨rfl, ?_⟩;exact ⟨rfl, (hS.drewN _).bel, kdrN (hA0.kb.trans hK (.inl rfl)) _⟩
  | some x =>
   have hql : q < b.length := (List.getElem?_eq_some_iff.1 hx).1;rw [hx] at ho;simp only at ho;by_cases hc : x = 93
   ·rw [if_pos (by simpa using hc)] at ho
    obtain rfl : Js.Out.ok (Js.Val.mk 5 [] [] []) (q + 1) = o := Option.some.inj ho
    have hc' : (x == 93) = true := by simpa using hc
    clear ho hc;go_enter Tryd.func76, Tryd.ntmps76;go_wp2_with (go_at_call 97; refine hen.mono ?_; rintro e w1 ⟨rfl, hS, hK⟩);have hpk := peek_ok hS hx;have hA1 := hA0.step hg hS hK;obtain ⟨⟨z10, z11, z12, z13⟩, ⟨z20, z21, z22, z23⟩, y0, y1, y2, y3⟩ := hA1.cells;have g1 := hS.c1;have g2 := hS.c2;have f1 := hS.fr 1;have f2 := hS.fr 2;have hF := Lib.hid (fun m => (((hA1.drewN hg m).at1 hg rfl).at2 hg (d : Int)).stored hg (.int .i64 5) (.string ⟨#[]⟩) (.slice none 0 0) (.slice none 0 0));go_wp2_with (go_at_call 74; refine hpk.mono ?_; rintro e w2 ⟨rfl, m, rfl⟩);obtain ⟨hB, hRS, hKB, hR⟩ := hF.out m;generalize hwf : World.setCell _ _ _ = wf at hB hRS hKB hR ⊢;clear hwf;obtain ⟨c0, c1, c2, c3⟩ := blk4 hB;refine bodyPost_ret (v := .agg #[.int .i64 5, .string ⟨#[]⟩, .slice none 0 0, .slice none 0 0]) (by simp [results, Tryd.results76, go_sem, c0, c1, c2, c3]) rfl ?_;exact ⟨_, rfl, VVal.of _ _ (Js.Val.mk 5 [] [] []) (Kd.R_nil _ _ _ _ _) (Kd.R_nil _ _ _ _ _), hRS, hKB⟩
   ·rw [if_neg (by simpa using hc)] at ho
    have hc' : (x == 93) = false := by simpa using hc
    have ho1 := Lib.hid ho;clear ho hc;go_enter Tryd.func76, Tryd.ntmps76;go_wp2_with (go_at_call 97; refine hen.mono ?_; rintro e w1 ⟨rfl, hS, hK⟩);have hpk := peek_ok hS hx;have hA1 := hA0.step hg hS hK;clear hx hA0 hen h;go_wp2_with (go_at_call 74; refine hpk.mono ?_; rintro e w2 ⟨rfl, m, rfl⟩)
    go_loopg [] k (fun kq wc => ∃ (q : Nat) (lv : Value) (l : List Js.Val), Hid (Js.items b kq (d + 1) l q = some o) ∧ q ≤ b.length ∧ l.length ≤ q ∧ kq ≤ k ∧ AS w0 g A c b w ((d : Int) + 1) wc q lv l)
    case atStart => exact ⟨q, _, [], ho1, by omega, by simp, Nat.le_refl _, hA1.drewN hg m⟩
    case round =>
     clear ho1 hA1 hpk hS hK;obtain ⟨q, lv, l, ho2, hql, hlq, hkk, hA⟩ := hrel
     cases gk with
     | zero => exact absurd ho2.out (by simp [Js.items])
     | succ j =>
      cases hv : Js.value b j (d + 1) q with
      | none => exact absurd ho2.out (by simp [Js.items, hv])
      | some ov =>
       have hV := ih j (by omega) w0 g A c b wr.drew q (d + 1) ov hb ((hA.drew hg).rs.to rfl (by omega)) hql hbc (by omega) hv
       obtain ⟨hc1, hc2⟩ : wr.cell? ⟨w.heap.size + 1, 3, none⟩ = some lv ∧ wr.frozen? ⟨w.heap.size + 1, 3, none⟩ = false := ⟨hA.cells.2.1.2.2.2, bfz hA.vb 3⟩
       cases ov with
       | no y e =>
        obtain rfl : Js.Out.no y e = o := by have := ho2.out; simpa [Js.items, hv] using this
        clear hv ho2
        go_wp2_with fail
        go_cut [] (fun wc => False)
        case first =>
         have hAd := hA.drew hg
         go_region_law (first
          | (go_simp; go_at_call 59; refine hV.mono ?_; intro e2 w2 hh; rcases e2 with u | ch | _; rotate_left; (focus (obtain ⟨hh1, hB2, hK2⟩ := hh; cases hh1; refine ⟨rfl, ?_⟩; exact ⟨rfl, hB2, hAd.kb.trans hK2 (.inl rfl)⟩)); (focus (exact absurd hh.1 (by simp))); have hf : Hid False := Lib.hid (by have := hh.1; cases this); clear hh; obtain rfl : u = .agg #[.int .i64 0, .string ⟨#[]⟩, .slice none 0 0, .slice none 0 0] := hf.out.elim; have hc3 : w2.cell? ⟨w.heap.size + 1, 3, none⟩ = some (.slice none 0 0) := hf.out.elim; have hc5 : ∀ x, (w2.alloc x).cell? ⟨w.heap.size + 1, 3, none⟩ = some (.slice none 0 0) := hf.out.elim; have hc4 : w2.frozen? ⟨w.heap.size + 1, 3, none⟩ = false := hf.out.elim; have hc6 : ∀ x, (w2.alloc x).frozen? ⟨w.heap.size + 1, 3, none⟩ = false := hf.out.elim)
          | (refine law_false hf (.slice none 0 0) ?_))
         all_goals exact hf.out.elim
        case rest => exact hcut.elim
       | ok v r =>
        have hvl := Js.value_le hv
        have ho3 : Hid (some o = match Js.comma b 93 r with
          | .no x e => some (.no x e)
          | .ok true q => Js.items b j (d + 1) (l ++ [v]) q
          | .ok false q => some (.ok (.mk 5 [] [] (l ++ [v])) q)) := by have := ho2.out; show _ = _; rw [← this]; simp only [Js.items, hv]; rfl
        clear hv ho2;have hbs := AS.base hA;have hlt := Kd.R_lt hA.own
        go_wp2_with fail
        go_cut [] (fun wc => ∃ lv2, AS w0 g A c b w ((d : Int) + 1) wc r lv2 (l ++ [v]))
        case first =>
         have hAd := hA.drew hg
         go_region_law (first
          | (go_simp; go_at_call 59; refine hV.mono ?_; rintro e w2 ⟨u, rfl, ⟨x0, x1, v2, v3, rfl, hM, _⟩, hS2, hK2⟩; have hA2 := AS.step hAd hg hS2 hK2; have hc3 := hA2.cells.2.1.2.2.2; have hc5 := (fun x => (hA2.alloc hg x).cells.2.1.2.2.2); have hc4 := bfz hA2.vb 3)
          | (refine Kd.R_append_step k27 (w0 := w2) (w.heap.size + 2) (by rfl) (.tmp 26) (.tmp 29) 25 27 _ 72 rfl Tryd.underlying25 info_25 rfl (by decide) (by decide) lv (toSs l) (toS v) [.int .i64 x0, .string x1, v2, v3] (fun _ => True) (fun k => wr.heap.size ≤ k) rfl (by first | rfl | simp) (k27.M_lower (show w.heap.size + 2 ≤ wr.heap.size by have := blk_lt hA.vb; omega) (k27.M_mono (fun k hk => hk.2.1) (k27.M_bound hM))) (fun k hk => ⟨trivial, fun e => by have := hlt k e.symm; omega⟩) (fun _ _ => trivial) hA2.own (Below.refl _ _) (by have := blk_lt hA2.vb; omega) (by rw [toSs_length]; omega) ?_; intro v1 w3 hR3 hB3 hg3 hat3; obtain ⟨hS3, hS4⟩ := hA2.vbg hg3; obtain ⟨A1, n1, c1, rfl⟩ : ∃ A n c, v1 = .slice A n c := (by obtain ⟨A, c, e⟩ := Kd.R_slice hR3; exact ⟨_, _, _, e⟩)))
         all_goals
          go_wp2_with fail
          go_meet
          exact ⟨_, hA2.appended hg hR3 hg3⟩
        case rest =>
         obtain ⟨lv2, hA2⟩ := hcut;clear hA hV hc1 hc2 hbs hlt;have hcc := comma_calls (p := r) (d := d + 1) 93 (hA2.rs.to rfl (by omega)) (by omega) (by omega)
         cases hcm : Js.comma b 93 r with
         | no y e =>
          rw [hcm] at hcc
          obtain rfl : o = Js.Out.no y e := by have := ho3.out; rw [hcm] at this; exact Option.some.inj this
          clear hcm ho3;go_wp2_with (go_at_call 98; refine hcc.mono ?_; rintro e2 w2 ⟨rfl, hB2, hK2⟩);refine ⟨rfl, ?_⟩;exact ⟨rfl, hB2, hA2.kb.trans hK2 (.inl rfl)⟩
         | ok t r2 =>
          have hcl := Js.comma_le hvl.2 hcm
          cases t with
          | true =>
           rw [hcm] at hcc
           have ho4 : Hid (Js.items b j (d + 1) (l ++ [v]) r2 = some o) := by have := ho3.out; rw [hcm] at this; exact this.symm
           clear hcm ho3;go_wp2_with (go_at_call 98; refine hcc.mono ?_; rintro e2 w2 ⟨rfl, hS2, hK2⟩)
           go_roundg j
           case measure => omega
           exact ⟨r2, lv2, _, ho4, by omega, by simp; omega, by omega, hA2.step hg (hS2.to rfl (by omega)) hK2⟩
          | false =>
           rw [hcm] at hcc
           obtain rfl : o = Js.Out.ok (Js.Val.mk 5 [] [] (l ++ [v])) r2 := by have := ho3.out; rw [hcm] at this; exact Option.some.inj this
           clear hcm ho3
           obtain ⟨A1, n1, ca, rfl⟩ : ∃ A n c, lv2 = .slice A n c := (by obtain ⟨A, c, e⟩ := Kd.R_slice hA2.own; exact ⟨_, _, _, e⟩)
           go_wp2_with (go_at_call 98; refine hcc.mono ?_; rintro e2 w2 ⟨rfl, hS2, hK2⟩; have hA3 := hA2.step hg hS2 hK2; obtain ⟨⟨z10, z11, z12, z13⟩, ⟨z20, z21, z22, z23⟩, y0, y1, y2, y3⟩ := hA3.cells; have hF := Lib.hid (hA3.stored hg (.int .i64 5) (.string ⟨#[]⟩) (.slice none 0 0) (.slice A1 n1 ca)));obtain ⟨hB, hRS, hKB, hR⟩ := hF.out;generalize hwf : World.setCell _ _ _ = wf at hB hRS hKB hR ⊢;clear hwf;obtain ⟨c0, c1, c2, c3⟩ := blk4 hB;refine bodyPost_ret (v := .agg #[.int .i64 5, .string ⟨#[]⟩, .slice none 0 0, .slice A1 n1 ca]) (by simp [results, Tryd.results76, go_sem, c0, c1, c2, c3]) rfl ?_;exact ⟨_, rfl, VVal.of _ _ (Js.Val.mk 5 [] [] (l ++ [v])) (Kd.R_nil _ _ _ _ _) (Kd.R_mono (Kd.R_lower hR (Nat.le_add_right _ 2)) (fun k _ => by simp [Value.ownBlock])), hRS.to rfl (by omega), hKB⟩
end Go.Proofs.YteighppcdpaekaaDoor.Rd
end
section
namespace Go.Proofs.YteighppcdpaekaaDoor.Rd
open Go.RowKit Go.Proofs.YteighppcdpaekaaDoorW.PrintWords
open Go.Proofs.YteighppcdpaekaaDoor Go.Proofs.YteighppcdpaekaaDoor.P
open Go.Maps (Keyed IsMap)
theorem strOfNums_inj {x y : List Int} (hx : Bytes x) (hy : Bytes y) (h : strOfNums x = strOfNums y) : x = y := by
 have h1 : (strOfNums x).data.toList = (strOfNums y).data.toList := by rw [h]
 rw [strOfNums_data, strOfNums_data] at h1;clear h
 induction x generalizing y with
 | nil => cases y with
  | nil => rfl
  | cons c r => simp at h1
 | cons a r ih => cases y with
  | nil => simp at h1
  | cons c s =>
   simp only [List.map_cons, List.cons.injEq] at h1;have ha := hx a (List.mem_cons_self ..);have hc := hy c (List.mem_cons_self ..)
   have h2 : a = c := by
    have := congrArg UInt8.toNat h1.1
    simp at this
    omega
   rw [h2, ih (fun z hz => hx z (List.mem_cons_of_mem _ hz)) (fun z hz => hy z (List.mem_cons_of_mem _ hz)) h1.2]
def Sees (D : DataW Unit) (ks : List (List Int)) : Prop := IsMap D ∧ (∀ x ∈ ks, Bytes x) ∧ ∀ x, Bytes x → D.atKey (.string (strOfNums x).data.toList) (.lit (.int .i64 0)) = .lit (.int .i64 (if x ∈ ks then 1 else 0))
theorem Sees.nil : Sees (.map []) [] := ⟨⟨[], rfl⟩, by simp, fun x _ => rfl⟩
theorem Sees.put {D : DataW Unit} {ks : List (List Int)} {x : List Int} (h : Sees D ks) (hx : Bytes x) : Sees (D.put (.string (strOfNums x).data.toList) (.lit (.int .i64 1))) (ks ++ [x]) := by
 refine ⟨h.1.put _ _, ?_, fun y hy => ?_⟩
 ·intro z hz
  rcases List.mem_append.1 hz with hz | hz
  ·exact h.2.1 z hz
  ·simp at hz; subst hz; exact hx
 ·by_cases he : y = x
  ·subst he
   rw [Maps.atKey_put_same h.1 (show WideAt.IsKeyLit (.string (strOfNums y).data.toList) from trivial)]
   simp
  ·rw [Maps.atKey_put_other, h.2.2 y hy]
   ·simp [he]
   ·intro e
    injection e with e1
    apply he
    apply strOfNums_inj hy hx
    have : (strOfNums y).data = (strOfNums x).data := by rw [← Array.toList_inj]; exact e1
    exact ByteArray.ext this
structure OS (w0 : World) (g : Nat) (A : Option Addr) (c : Nat) (b : List Int) (w : World) (mb : Nat) (d : Int) (wc : World) (q : Nat) (kc lc kv lv : Value) (D : DataW Unit) (n : Nat) (ks : List (List Int)) (l : List Js.Val) : Prop where
 rs : RS w0 g A c b wc q d
 kb : Kbt w wc g none
 zb : wc.heap[w.heap.size]? = some Z25
 vb : wc.heap[w.heap.size + 1]? = some (.cells #[.int .i64 6, .string ⟨#[]⟩, kc, lc] 27 (0, 0))
 mp : wc.ownsMap Tryd.prog 9 (plainElem Tryd.prog 3) mb n D
 own2 : Kd.string.R 9 wc (w.heap.size + 2) (fun _ => True) kv (ks.map strOfNums)
 own : k27.R 27 wc (w.heap.size + 2) (fun k => True ∧ some k ≠ kv.ownBlock) lv (toSs l)
theorem keep_map {H : Type} {w w2 : World} {g mb n : Nat} {P : Program} {k : TypeId} {R : Value → Option (DataW H × List MemPlace)} {D : DataW H} (h : w.ownsMap P k R mb n D) (hK : Kbt w w2 g none) (hne : mb ≠ g) : w2.ownsMap P k R mb n D := by
 have hlt := h.lt;obtain ⟨es, cl, hb, F⟩ := h;exact ⟨es, cl, (hK.2 mb hlt hne (by simp)).trans hb, F⟩
theorem map_set {H : Type} {w : World} {mb n : Nat} {P : Program} {k : TypeId} {R : Value → Option (DataW H × List MemPlace)} {D : DataW H} (h : w.ownsMap P k R mb n D) (p : Addr) (v : Value) (hne : mb ≠ p.block) : (w.setCell p v).ownsMap P k R mb n D := by
 obtain ⟨es, cl, hb, F⟩ := h;exact ⟨es, cl, (Below.heap_setCell w p v mb hne).trans hb, F⟩
theorem map_ne {H : Type} {w : World} {mb n j : Nat} {P : Program} {k : TypeId} {R : Value → Option (DataW H × List MemPlace)} {D : DataW H} (h : w.ownsMap P k R mb n D) {cells : Array Value} {t : TypeId} {z : Nat × Nat} (hb : w.heap[j]? = some (.cells cells t z)) : j ≠ mb := by
 rintro rfl;obtain ⟨es, cl, hb2, _⟩ := h;rw [hb2] at hb;cases hb
section
variable {w0 : World} {g : Nat} {A : Option Addr} {c : Nat} {b : List Int} {w : World} {mb : Nat} {d d2 : Int} {wc w2 : World} {q r : Nat} {kc lc kv lv v1 : Value} {D : DataW Unit} {n : Nat} {ks : List (List Int)} {l : List Js.Val}
theorem OS.step (h : OS w0 g A c b w mb d wc q kc lc kv lv D n ks l) (hg : g < w.heap.size) (hS : RS w0 g A c b w2 r d2) (hK : Kbt wc w2 g none) : OS w0 g A c b w mb d2 w2 r kc lc kv lv D n ks l :=
 ⟨hS, h.kb.trans hK (.inl rfl), hK.blk h.zb (by omega) (by simp), hK.blk h.vb (by omega) (by simp), keep_map h.mp hK (fun e => map_ne h.mp h.rs.blk e.symm),
  Kd.R_mono (Kd.R_keep (Kd.R_bound h.own2) hK (fun k hk => by have := hk.2.1; omega)) (fun _ _ => trivial), Kd.R_mono (Kd.R_keep (Kd.R_bound h.own) hK (fun k hk => by have := hk.2.1; omega)) (fun _ hk => hk.1)⟩
theorem OS.drewN (h : OS w0 g A c b w mb d wc q kc lc kv lv D n ks l) (hg : g < w.heap.size) (m : Nat) : OS w0 g A c b w mb d (wc.drewN m) q kc lc kv lv D n ks l := h.step hg (h.rs.drewN m) (kdrN (Kbt.refl _ _ _) m)
theorem OS.drew (h : OS w0 g A c b w mb d wc q kc lc kv lv D n ks l) (hg : g < w.heap.size) : OS w0 g A c b w mb d wc.drew q kc lc kv lv D n ks l := h.step hg h.rs.drew (keep_drew (Kbt.refl _ _ _))
theorem OS.alloc (h : OS w0 g A c b w mb d wc q kc lc kv lv D n ks l) (hg : g < w.heap.size) (x : Obj) : OS w0 g A c b w mb d (wc.alloc x) q kc lc kv lv D n ks l := h.step hg (h.rs.alloc x) (kal (Kbt.refl _ _ _) x)
theorem OS.at1 (h : OS w0 g A c b w mb d wc q kc lc kv lv D n ks l) (hg : g < w.heap.size) {x : Int} {r : Nat} (hx : x = (r : Int)) : OS w0 g A c b w mb d (wc.setCell ⟨g, 1, none⟩ (.int .i64 x)) r kc lc kv lv D n ks l :=
 h.step hg ((h.rs.set1 _).to hx rfl) ((Kbt.refl _ _ _).set_ _ _)
theorem OS.ge (h : OS w0 g A c b w mb d wc q kc lc kv lv D n ks l) (hg : g < w.heap.size) : w0.heap.size ≤ w.heap.size := Nat.le_trans h.rs.ge (Nat.le_of_lt hg)
theorem OS.grown0 (h : OS w0 g A c b w mb d wc q kc lc kv lv D n ks l) (hg : g < w.heap.size) {row : Option Nat} (hgr : wc.grownBy w2 row) (hr : ∀ k, row = some k → w.heap.size + 2 ≤ k) :
  RS w0 g A c b w2 q d ∧ Kbt w w2 g none ∧ w2.heap[w.heap.size]? = some Z25 ∧ w2.heap[w.heap.size + 1]? = some (.cells #[.int .i64 6, .string ⟨#[]⟩, kc, lc] 27 (0, 0)) := by
 have hge := h.ge hg
 have hne : ∀ i, i < w.heap.size + 2 → some i ≠ row := fun i hi e => by have := hr _ e.symm; omega
 refine ⟨h.rs.grown hgr (hne g (by omega)) (h.rs.bel.grown hgr (Nat.le_trans hge h.kb.1) (fun k hk => by have := hr k hk; omega)), ?_, blk_grown h.zb hgr (hne _ (by omega)), blk_grown h.vb hgr (hne _ (by omega))⟩;refine h.kb.trans (Kbt.of_grown hgr g) ?_
 cases hv : row with
 | none => exact .inl rfl
 | some k => exact .inr ⟨k, rfl, by have := hr k hv; omega⟩
theorem OS.put (h : OS w0 g A c b w mb d wc q kc lc kv lv D n ks l) (hg : g < w.heap.size) (hmb : w.heap.size + 2 ≤ mb) {D2 : DataW Unit} {n2 : Nat} (hm : w2.ownsMap Tryd.prog 9 (plainElem Tryd.prog 3) mb n2 D2) (hgr : wc.grownBy w2 (some mb)) : OS w0 g A c b w mb d w2 q kc lc kv lv D2 n2 ks l := by
 obtain ⟨h1, h2, h3, h4⟩ := h.grown0 hg hgr (fun k hk => by cases hk; exact hmb);refine ⟨h1, h2, h3, h4, hm, Kd.R_mono (Kd.R_grown (Kd.R_bound h.own2) hgr ?_) (fun _ _ => trivial), Kd.R_mono (Kd.R_grown (Kd.R_bound h.own) hgr ?_) (fun _ hk => hk.1)⟩
 ·rintro k ⟨_, _, _, _, _, _, hc⟩ e
  exact map_ne h.mp hc (Option.some.inj e)
 ·rintro k ⟨_, _, _, _, _, _, hc⟩ e
  exact map_ne h.mp hc (Option.some.inj e)
theorem OS.map_row {x : Value} {α : Type} {kd : Kd α} {e base : Nat} {ok : Nat → Prop} {xs : List α} (h : OS w0 g A c b w mb d wc q kc lc kv lv D n ks l) (hR : kd.R e wc base ok x xs) : some mb ≠ x.ownBlock := fun e => by
 obtain ⟨cells, hc⟩ := Kd.R_typed hR mb e.symm;exact map_ne h.mp hc rfl
theorem OS.appK (h : OS w0 g A c b w mb d wc q kc lc kv lv D n ks l) (hg : g < w.heap.size) {key : List Int} (hR : Kd.string.R 9 w2 (w.heap.size + 2) (fun _ => True) v1 (ks.map strOfNums ++ [strOfNums key])) (hgr : wc.grownBy w2 kv.ownBlock) (hat : v1.ownBlock = kv.ownBlock ∨ ∃ b, v1.ownBlock = some b ∧ wc.heap.size ≤ b) :
  OS w0 g A c b w mb d w2 q kc lc v1 lv D n (ks ++ [key]) l := by
 obtain ⟨h1, h2, h3, h4⟩ := h.grown0 hg hgr (Kd.R_base h.own2);exact ⟨h1, h2, h3, h4, h.mp.kept hgr (h.map_row h.own2), by rw [List.map_append]; exact hR, Kd.R_after h.own hgr hat⟩
theorem OS.appL (h : OS w0 g A c b w mb d wc q kc lc kv lv D n ks l) (hg : g < w.heap.size) {v : Js.Val} (hR : k27.R 27 w2 (w.heap.size + 2) (fun k => True ∧ some k ≠ kv.ownBlock) v1 (toSs l ++ [toS v])) (hgr : wc.grownBy w2 lv.ownBlock) :
  OS w0 g A c b w mb d w2 q kc lc kv v1 D n ks (l ++ [v]) := by
 obtain ⟨h1, h2, h3, h4⟩ := h.grown0 hg hgr (Kd.R_base h.own);exact ⟨h1, h2, h3, h4, h.mp.kept hgr (h.map_row h.own), Kd.R_grown2 h.own2 rfl hgr (fun k hk e => (h.own.1 k hk).2 e), by rw [toSs_snoc]; exact hR⟩
theorem OS.far (h : OS w0 g A c b w mb d wc q kc lc kv lv D n ks l) (hg : g < w.heap.size) (hmb : w.heap.size + 2 ≤ mb) (i j : Nat) (hi : i = w.heap.size ∨ i = w.heap.size + 1) (x : Value) :
  RS w0 g A c b (wc.setCell ⟨i, j, none⟩ x) q d ∧ Kbt w (wc.setCell ⟨i, j, none⟩ x) g none ∧ (wc.setCell ⟨i, j, none⟩ x).ownsMap Tryd.prog 9 (plainElem Tryd.prog 3) mb n D ∧
  Kd.string.R 9 (wc.setCell ⟨i, j, none⟩ x) (w.heap.size + 2) (fun _ => True) kv (ks.map strOfNums) ∧ k27.R 27 (wc.setCell ⟨i, j, none⟩ x) (w.heap.size + 2) (fun k => True ∧ some k ≠ kv.ownBlock) lv (toSs l) := by
 have hge := h.ge hg
 have hi2 : g ≠ i ∧ w.heap.size ≤ i ∧ i < w.heap.size + 2 := by omega
 refine ⟨h.rs.far (q := ⟨i, j, none⟩) hi2.1 (by show w0.heap.size ≤ i; omega) x, keep_far (p := ⟨i, j, none⟩) h.kb hi2.2.1 x, map_set h.mp ⟨i, j, none⟩ x (by show mb ≠ i; omega), ?_, ?_⟩
 ·exact Kd.R_mono (Kd.R_far (p := ⟨i, j, none⟩) (Kd.R_bound h.own2) (fun k hk => by have h2 := hk.2.1; show k ≠ i; omega) x) (fun _ _ => trivial)
 ·exact Kd.R_mono (Kd.R_far (p := ⟨i, j, none⟩) (Kd.R_bound h.own) (fun k hk => by have h2 := hk.2.1; show k ≠ i; omega) x) (fun _ hk => hk.1)
theorem OS.setK (h : OS w0 g A c b w mb d wc q kc lc kv lv D n ks l) (hg : g < w.heap.size) (hmb : w.heap.size + 2 ≤ mb) (x : Value) : OS w0 g A c b w mb d (wc.setCell ⟨w.heap.size + 1, 2, none⟩ x) q x lc kv lv D n ks l := by
 obtain ⟨h1, h2, h3, h4, h5⟩ := h.far hg hmb (w.heap.size + 1) 2 (.inr rfl) x;exact ⟨h1, h2, blk_far h.zb (p := ⟨w.heap.size + 1, 2, none⟩) (by show w.heap.size ≠ w.heap.size + 1; omega) x, blk_set h.vb 2 x, h3, h4, h5⟩
theorem OS.setL (h : OS w0 g A c b w mb d wc q kc lc kv lv D n ks l) (hg : g < w.heap.size) (hmb : w.heap.size + 2 ≤ mb) (x : Value) : OS w0 g A c b w mb d (wc.setCell ⟨w.heap.size + 1, 3, none⟩ x) q kc x kv lv D n ks l := by
 obtain ⟨h1, h2, h3, h4, h5⟩ := h.far hg hmb (w.heap.size + 1) 3 (.inr rfl) x;exact ⟨h1, h2, blk_far h.zb (p := ⟨w.heap.size + 1, 3, none⟩) (by show w.heap.size ≠ w.heap.size + 1; omega) x, blk_set h.vb 3 x, h3, h4, h5⟩
theorem OS.cells (h : OS w0 g A c b w mb d wc q kc lc kv lv D n ks l) :
  (wc.cell? ⟨w.heap.size, 0, none⟩ = some (.int .i64 0) ∧ wc.cell? ⟨w.heap.size, 1, none⟩ = some (.string ⟨#[]⟩) ∧ wc.cell? ⟨w.heap.size, 2, none⟩ = some (.slice none 0 0) ∧ wc.cell? ⟨w.heap.size, 3, none⟩ = some (.slice none 0 0)) ∧
  (wc.cell? ⟨w.heap.size + 1, 0, none⟩ = some (.int .i64 6) ∧ wc.cell? ⟨w.heap.size + 1, 1, none⟩ = some (.string ⟨#[]⟩) ∧ wc.cell? ⟨w.heap.size + 1, 2, none⟩ = some kc ∧ wc.cell? ⟨w.heap.size + 1, 3, none⟩ = some lc) ∧
  (wc.frozen? ⟨w.heap.size, 0, none⟩ = false ∧ wc.frozen? ⟨w.heap.size, 1, none⟩ = false ∧ wc.frozen? ⟨w.heap.size, 2, none⟩ = false ∧ wc.frozen? ⟨w.heap.size, 3, none⟩ = false) ∧
  wc.frozen? ⟨w.heap.size + 1, 2, none⟩ = false ∧ wc.frozen? ⟨w.heap.size + 1, 3, none⟩ = false :=
 ⟨blk4 h.zb, blk4 h.vb, ⟨bfz h.zb 0, bfz h.zb 1, bfz h.zb 2, bfz h.zb 3⟩, bfz h.vb 2, bfz h.vb 3⟩
theorem OS.stored (h : OS w0 g A c b w mb d wc q kc lc kv lv D n ks l) (hg : g < w.heap.size) (v0 v1 v2 v3 : Value) :
  let wf := (((wc.setCell ⟨w.heap.size, 0, none⟩ v0).setCell ⟨w.heap.size, 1, none⟩ v1).setCell ⟨w.heap.size, 2, none⟩ v2).setCell ⟨w.heap.size, 3, none⟩ v3
  wf.heap[w.heap.size]? = some (.cells #[v0, v1, v2, v3] 27 (0, 0)) ∧ RS w0 g A c b wf q d ∧ Kbt w wf g none ∧ Kd.string.R 9 wf (w.heap.size + 2) (fun _ => True) kv (ks.map strOfNums) ∧ k27.R 27 wf (w.heap.size + 2) (fun k => some k ≠ kv.ownBlock) lv (toSs l) := by
 have hS := St.stored (w := w) (wc := wc) ⟨h.rs, h.kb, h.zb⟩ hg v0 v1 v2 v3
 have hst : ∀ (W : World) (j : Nat) (u : Value), Kd.string.R 9 W (w.heap.size + 2) (fun _ => True) kv (ks.map strOfNums) → Kd.string.R 9 (W.setCell ⟨w.heap.size, j, none⟩ u) (w.heap.size + 2) (fun _ => True) kv (ks.map strOfNums) := fun W j u hR =>
  Kd.R_mono (Kd.R_far (p := ⟨w.heap.size, j, none⟩) (Kd.R_bound hR) (fun k hk => by have h2 := hk.2.1; show k ≠ w.heap.size; omega) u) (fun _ _ => trivial)
 have hst2 : ∀ (W : World) (j : Nat) (u : Value), k27.R 27 W (w.heap.size + 2) (fun k => some k ≠ kv.ownBlock) lv (toSs l) → k27.R 27 (W.setCell ⟨w.heap.size, j, none⟩ u) (w.heap.size + 2) (fun k => some k ≠ kv.ownBlock) lv (toSs l) := fun W j u hR =>
  Kd.R_mono (Kd.R_far (p := ⟨w.heap.size, j, none⟩) (Kd.R_bound hR) (fun k hk => by have h2 := hk.2.1; show k ≠ w.heap.size; omega) u) (fun _ hk => hk.1)
 have ho : k27.R 27 wc (w.heap.size + 2) (fun k => some k ≠ kv.ownBlock) lv (toSs l) := Kd.R_mono h.own (fun _ hk => hk.2);exact ⟨hS.1, hS.2.1, hS.2.2, hst _ _ _ (hst _ _ _ (hst _ _ _ (hst _ _ _ h.own2))), hst2 _ _ _ (hst2 _ _ _ (hst2 _ _ _ (hst2 _ _ _ ho)))⟩
end
end Go.Proofs.YteighppcdpaekaaDoor.Rd
end
section
namespace Go.Proofs.YteighppcdpaekaaDoor.Rd
open Go.RowKit Go.Proofs.YteighppcdpaekaaDoorW.PrintWords
open Go.Proofs.YteighppcdpaekaaDoor Go.Proofs.YteighppcdpaekaaDoor.P
open Go.Maps (Keyed IsMap)
theorem law9 : Keyed Tryd.prog 9 := Maps.string_keyed Tryd.underlying9
theorem zero3 (w : World) : (zeroValue 3).run Tryd.prog w = .ok (.int .i64 0) w := by kernel_rfl
theorem lit_inj {x y : Int} (h : (DataW.lit (.int .i64 x) : DataW Unit) = .lit (.int .i64 y)) : x = y := by
 injection h with h
 injection h
theorem key_of {key : List Int} (h : key.length ≤ 100000000000) : keyOf Tryd.prog 9 (.string (strOfNums key)) = some (.string (strOfNums key).data.toList) :=
 WideMaps.keyOf_string_mk Tryd.underlying9 (by rw [strOfNums_size]; unfold maxLen; omega)
theorem info_9 : (Tryd.prog.info? 9).map (fun i => (i.zero, i.size, i.bytes)) = some (some (.string ⟨#[]⟩), 1, 16) := by kernel_rfl
structure OP (w0 : World) (g : Nat) (A : Option Addr) (c : Nat) (b : List Int) (w : World) (d : Int) (wc : World) (q : Nat) : Prop where
 rs : RS w0 g A c b wc q d
 kb : Kbt w wc g none
 zb : wc.heap[w.heap.size]? = some Z25
 vb : wc.heap[w.heap.size + 1]? = some (Z25k 6 (.slice none 0 0) (.slice none 0 0))
section
variable {w0 : World} {g : Nat} {A : Option Addr} {c : Nat} {b : List Int} {w : World} {d d2 : Int} {wc w2 : World} {q r : Nat}
theorem OP.step (h : OP w0 g A c b w d wc q) (hg : g < w.heap.size) (hS : RS w0 g A c b w2 r d2) (hK : Kbt wc w2 g none) : OP w0 g A c b w d2 w2 r :=
 ⟨hS, h.kb.trans hK (.inl rfl), hK.blk h.zb (by omega) (by simp), hK.blk h.vb (by omega) (by simp)⟩
theorem OP.drewN (h : OP w0 g A c b w d wc q) (hg : g < w.heap.size) (m : Nat) : OP w0 g A c b w d (wc.drewN m) q := h.step hg (h.rs.drewN m) (kdrN (Kbt.refl _ _ _) m)
theorem OP.at1 (h : OP w0 g A c b w d wc q) (hg : g < w.heap.size) {x : Int} (hx : x = (q : Int) + 1) : OP w0 g A c b w d (wc.setCell ⟨g, 1, none⟩ (.int .i64 x)) (q + 1) :=
 h.step hg ((h.rs.set1 _).to (by omega) rfl) ((Kbt.refl _ _ _).set_ _ _)
theorem OP.at2 (h : OP w0 g A c b w d wc q) (hg : g < w.heap.size) (x : Int) : OP w0 g A c b w x (wc.setCell ⟨g, 2, none⟩ (.int .i64 x)) q :=
 h.step hg (h.rs.set2 _) ((Kbt.refl _ _ _).set_ _ _)
theorem OP.os (h : OP w0 g A c b w d wc q) (hg : g < w.heap.size) : OS w0 g A c b w wc.heap.size d (wc.alloc (.map #[] 0)) q (.slice none 0 0) (.slice none 0 0) (.slice none 0 0) (.slice none 0 0) (.map []) 0 [] [] := by
 have h2 := h.step hg (h.rs.alloc (.map #[] 0)) (kal (Kbt.refl _ _ _) _);exact ⟨h2.rs, h2.kb, h2.zb, h2.vb, World.ownsMap_made _ _ _ _, Kd.R_nil _ _ _ _ _, Kd.R_nil _ _ _ _ _⟩
theorem OP.cells (h : OP w0 g A c b w d wc q) :
  (wc.cell? ⟨w.heap.size, 0, none⟩ = some (.int .i64 0) ∧ wc.cell? ⟨w.heap.size, 1, none⟩ = some (.string ⟨#[]⟩) ∧ wc.cell? ⟨w.heap.size, 2, none⟩ = some (.slice none 0 0) ∧ wc.cell? ⟨w.heap.size, 3, none⟩ = some (.slice none 0 0)) ∧
  (wc.cell? ⟨w.heap.size + 1, 0, none⟩ = some (.int .i64 6) ∧ wc.cell? ⟨w.heap.size + 1, 1, none⟩ = some (.string ⟨#[]⟩) ∧ wc.cell? ⟨w.heap.size + 1, 2, none⟩ = some (.slice none 0 0) ∧ wc.cell? ⟨w.heap.size + 1, 3, none⟩ = some (.slice none 0 0)) ∧
  (wc.frozen? ⟨w.heap.size, 0, none⟩ = false ∧ wc.frozen? ⟨w.heap.size, 1, none⟩ = false ∧ wc.frozen? ⟨w.heap.size, 2, none⟩ = false ∧ wc.frozen? ⟨w.heap.size, 3, none⟩ = false) :=
 ⟨blk4 h.zb, blk4 h.vb, bfz h.zb 0, bfz h.zb 1, bfz h.zb 2, bfz h.zb 3⟩
theorem OP.stored (h : OP w0 g A c b w d wc q) (hg : g < w.heap.size) (v0 v1 v2 v3 : Value) :
  let wf := (((wc.setCell ⟨w.heap.size, 0, none⟩ v0).setCell ⟨w.heap.size, 1, none⟩ v1).setCell ⟨w.heap.size, 2, none⟩ v2).setCell ⟨w.heap.size, 3, none⟩ v3
  wf.heap[w.heap.size]? = some (.cells #[v0, v1, v2, v3] 27 (0, 0)) ∧ RS w0 g A c b wf q d ∧ Kbt w wf g none :=
 St.stored (w := w) (wc := wc) ⟨h.rs, h.kb, h.zb⟩ hg v0 v1 v2 v3
end
set_option maxRecDepth 100000 in
set_option maxHeartbeats 3200000 in
theorem object_calls {k : Nat} (ih : ∀ j, j < k → ValueOK j) {w0 : World} {g : Nat} {A : Option Addr} {c : Nat} {b : List Int} {w : World} {p d : Nat} {o : Js.Out Js.Val} (hb : Bytes b) (h : RS w0 g A c b w p d) (hp : p < b.length) (hbc : b.length ≤ c) (hd : d ≤ 64) (ho : Js.obj b k d p = some o) :
  Calls Tryd.prog 75 #[.pointer (some ⟨g, 0, none⟩)] w (Post w0 g A c b w d (VVal w.heap.size) o) := by
 have hsm := h.small;have hg := h.lt;have hmm := @run_makeMap Tryd.prog
 have hA0 : OP w0 g A c b w d ((w.alloc Z25).alloc (Z25k 6 (.slice none 0 0) (.slice none 0 0))) p :=
  ⟨(h.alloc _).alloc _, kal (kal (Kbt.refl _ _ _) _) _, blk_alloc (blk_new _ _) _, by have := blk_new (w.alloc Z25) (Z25k 6 (.slice none 0 0) (.slice none 0 0)); simpa using this⟩
 by_cases hde : 64 < d + 1
 ·obtain rfl : Js.Out.no p 13 = o := by simpa [Js.obj, Js.enter, hde] using ho
  have hen := enter_no hA0.rs (by omega) hde;clear ho;go_enter Tryd.func75, Tryd.ntmps75;go_wp2_with (go_at_call 97; refine hen.mono ?_; rintro e w' ⟨rfl, hB, hK⟩);refine ⟨rfl, ?_⟩;exact ⟨rfl, hB, hA0.kb.trans hK (.inl rfl)⟩
 ·have hen := enter_ok hA0.rs hp (by omega)
  have hq := Js.blank_le (b := b) (p := p + 1) (by omega);unfold Js.obj at ho;rw [show Js.enter b d p = .ok () (Js.blank b (p + 1)) by simp [Js.enter, hde]] at ho;simp only at ho;generalize Js.blank b (p + 1) = q at hen hq ho
  cases hx : b[q]? with
  | none =>
   rw [hx] at ho;obtain rfl : Js.Out.no q 11 = o := Option.some.inj ho;go_enter Tryd.func75, Tryd.ntmps75;go_wp2_with (go_at_call 97; refine hen.mono ?_; rintro e w1 ⟨rfl, hS, hK⟩);have hpk := peek_no hS hx;clear hx ho;go_wp2_with (go_at_call 74; refine hpk.mono ?_; rintro e w2 ⟨rfl, m, rfl⟩);refine ⟨rfl, ?_⟩;exact ⟨rfl, (hS.drewN _).bel, kdrN (hA0.kb.trans hK (.inl rfl)) _⟩
  | some x =>
   have hql : q < b.length := (List.getElem?_eq_some_iff.1 hx).1;rw [hx] at ho;simp only at ho;by_cases hc : x = 125
   ·rw [if_pos (by simpa using hc)] at ho
    obtain rfl : Js.Out.ok (Js.Val.mk 6 [] [] []) (q + 1) = o := Option.some.inj ho
    have hc' : (x == 125) = true := by simpa using hc
    clear ho hc;go_enter Tryd.func75, Tryd.ntmps75;go_wp2_with (go_at_call 97; refine hen.mono ?_; rintro e w1 ⟨rfl, hS, hK⟩);have hpk := peek_ok hS hx;have hA1 := hA0.step hg hS hK;obtain ⟨⟨z10, z11, z12, z13⟩, ⟨z20, z21, z22, z23⟩, y0, y1, y2, y3⟩ := hA1.cells;have g1 := hS.c1;have g2 := hS.c2;have f1 := hS.fr 1;have f2 := hS.fr 2;have hF := Lib.hid (fun m => (((hA1.drewN hg m).at1 hg rfl).at2 hg (d : Int)).stored hg (.int .i64 6) (.string ⟨#[]⟩) (.slice none 0 0) (.slice none 0 0));go_wp2_with (go_at_call 74; refine hpk.mono ?_; rintro e w2 ⟨rfl, m, rfl⟩);obtain ⟨hB, hRS, hKB⟩ := hF.out m;generalize hwf : World.setCell _ _ _ = wf at hB hRS hKB ⊢;clear hwf;obtain ⟨c0, c1, c2, c3⟩ := blk4 hB;refine bodyPost_ret (v := .agg #[.int .i64 6, .string ⟨#[]⟩, .slice none 0 0, .slice none 0 0]) (by simp [results, Tryd.results75, go_sem, c0, c1, c2, c3]) rfl ?_;exact ⟨_, rfl, VVal.of _ _ (Js.Val.mk 6 [] [] []) (Kd.R_nil _ _ _ _ _) (Kd.R_nil _ _ _ _ _), hRS, hKB⟩
   ·rw [if_neg (by simpa using hc)] at ho
    have hc' : (x == 125) = false := by simpa using hc
    have ho1 := Lib.hid ho;clear ho hc;go_enter Tryd.func75, Tryd.ntmps75;go_wp2_with (go_at_call 97; refine hen.mono ?_; rintro e w1 ⟨rfl, hS, hK⟩);have hpk := peek_ok hS hx;have hA1 := hA0.step hg hS hK;clear hx hA0 hen h;go_wp2_with (go_at_call 74; refine hpk.mono ?_; rintro e w2 ⟨rfl, m, rfl⟩);have hO1 := (hA1.drewN hg m).os hg
    have hmb : w.heap.size + 2 ≤ w1.heap.size := by have := blk_lt hA1.vb; omega
    generalize hmbe : w1.heap.size = mb at hmb
    go_loopg [] k (fun kq wc => ∃ (q : Nat) (kv lv : Value) (D : DataW Unit) (n : Nat) (ks : List (List Int)) (l : List Js.Val), Hid (Js.pairs b kq (d + 1) ks l q = some o) ∧ Sees D ks ∧ q ≤ b.length ∧ l.length ≤ q ∧ ks.length ≤ q ∧ n ≤ q ∧ kq ≤ k ∧ OS w0 g A c b w mb ((d : Int) + 1) wc q kv lv kv lv D n ks l)
    case atStart => exact ⟨q, _, _, _, 0, [], [], ho1, Sees.nil, by omega, by simp, by simp, by simp, Nat.le_refl _, by subst hmbe; exact hO1⟩
    case round =>
     clear ho1 hA1 hpk hS hK hO1;obtain ⟨q, kv, lv, D, n, ks, l, ho2, hsee, hql, hlq, hkq, hnq, hkk, hO⟩ := hrel
     cases gk with
     | zero => exact absurd ho2.out (by simp [Js.pairs])
     | succ j =>
      have f0 := hO.rs.c1
      cases ht : Js.text b j q with
      | none => exact absurd ho2.out (by simp [Js.pairs, ht])
      | some ot =>
       have hT := text_calls hb hO.rs ht
       cases ot with
       | no y e =>
        obtain rfl : Js.Out.no y e = o := by have := ho2.out; simpa [Js.pairs, ht] using this
        clear ht ho2;go_wp2_with (go_at_call 77; refine hT.mono ?_; rintro e2 w2 ⟨rfl, hB2, hK2⟩);refine ⟨rfl, ?_⟩;exact ⟨rfl, hB2, hO.kb.trans hK2 (.inl rfl)⟩
       | ok key q1 =>
        have htl := Js.text_le ht;have htb := Js.text_bytes hb ht;have hkey := key_of (key := key) (by omega);have hat0 := hsee.2.2 key htb.1;by_cases hin : key ∈ ks
        ·obtain rfl : Js.Out.no q 23 = o := by have := ho2.out; simpa [Js.pairs, ht, hin] using this
         rw [if_pos hin] at hat0;clear ht ho2
         go_wp2_with (first
          | (go_at_call 77; refine hT.mono ?_; rintro e2 w2 ⟨u, rfl, rfl, hS2, hK2⟩; have hO2 := OS.step hO hg hS2 hK2; have f1 := hS2.fr 1; have g1 := hS2.c1)
          | (at_lookup; refine wpList_lookup_own_int _ rfl _ _ 147 rfl 9 3 .i64 law9 Tryd.underlying147 Tryd.underlying3 (zero3 _) mb n D rfl hO2.mp _ _ rfl hkey ?_; intro cv hat hwc; obtain rfl := lit_inj (hat0.symm.trans hat))
          | (go_at_call 60; refine (fail_calls 23 (hO2.at1 hg (x := (q : Int)) rfl).rs).mono ?_; rintro e2 w3 ⟨rfl, rfl⟩))
         refine ⟨rfl, ?_⟩;exact ⟨rfl, (hO2.at1 hg (x := (q : Int)) rfl).rs.bel, (hO2.at1 hg (x := (q : Int)) rfl).kb⟩
        ·rw [if_neg hin] at hat0
         have hsee2 := hsee.put htb.1
         have hbl : ∀ W, RS w0 g A c b W q1 ((d : Int) + 1) → Calls Tryd.prog 58 #[.pointer (some ⟨g, 0, none⟩)] W (fun e w' => e = .returned (.tuple #[]) ∧ RS w0 g A c b w' (Js.blank b q1) ((d : Int) + 1) ∧ Kbt W w' g none) := fun W h => blank_calls q1 h
         have hb1 := Js.blank_le (b := b) (p := q1) htl.2
         have ho3 : Hid (some o = match b[Js.blank b q1]? with
           | none => some (.no (Js.blank b q1) 11)
           | some c => if c == 58 then match Js.value b j (d + 1) (Js.blank b (Js.blank b q1 + 1)) with
             | none => none
             | some (.no x e) => some (.no x e)
             | some (.ok v q) => match Js.comma b 125 q with
              | .no x e => some (.no x e)
              | .ok true q => Js.pairs b j (d + 1) (ks ++ [key]) (l ++ [v]) q
              | .ok false q => some (.ok (.mk 6 [] (ks ++ [key]) (l ++ [v])) q)
             else some (.no (Js.blank b q1) 6)) := by
          have := ho2.out
          show _ = _
          rw [← this];simp only [Js.pairs, ht];rw [if_neg (by simpa using hin)]
          rfl
         clear ho2;generalize Js.blank b q1 = q2 at hbl hb1 ho3
         cases hx : b[q2]? with
         | none =>
          obtain rfl : o = Js.Out.no q2 11 := by have := ho3.out; rw [hx] at this; exact Option.some.inj this
          clear ho3
          go_wp2_with (first
           | (go_at_call 77; refine hT.mono ?_; rintro e2 w2 ⟨u, rfl, rfl, hS2, hK2⟩; have hO2 := OS.step hO hg hS2 hK2; have f1 := hS2.fr 1; have g1 := hS2.c1)
           | (at_lookup; refine wpList_lookup_own_int _ rfl _ _ 147 rfl 9 3 .i64 law9 Tryd.underlying147 Tryd.underlying3 (zero3 _) mb n D rfl hO2.mp _ _ rfl hkey ?_; intro cv hat hwc; obtain rfl := lit_inj (hat0.symm.trans hat))
           | (at_mapUpdate; refine wpList_mapUpdate_own _ rfl _ _ _ 147 rfl 9 3 law9 Tryd.underlying147 _ mb n D rfl hO2.mp (by unfold maxLen; omega) _ _ _ rfl rfl hkey _ [] (plainElem_int Tryd.underlying3 (by decide)) ?_; intro w3 hm3 hg3; have hO3 := hO2.put hg hmb hm3 hg3)
           | (go_at_call 58; refine (hbl _ hO3.rs).mono ?_; rintro e2 w4 ⟨rfl, hS4, hK4⟩; have hO4 := hO3.step hg hS4 hK4)
           | (go_at_call 74; refine (peek_no hS4 hx).mono ?_; rintro e2 w5 ⟨rfl, m, rfl⟩))
          refine ⟨rfl, ?_⟩;exact ⟨rfl, (hO4.drewN hg m).rs.bel, (hO4.drewN hg m).kb⟩
         | some x2 =>
          have hql2 : q2 < b.length := (List.getElem?_eq_some_iff.1 hx).1;by_cases h58 : x2 = 58
          ·subst h58
           have ho4 : Hid (some o = match Js.value b j (d + 1) (Js.blank b (q2 + 1)) with
             | none => none
             | some (.no x e) => some (.no x e)
             | some (.ok v q) => match Js.comma b 125 q with
              | .no x e => some (.no x e)
              | .ok true q => Js.pairs b j (d + 1) (ks ++ [key]) (l ++ [v]) q
              | .ok false q => some (.ok (.mk 6 [] (ks ++ [key]) (l ++ [v])) q)) := by
            have := ho3.out;rw [hx] at this;exact this
           clear ho3;have hb3 := Js.blank_le (b := b) (p := q2 + 1) (by omega)
           have hbl2 : ∀ W, RS w0 g A c b W ((q2 + 1 : Nat) : Int) ((d : Int) + 1) → Calls Tryd.prog 58 #[.pointer (some ⟨g, 0, none⟩)] W (fun e w' => e = .returned (.tuple #[]) ∧ RS w0 g A c b w' (Js.blank b (q2 + 1)) ((d : Int) + 1) ∧ Kbt W w' g none) := fun W h => blank_calls (q2 + 1) h
           generalize Js.blank b (q2 + 1) = q3 at ho4 hb3 hbl2
           go_wp2_with (first
             | (go_at_call 77; refine hT.mono ?_; rintro e2 w2 ⟨u, rfl, rfl, hS2, hK2⟩; have hO2 := OS.step hO hg hS2 hK2; have f1 := hS2.fr 1; have g1 := hS2.c1)
             | (at_lookup; refine wpList_lookup_own_int _ rfl _ _ 147 rfl 9 3 .i64 law9 Tryd.underlying147 Tryd.underlying3 (zero3 _) mb n D rfl hO2.mp _ _ rfl hkey ?_; intro cv hat hwc; obtain rfl := lit_inj (hat0.symm.trans hat))
             | (at_mapUpdate; refine wpList_mapUpdate_own _ rfl _ _ _ 147 rfl 9 3 law9 Tryd.underlying147 _ mb n D rfl hO2.mp (by unfold maxLen; omega) _ _ _ rfl rfl hkey _ [] (plainElem_int Tryd.underlying3 (by decide)) ?_; intro w3 hm3 hg3; have hO3 := hO2.put hg hmb hm3 hg3)
             | (go_at_call 58; refine (hbl _ hO3.rs).mono ?_; rintro e2 w4 ⟨rfl, hS4, hK4⟩; have hO4 := hO3.step hg hS4 hK4; have g4 := hS4.c1; have f4 := hS4.fr 1)
             | (go_at_call 74; refine (peek_ok hS4 hx).mono ?_; rintro e2 w5 ⟨rfl, m, rfl⟩)
             | (go_at_call 58; refine (hbl2 _ ((hO4.drewN hg m).at1 hg (by omega)).rs).mono ?_; rintro e2 w6 ⟨rfl, hS6, hK6⟩; have hO6 := ((hO4.drewN hg m).at1 hg (x := (q2 : Int) + 1) (r := q2 + 1) (by omega)).step hg hS6 hK6))
           clear hT hbl hbl2 hx hO2 hO3 hO4 hS2 hK2 hS4 hK4 hS6 hK6 f1 g1 g4 f4 f0 hO hkey hat0 hm3 hg3
           have hV : ∀ ov, Js.value b j (d + 1) q3 = some ov → ∀ W, RS w0 g A c b W q3 ((d : Int) + 1) → Calls Tryd.prog 59 #[.pointer (some ⟨g, 0, none⟩)] W (Post w0 g A c b W ((d : Int) + 1) (VVal W.heap.size) ov) := fun ov hv W hW => ih j (by omega) w0 g A c b W q3 (d + 1) ov hb hW (by omega) hbc (by omega) hv
           have hOd := hO6.drew hg;have hcs := hOd.cells;obtain ⟨⟨_, _, _, _⟩, ⟨_, _, a2, a3⟩, ⟨_, _, _, _⟩, b2, b3⟩ := hcs;obtain ⟨⟨_, _, _, _⟩, ⟨_, _, a2', a3'⟩, ⟨_, _, _, _⟩, b2', b3'⟩ := hO6.cells
           have ab2 := fun x => (hO6.alloc hg x).cells.2.1.2.2.1
           have ab3 := fun x => (hO6.alloc hg x).cells.2.1.2.2.2
           have aa2 := fun x => (hOd.alloc hg x).cells.2.1.2.2.1
           have aa3 := fun x => (hOd.alloc hg x).cells.2.1.2.2.2
           obtain ⟨A0, n0, cp0, rfl⟩ : ∃ A n c, kv = .slice A n c := (by obtain ⟨A, c, e⟩ := Kd.R_slice hO6.own2; exact ⟨_, _, _, e⟩)
           obtain ⟨A1, n1, cp1, rfl⟩ : ∃ A n c, lv = .slice A n c := (by obtain ⟨A, c, e⟩ := Kd.R_slice hO6.own; exact ⟨_, _, _, e⟩)
           cases hv : Js.value b j (d + 1) q3 with
           | none => exact absurd ho4.out (by simp [hv])
           | some ov =>
            have hV2 := hV ov hv
            cases ov with
            | no y e =>
             obtain rfl : o = Js.Out.no y e := by have := ho4.out; rw [hv] at this; exact Option.some.inj this
             clear ho4 hv
             go_cut [] (fun wc => False)
             case first =>
              go_region_law (first
               | (refine Kd.R_append_step Kd.string (w0 := w6.drew) (w.heap.size + 2) (by rfl) (.tmp 64) (.tmp 66) 22 9 _ 16 rfl Tryd.underlying22 info_9 rfl (by decide) (by decide) (.slice A0 n0 cp0) (ks.map strOfNums) (strOfNums key) [.string (strOfNums key)] (fun _ => True) (fun _ => False) rfl (by first | rfl | simp) (rfl) (fun k hk => hk.elim) (fun _ _ => trivial) hOd.own2 (Below.refl _ _) (by have := blk_lt hOd.vb; omega) (by rw [List.length_map]; omega) ?_; intro v1 w7 hR7 hB7 hg7 hat7; have hO7 := hOd.appK hg hR7 hg7 hat7; obtain ⟨A2, n2, cp2, rfl⟩ : ∃ A n c, v1 = .slice A n c := (by obtain ⟨A, c, e⟩ := Kd.R_slice hR7; exact ⟨_, _, _, e⟩); obtain ⟨⟨_, _, _, _⟩, ⟨_, _, a4, a5⟩, ⟨_, _, _, _⟩, b4, b5⟩ := hO7.cells)
               | (go_simp; go_at_call 59; refine (hV2 _ hO7.rs).mono ?_; intro e2 w8 hh; rcases e2 with u | ch | _; rotate_left; (focus (obtain ⟨hh1, hB2, hK2⟩ := hh; cases hh1; refine ⟨rfl, ?_⟩; exact ⟨rfl, hB2, hO7.kb.trans hK2 (.inl rfl)⟩)); (focus (exact absurd hh.1 (by simp))); have hf : Hid False := Lib.hid (by have := hh.1; cases this); clear hh; obtain rfl : u = .agg #[.int .i64 0, .string ⟨#[]⟩, .slice none 0 0, .slice none 0 0] := hf.out.elim; have ha3 : w8.cell? ⟨w.heap.size + 1, 3, none⟩ = some (.slice A1 n1 cp1) := hf.out.elim; have ha2 : w8.cell? ⟨w.heap.size + 1, 2, none⟩ = some (.slice A0 n0 cp0) := hf.out.elim; have hc5 : ∀ x, (w8.alloc x).cell? ⟨w.heap.size + 1, 3, none⟩ = some (.slice A1 n1 cp1) := hf.out.elim; have hc4 : ∀ x, (w8.alloc x).cell? ⟨w.heap.size + 1, 2, none⟩ = some (.slice A0 n0 cp0) := hf.out.elim; have hc6 : ∀ x, (w8.alloc x).frozen? ⟨w.heap.size + 1, 3, none⟩ = false := hf.out.elim; have hc7 : ∀ x, (w8.alloc x).frozen? ⟨w.heap.size + 1, 2, none⟩ = false := hf.out.elim)
               | (refine law_false hf (.slice none 0 0) ?_))
              all_goals exact hf.out.elim
             case rest => exact hcut.elim
            | ok v r =>
             have hvl := Js.value_le hv
             have ho5 : Hid (some o = match Js.comma b 125 r with
               | .no x e => some (.no x e)
               | .ok true q => Js.pairs b j (d + 1) (ks ++ [key]) (l ++ [v]) q
               | .ok false q => some (.ok (.mk 6 [] (ks ++ [key]) (l ++ [v])) q)) := by have := ho4.out; rw [hv] at this; exact this
             clear ho4 hv
             go_cut [] (fun wc => ∃ kv lv, OS w0 g A c b w mb ((d : Int) + 1) wc r kv lv kv lv (D.put (.string (strOfNums key).data.toList) (.lit (.int .i64 1))) (n + 1) (ks ++ [key]) (l ++ [v]))
             case first =>
              go_region_law (first
               | (refine Kd.R_append_step Kd.string (w0 := w6.drew) (w.heap.size + 2) (by rfl) (.tmp 64) (.tmp 66) 22 9 _ 16 rfl Tryd.underlying22 info_9 rfl (by decide) (by decide) (.slice A0 n0 cp0) (ks.map strOfNums) (strOfNums key) [.string (strOfNums key)] (fun _ => True) (fun _ => False) rfl (by first | rfl | simp) (rfl) (fun k hk => hk.elim) (fun _ _ => trivial) hOd.own2 (Below.refl _ _) (by have := blk_lt hOd.vb; omega) (by rw [List.length_map]; omega) ?_; intro v1 w7 hR7 hB7 hg7 hat7; have hO7 := hOd.appK hg hR7 hg7 hat7; obtain ⟨A2, n2, cp2, rfl⟩ : ∃ A n c, v1 = .slice A n c := (by obtain ⟨A, c, e⟩ := Kd.R_slice hR7; exact ⟨_, _, _, e⟩); obtain ⟨⟨_, _, _, _⟩, ⟨_, _, a4, a5⟩, ⟨_, _, _, _⟩, b4, b5⟩ := hO7.cells)
               | (go_simp; go_at_call 59; refine (hV2 _ hO7.rs).mono ?_; rintro e w8 ⟨u, rfl, ⟨x0, x1, v2, v3, rfl, hM, _⟩, hS8, hK8⟩; have hO8 := OS.step hO7 hg hS8 hK8; obtain ⟨⟨_, _, _, _⟩, ⟨_, _, a6, a7⟩, ⟨_, _, _, _⟩, b6, b7⟩ := hO8.cells; have aa8 := fun x => (hO8.alloc hg x).cells.2.1.2.2.1; have aa9 := fun x => (hO8.alloc hg x).cells.2.1.2.2.2)
               | (refine Kd.R_append_step k27 (w0 := w8) (w.heap.size + 2) (by rfl) (.tmp 69) (.tmp 72) 25 27 _ 72 rfl Tryd.underlying25 info_25 rfl (by decide) (by decide) (.slice A1 n1 cp1) (toSs l) (toS v) [.int .i64 x0, .string x1, v2, v3] (fun k => True ∧ some k ≠ (Value.slice A2 n2 cp2).ownBlock) (fun k => w7.heap.size ≤ k) rfl (by first | rfl | simp) (k27.M_lower (show w.heap.size + 2 ≤ w7.heap.size by have := blk_lt hO7.vb; omega) (k27.M_mono (fun k hk => hk.2.1) (k27.M_bound hM))) (fun k hk => ⟨⟨trivial, fun e => by have := Kd.R_lt hO7.own2 k e.symm; omega⟩, fun e => by have := Kd.R_lt hO7.own k e.symm; omega⟩) (fun k hk => ⟨trivial, fun e => by have := Kd.R_lt hO8.own2 k e.symm; omega⟩) hO8.own (Below.refl _ _) (by have := blk_lt hO8.vb; omega) (by rw [toSs_length]; omega) ?_; intro v1 w9 hR9 hB9 hg9 hat9; have hO9 := hO8.appL hg hR9 hg9; obtain ⟨A3, n3, cp3, rfl⟩ : ∃ A n c, v1 = .slice A n c := (by obtain ⟨A, c, e⟩ := Kd.R_slice hR9; exact ⟨_, _, _, e⟩); obtain ⟨⟨_, _, _, _⟩, ⟨_, _, a8, a9⟩, ⟨_, _, _, _⟩, b8, b9⟩ := hO9.cells))
              all_goals
               go_wp2_with fail
               go_meet
               first
                | exact ⟨_, _, (hO9.setK hg hmb _).setL hg hmb _⟩
                | exact ⟨_, _, (hO9.setL hg hmb _).setK hg hmb _⟩
             case rest =>
              obtain ⟨kv2, lv2, hP⟩ := hcut;clear hO6 hOd hV2 hV a2 a3 a2' a3' b2 b3 b2' b3' aa2 aa3 ab2 ab3;have hcc := comma_calls (p := r) (d := d + 1) 125 (hP.rs.to rfl (by omega)) (by omega) (by omega)
              cases hcm : Js.comma b 125 r with
              | no y e =>
               rw [hcm] at hcc
               obtain rfl : o = Js.Out.no y e := by have := ho5.out; rw [hcm] at this; exact Option.some.inj this
               clear hcm ho5;go_wp2_with (go_at_call 98; refine hcc.mono ?_; rintro e2 w2 ⟨rfl, hB2, hK2⟩);refine ⟨rfl, ?_⟩;exact ⟨rfl, hB2, hP.kb.trans hK2 (.inl rfl)⟩
              | ok t r2 =>
               have hcl := Js.comma_le hvl.2 hcm
               cases t with
               | true =>
                rw [hcm] at hcc
                have ho6 : Hid (Js.pairs b j (d + 1) (ks ++ [key]) (l ++ [v]) r2 = some o) := by have := ho5.out; rw [hcm] at this; exact this.symm
                clear hcm ho5;go_wp2_with (go_at_call 98; refine hcc.mono ?_; rintro e2 w2 ⟨rfl, hS2, hK2⟩)
                go_roundg j
                case measure => omega
                exact ⟨r2, kv2, lv2, _, n + 1, _, _, ho6, hsee2, by omega, by simp; omega, by simp; omega, by omega, by omega, hP.step hg (hS2.to rfl (by omega)) hK2⟩
               | false =>
                rw [hcm] at hcc
                obtain rfl : o = Js.Out.ok (Js.Val.mk 6 [] (ks ++ [key]) (l ++ [v])) r2 := by have := ho5.out; rw [hcm] at this; exact Option.some.inj this
                clear hcm ho5
                obtain ⟨Ak, nk, ck, rfl⟩ : ∃ A n c, kv2 = .slice A n c := (by obtain ⟨A, c, e⟩ := Kd.R_slice hP.own2; exact ⟨_, _, _, e⟩)
                obtain ⟨Al, nl, cl, rfl⟩ : ∃ A n c, lv2 = .slice A n c := (by obtain ⟨A, c, e⟩ := Kd.R_slice hP.own; exact ⟨_, _, _, e⟩)
                go_wp2_with (go_at_call 98; refine hcc.mono ?_; rintro e2 w2 ⟨rfl, hS2, hK2⟩; have hA3 := hP.step hg hS2 hK2; obtain ⟨⟨z10, z11, z12, z13⟩, ⟨z20, z21, z22, z23⟩, ⟨y0, y1, y2, y3⟩, _, _⟩ := hA3.cells; have hF := Lib.hid (hA3.stored hg (.int .i64 6) (.string ⟨#[]⟩) (.slice Ak nk ck) (.slice Al nl cl)));obtain ⟨hB, hRS, hKB, hR2, hR⟩ := hF.out;generalize hwf : World.setCell _ _ _ = wf at hB hRS hKB hR2 hR ⊢;clear hwf;obtain ⟨c0, c1, c2, c3⟩ := blk4 hB;refine bodyPost_ret (v := .agg #[.int .i64 6, .string ⟨#[]⟩, .slice Ak nk ck, .slice Al nl cl]) (by simp [results, Tryd.results75, go_sem, c0, c1, c2, c3]) rfl ?_;exact ⟨_, rfl, VVal.of _ _ (Js.Val.mk 6 [] (ks ++ [key]) (l ++ [v])) (Kd.R_lower hR2 (Nat.le_add_right _ 2)) (Kd.R_lower hR (Nat.le_add_right _ 2)), hRS.to rfl (by omega), hKB⟩
          ·obtain rfl : o = Js.Out.no q2 6 := by
            have := ho3.out;rw [hx] at this;simp only at this;rw [if_neg (by simpa using h58)] at this;exact Option.some.inj this
           clear ho3
           have h58' : (x2 == 58) = false := by simpa using h58
           go_wp2_with (first
            | (go_at_call 77; refine hT.mono ?_; rintro e2 w2 ⟨u, rfl, rfl, hS2, hK2⟩; have hO2 := OS.step hO hg hS2 hK2; have f1 := hS2.fr 1; have g1 := hS2.c1)
            | (at_lookup; refine wpList_lookup_own_int _ rfl _ _ 147 rfl 9 3 .i64 law9 Tryd.underlying147 Tryd.underlying3 (zero3 _) mb n D rfl hO2.mp _ _ rfl hkey ?_; intro cv hat hwc; obtain rfl := lit_inj (hat0.symm.trans hat))
            | (at_mapUpdate; refine wpList_mapUpdate_own _ rfl _ _ _ 147 rfl 9 3 law9 Tryd.underlying147 _ mb n D rfl hO2.mp (by unfold maxLen; omega) _ _ _ rfl rfl hkey _ [] (plainElem_int Tryd.underlying3 (by decide)) ?_; intro w3 hm3 hg3; have hO3 := hO2.put hg hmb hm3 hg3)
            | (go_at_call 58; refine (hbl _ hO3.rs).mono ?_; rintro e2 w4 ⟨rfl, hS4, hK4⟩; have hO4 := hO3.step hg hS4 hK4)
            | (go_at_call 74; refine (peek_ok hS4 hx).mono ?_; rintro e2 w5 ⟨rfl, m, rfl⟩)
            | (go_at_call 60; refine (fail_calls 6 (hO4.drewN hg m).rs).mono ?_; rintro e2 w3 ⟨rfl, rfl⟩))
           refine ⟨rfl, ?_⟩;exact ⟨rfl, (hO4.drewN hg m).rs.bel, (hO4.drewN hg m).kb⟩
end Go.Proofs.YteighppcdpaekaaDoor.Rd
end
section
namespace Go.Proofs.YteighppcdpaekaaDoor.Rd
open Go.RowKit Go.Proofs.YteighppcdpaekaaDoorW.PrintWords
open Go.Proofs.YteighppcdpaekaaDoor Go.Proofs.YteighppcdpaekaaDoor.P
theorem St.vval {w0 : World} {g : Nat} {A : Option Addr} {c : Nat} {b : List Int} {w : World} {d : Int} {wc w2 : World} {q r : Nat} {n0 : Nat} {v : Js.Val} {x0 : Int} {x1 : ByteArray} {v2 v3 : Value} (h : St w0 g A c b w d wc q) (hg : g < w.heap.size) (hS : RS w0 g A c b w2 r d) (hK : Kbt wc w2 g none)
  (hn : wc.heap.size ≤ n0) (hM : k27.M w2 n0 (fun _ => True) (toS v) [.int .i64 x0, .string x1, v2, v3]) (hR3 : k27.R 27 w2 n0 (fun k => some k ≠ v2.ownBlock) v3 (toS v).f3) :
  let wf := (((w2.setCell ⟨w.heap.size, 0, none⟩ (.int .i64 x0)).setCell ⟨w.heap.size, 1, none⟩ (.string x1)).setCell ⟨w.heap.size, 2, none⟩ v2).setCell ⟨w.heap.size, 3, none⟩ v3
  wf.heap[w.heap.size]? = some (.cells #[.int .i64 x0, .string x1, v2, v3] 27 (0, 0)) ∧ RS w0 g A c b wf r d ∧ Kbt w wf g none ∧ VVal w.heap.size wf v (.agg #[.int .i64 x0, .string x1, v2, v3]) := by
 have h2 := h.step hg hS hK;have hS2 := h2.stored hg (.int .i64 x0) (.string x1) v2 v3;have hsz : w.heap.size < wc.heap.size := blk_lt h.zb;refine ⟨hS2.1, hS2.2.1, hS2.2.2, x0, x1, v2, v3, rfl, ?_, ?_⟩
 have hst : ∀ (W : World) (j : Nat) (u : Value), k27.M W n0 (fun _ => True) (toS v) [.int .i64 x0, .string x1, v2, v3] → k27.M (W.setCell ⟨w.heap.size, j, none⟩ u) n0 (fun _ => True) (toS v) [.int .i64 x0, .string x1, v2, v3] := fun W j u hR =>
  k27.M_mono (fun _ _ => trivial) (k27.M_step (k27.M_bound hR) (fun k hk hlt => Below.heap_setCell W ⟨w.heap.size, j, none⟩ u k (by have h2 := hk.2.1; show k ≠ w.heap.size; omega)))
 ·exact k27.M_lower (show w.heap.size ≤ n0 by omega) (hst _ _ _ (hst _ _ _ (hst _ _ _ (hst _ _ _ hM))))
 ·have hst2 : ∀ (W : World) (j : Nat) (u : Value), k27.R 27 W n0 (fun k => some k ≠ v2.ownBlock) v3 (toS v).f3 → k27.R 27 (W.setCell ⟨w.heap.size, j, none⟩ u) n0 (fun k => some k ≠ v2.ownBlock) v3 (toS v).f3 := fun W j u hR =>
   Kd.R_mono (Kd.R_far (p := ⟨w.heap.size, j, none⟩) (Kd.R_bound hR) (fun k hk => by have h2 := hk.2.1; show k ≠ w.heap.size; omega) u) (fun _ hk => hk.1)
  exact Kd.R_lower (hst2 _ _ _ (hst2 _ _ _ (hst2 _ _ _ (hst2 _ _ _ hR3)))) (show w.heap.size ≤ n0 by omega)
theorem VVal.open {n0 : Nat} {w : World} {v : Js.Val} {u : Value} (h : VVal n0 w v u) : ∃ (x0 : Int) (x1 : ByteArray) (A2 : Option Addr) (n2 c2 : Nat) (A3 : Option Addr) (n3 c3 : Nat), u = .agg #[.int .i64 x0, .string x1, .slice A2 n2 c2, .slice A3 n3 c3] ∧ k27.M w n0 (fun _ => True) (toS v) [.int .i64 x0, .string x1, .slice A2 n2 c2, .slice A3 n3 c3] ∧ k27.R 27 w n0 (fun k => some k ≠ (Value.slice A2 n2 c2).ownBlock) (.slice A3 n3 c3) (toS v).f3 := by
 obtain ⟨x0, x1, v2, v3, rfl, hM, hR⟩ := h;obtain ⟨u2, u3, he, h2, h3⟩ := k27_openM hM;simp only [List.cons.injEq, and_true] at he;obtain ⟨_, _, rfl, rfl⟩ := he;obtain ⟨A2, c2, rfl⟩ := Kd.R_slice h2;obtain ⟨A3, c3, rfl⟩ := Kd.R_slice h3;exact ⟨_, _, _, _, _, _, _, _, rfl, hM, hR⟩
set_option maxRecDepth 100000 in
set_option maxHeartbeats 3200000 in
theorem value_calls : ∀ j, ValueOK j := by
 intro j
 induction j using Nat.strongRecOn with
 | ind j ih =>
 intro w0 g A c b w p d o hb h hp hbc hd ho
 cases j with
 | zero => exact absurd ho (by simp [Js.value])
 | succ k =>
 have ih' : ∀ i, i < k → ValueOK i := fun i hi => ih i (by omega)
 clear ih;have hsm := h.small;have hg := h.lt
 have hSt : St w0 g A c b w d (w.alloc Z25) p := ⟨h.alloc _, kal (Kbt.refl _ _ _) _, blk_new _ _⟩
 rw [Js.value_succ] at ho
 cases hx : b[p]? with
 | none =>
  rw [hx] at ho;obtain rfl : Js.Out.no p 11 = o := Option.some.inj ho;have hpk := peek_no hSt.rs hx;clear hx ho;go_enter Tryd.func59, Tryd.ntmps59;go_wp2_with (go_at_call 74; refine hpk.mono ?_; rintro e w2 ⟨rfl, m, rfl⟩);refine ⟨rfl, ?_⟩;exact ⟨rfl, (hSt.drewN m).rs.bel, (hSt.drewN m).kb⟩
 | some x =>
  have hpl : p < b.length := (List.getElem?_eq_some_iff.1 hx).1;have hpk := peek_ok hSt.rs hx;rw [hx] at ho;simp only at ho;clear hx;by_cases e0 : x = 123
  ·rw [if_pos (by simpa using e0)] at ho
   have e0' : (x == 123) = true := by simpa using e0
   clear e0
   have hC := fun m => object_calls ih' hb (hSt.drewN m).rs hpl hbc hd ho
   clear ho
   cases o with
   | no y e =>
    go_enter Tryd.func59, Tryd.ntmps59;go_wp2_with (first | (go_at_call 74; refine hpk.mono ?_; rintro e w2 ⟨rfl, m, rfl⟩) | (go_at_call 75; refine (hC m).mono ?_; rintro e2 w3 ⟨rfl, hB3, hK3⟩));refine ⟨rfl, ?_⟩;exact ⟨rfl, hB3, (hSt.drewN m).kb.trans hK3 (.inl rfl)⟩
   | ok v r =>
    go_enter Tryd.func59, Tryd.ntmps59;go_wp2_with (first | (go_at_call 74; refine hpk.mono ?_; rintro e w2 ⟨rfl, m, rfl⟩) | (go_at_call 75; refine (hC m).mono ?_; rintro e2 w3 ⟨u, rfl, hV, hS3, hK3⟩; obtain ⟨x0, x1, A2, n2, k2, A3, n3, k3, rfl, hM, hR⟩ := hV.open; have hSt3 := (hSt.drewN m).step hg hS3 hK3; obtain ⟨⟨z0, z1, z2, z3⟩, y0, y1, y2, y3⟩ := hSt3.zero; have hF := Lib.hid (St.vval (hSt.drewN m) hg hS3 hK3 (Nat.le_refl _) hM hR)));obtain ⟨hB, hRS, hKB, hVV⟩ := hF.out;generalize hwf : World.setCell _ _ _ = wf at hB hRS hKB hVV ⊢;clear hwf;obtain ⟨c0, c1, c2, c3⟩ := blk4 hB;refine bodyPost_ret (v := .agg #[.int .i64 x0, .string x1, .slice A2 n2 k2, .slice A3 n3 k3]) (by simp [results, Tryd.results59, go_sem, c0, c1, c2, c3]) rfl ?_;exact ⟨_, rfl, hVV, hRS, hKB⟩
  rw [if_neg (by simpa using e0)] at ho
  have e0' : (x == 123) = false := by simpa using e0
  clear e0;by_cases e1 : x = 91
  ·rw [if_pos (by simpa using e1)] at ho
   have e1' : (x == 91) = true := by simpa using e1
   clear e1
   have hC := fun m => array_calls ih' hb (hSt.drewN m).rs hpl hbc hd ho
   clear ho
   cases o with
   | no y e =>
    go_enter Tryd.func59, Tryd.ntmps59;go_wp2_with (first | (go_at_call 74; refine hpk.mono ?_; rintro e w2 ⟨rfl, m, rfl⟩) | (go_at_call 76; refine (hC m).mono ?_; rintro e2 w3 ⟨rfl, hB3, hK3⟩));refine ⟨rfl, ?_⟩;exact ⟨rfl, hB3, (hSt.drewN m).kb.trans hK3 (.inl rfl)⟩
   | ok v r =>
    go_enter Tryd.func59, Tryd.ntmps59;go_wp2_with (first | (go_at_call 74; refine hpk.mono ?_; rintro e w2 ⟨rfl, m, rfl⟩) | (go_at_call 76; refine (hC m).mono ?_; rintro e2 w3 ⟨u, rfl, hV, hS3, hK3⟩; obtain ⟨x0, x1, A2, n2, k2, A3, n3, k3, rfl, hM, hR⟩ := hV.open; have hSt3 := (hSt.drewN m).step hg hS3 hK3; obtain ⟨⟨z0, z1, z2, z3⟩, y0, y1, y2, y3⟩ := hSt3.zero; have hF := Lib.hid (St.vval (hSt.drewN m) hg hS3 hK3 (Nat.le_refl _) hM hR)));obtain ⟨hB, hRS, hKB, hVV⟩ := hF.out;generalize hwf : World.setCell _ _ _ = wf at hB hRS hKB hVV ⊢;clear hwf;obtain ⟨c0, c1, c2, c3⟩ := blk4 hB;refine bodyPost_ret (v := .agg #[.int .i64 x0, .string x1, .slice A2 n2 k2, .slice A3 n3 k3]) (by simp [results, Tryd.results59, go_sem, c0, c1, c2, c3]) rfl ?_;exact ⟨_, rfl, hVV, hRS, hKB⟩
  rw [if_neg (by simpa using e1)] at ho
  have e1' : (x == 91) = false := by simpa using e1
  clear e1;by_cases e2 : x = 34
  ·rw [if_pos (by simpa using e2)] at ho
   have e2' : (x == 34) = true := by simpa using e2
   clear e2
   cases ht : Js.text b k p with
   | none => simp [ht] at ho
   | some ot =>
    have hC := fun m => text_calls hb (hSt.drewN m).rs ht
    rw [ht] at ho
    cases ot with
    | no y e =>
     obtain rfl : Js.Out.no y e = o := Option.some.inj ho;clear ho ht;go_enter Tryd.func59, Tryd.ntmps59;go_wp2_with (first | (go_at_call 74; refine hpk.mono ?_; rintro e w2 ⟨rfl, m, rfl⟩) | (go_at_call 77; refine (hC m).mono ?_; rintro e2 w3 ⟨rfl, hB3, hK3⟩));refine ⟨rfl, ?_⟩;exact ⟨rfl, hB3, (hSt.drewN m).kb.trans hK3 (.inl rfl)⟩
    | ok l r =>
     obtain rfl : Js.Out.ok (Js.Val.mk 4 l [] []) r = o := Option.some.inj ho;clear ho ht;go_enter Tryd.func59, Tryd.ntmps59;go_wp2_with (first | (go_at_call 74; refine hpk.mono ?_; rintro e w2 ⟨rfl, m, rfl⟩) | (go_at_call 77; refine (hC m).mono ?_; rintro e2 w3 ⟨u, rfl, rfl, hS3, hK3⟩; have hSt3 := (hSt.drewN m).step hg hS3 hK3; obtain ⟨⟨z0, z1, z2, z3⟩, y0, y1, y2, y3⟩ := hSt3.zero; have hF := Lib.hid (hSt3.stored hg (.int .i64 4) (.string (strOfNums l)) (.slice none 0 0) (.slice none 0 0))));obtain ⟨hB, hRS, hKB⟩ := hF.out;generalize hwf : World.setCell _ _ _ = wf at hB hRS hKB ⊢;clear hwf;obtain ⟨c0, c1, c2, c3⟩ := blk4 hB;refine bodyPost_ret (v := .agg #[.int .i64 4, .string (strOfNums l), .slice none 0 0, .slice none 0 0]) (by simp [results, Tryd.results59, go_sem, c0, c1, c2, c3]) rfl ?_;exact ⟨_, rfl, VVal.of _ _ (Js.Val.mk 4 l [] []) (Kd.R_nil _ _ _ _ _) (Kd.R_nil _ _ _ _ _), hRS, hKB⟩
  rw [if_neg (by simpa using e2)] at ho
  have e2' : (x == 34) = false := by simpa using e2
  clear e2;by_cases e3 : x = 116
  ·rw [if_pos (by simpa using e3)] at ho
   have e3' : (x == 116) = true := by simpa using e3
   clear e3
   have hC := fun m => word_calls ⟨#[116, 114, 117, 101]⟩ (by decide) 2 (hSt.drewN m).rs hp
   change ∀ m, Calls _ _ _ _ (Post w0 g A c b _ d (VKind 2) (Js.word b [116, 114, 117, 101] p)) at hC
   cases hw : Js.word b [116, 114, 117, 101] p with
   | no y e =>
    rw [hw] at ho hC;obtain rfl : Js.Out.no y e = o := Option.some.inj ho;clear ho hw;go_enter Tryd.func59, Tryd.ntmps59;go_wp2_with (first | (go_at_call 74; refine hpk.mono ?_; rintro e w2 ⟨rfl, m, rfl⟩) | (go_at_call 78; refine (hC m).mono ?_; rintro e2 w3 ⟨rfl, hB3, hK3⟩));refine ⟨rfl, ?_⟩;exact ⟨rfl, hB3, (hSt.drewN m).kb.trans hK3 (.inl rfl)⟩
   | ok l r =>
    rw [hw] at ho hC;obtain rfl : Js.Out.ok (Js.Val.mk 2 [] [] []) r = o := Option.some.inj ho;clear ho hw;go_enter Tryd.func59, Tryd.ntmps59;go_wp2_with (first | (go_at_call 74; refine hpk.mono ?_; rintro e w2 ⟨rfl, m, rfl⟩) | (go_at_call 78; refine (hC m).mono ?_; rintro e2 w3 ⟨u, rfl, rfl, hS3, hK3⟩; have hSt3 := (hSt.drewN m).step hg hS3 hK3; obtain ⟨⟨z0, z1, z2, z3⟩, y0, y1, y2, y3⟩ := hSt3.zero; have hF := Lib.hid (hSt3.stored hg (.int .i64 2) (.string ⟨#[]⟩) (.slice none 0 0) (.slice none 0 0))));obtain ⟨hB, hRS, hKB⟩ := hF.out;generalize hwf : World.setCell _ _ _ = wf at hB hRS hKB ⊢;clear hwf;obtain ⟨c0, c1, c2, c3⟩ := blk4 hB;refine bodyPost_ret (v := .agg #[.int .i64 2, .string ⟨#[]⟩, .slice none 0 0, .slice none 0 0]) (by simp [results, Tryd.results59, go_sem, c0, c1, c2, c3]) rfl ?_;exact ⟨_, rfl, VVal.of _ _ (Js.Val.mk 2 [] [] []) (Kd.R_nil _ _ _ _ _) (Kd.R_nil _ _ _ _ _), hRS, hKB⟩
  rw [if_neg (by simpa using e3)] at ho
  have e3' : (x == 116) = false := by simpa using e3
  clear e3;by_cases e4 : x = 102
  ·rw [if_pos (by simpa using e4)] at ho
   have e4' : (x == 102) = true := by simpa using e4
   clear e4
   have hC := fun m => word_calls ⟨#[102, 97, 108, 115, 101]⟩ (by decide) 1 (hSt.drewN m).rs hp
   change ∀ m, Calls _ _ _ _ (Post w0 g A c b _ d (VKind 1) (Js.word b [102, 97, 108, 115, 101] p)) at hC
   cases hw : Js.word b [102, 97, 108, 115, 101] p with
   | no y e =>
    rw [hw] at ho hC;obtain rfl : Js.Out.no y e = o := Option.some.inj ho;clear ho hw;go_enter Tryd.func59, Tryd.ntmps59;go_wp2_with (first | (go_at_call 74; refine hpk.mono ?_; rintro e w2 ⟨rfl, m, rfl⟩) | (go_at_call 78; refine (hC m).mono ?_; rintro e2 w3 ⟨rfl, hB3, hK3⟩));refine ⟨rfl, ?_⟩;exact ⟨rfl, hB3, (hSt.drewN m).kb.trans hK3 (.inl rfl)⟩
   | ok l r =>
    rw [hw] at ho hC;obtain rfl : Js.Out.ok (Js.Val.mk 1 [] [] []) r = o := Option.some.inj ho;clear ho hw;go_enter Tryd.func59, Tryd.ntmps59;go_wp2_with (first | (go_at_call 74; refine hpk.mono ?_; rintro e w2 ⟨rfl, m, rfl⟩) | (go_at_call 78; refine (hC m).mono ?_; rintro e2 w3 ⟨u, rfl, rfl, hS3, hK3⟩; have hSt3 := (hSt.drewN m).step hg hS3 hK3; obtain ⟨⟨z0, z1, z2, z3⟩, y0, y1, y2, y3⟩ := hSt3.zero; have hF := Lib.hid (hSt3.stored hg (.int .i64 1) (.string ⟨#[]⟩) (.slice none 0 0) (.slice none 0 0))));obtain ⟨hB, hRS, hKB⟩ := hF.out;generalize hwf : World.setCell _ _ _ = wf at hB hRS hKB ⊢;clear hwf;obtain ⟨c0, c1, c2, c3⟩ := blk4 hB;refine bodyPost_ret (v := .agg #[.int .i64 1, .string ⟨#[]⟩, .slice none 0 0, .slice none 0 0]) (by simp [results, Tryd.results59, go_sem, c0, c1, c2, c3]) rfl ?_;exact ⟨_, rfl, VVal.of _ _ (Js.Val.mk 1 [] [] []) (Kd.R_nil _ _ _ _ _) (Kd.R_nil _ _ _ _ _), hRS, hKB⟩
  rw [if_neg (by simpa using e4)] at ho
  have e4' : (x == 102) = false := by simpa using e4
  clear e4;by_cases e5 : x = 110
  ·rw [if_pos (by simpa using e5)] at ho
   have e5' : (x == 110) = true := by simpa using e5
   clear e5
   have hC := fun m => word_calls ⟨#[110, 117, 108, 108]⟩ (by decide) 0 (hSt.drewN m).rs hp
   change ∀ m, Calls _ _ _ _ (Post w0 g A c b _ d (VKind 0) (Js.word b [110, 117, 108, 108] p)) at hC
   cases hw : Js.word b [110, 117, 108, 108] p with
   | no y e =>
    rw [hw] at ho hC;obtain rfl : Js.Out.no y e = o := Option.some.inj ho;clear ho hw;go_enter Tryd.func59, Tryd.ntmps59;go_wp2_with (first | (go_at_call 74; refine hpk.mono ?_; rintro e w2 ⟨rfl, m, rfl⟩) | (go_at_call 78; refine (hC m).mono ?_; rintro e2 w3 ⟨rfl, hB3, hK3⟩));refine ⟨rfl, ?_⟩;exact ⟨rfl, hB3, (hSt.drewN m).kb.trans hK3 (.inl rfl)⟩
   | ok l r =>
    rw [hw] at ho hC;obtain rfl : Js.Out.ok (Js.Val.mk 0 [] [] []) r = o := Option.some.inj ho;clear ho hw;go_enter Tryd.func59, Tryd.ntmps59;go_wp2_with (first | (go_at_call 74; refine hpk.mono ?_; rintro e w2 ⟨rfl, m, rfl⟩) | (go_at_call 78; refine (hC m).mono ?_; rintro e2 w3 ⟨u, rfl, rfl, hS3, hK3⟩; have hSt3 := (hSt.drewN m).step hg hS3 hK3; obtain ⟨⟨z0, z1, z2, z3⟩, y0, y1, y2, y3⟩ := hSt3.zero; have hF := Lib.hid (hSt3.stored hg (.int .i64 0) (.string ⟨#[]⟩) (.slice none 0 0) (.slice none 0 0))));obtain ⟨hB, hRS, hKB⟩ := hF.out;generalize hwf : World.setCell _ _ _ = wf at hB hRS hKB ⊢;clear hwf;obtain ⟨c0, c1, c2, c3⟩ := blk4 hB;refine bodyPost_ret (v := .agg #[.int .i64 0, .string ⟨#[]⟩, .slice none 0 0, .slice none 0 0]) (by simp [results, Tryd.results59, go_sem, c0, c1, c2, c3]) rfl ?_;exact ⟨_, rfl, VVal.of _ _ (Js.Val.mk 0 [] [] []) (Kd.R_nil _ _ _ _ _) (Kd.R_nil _ _ _ _ _), hRS, hKB⟩
  rw [if_neg (by simpa using e5)] at ho
  have e5' : (x == 110) = false := by simpa using e5
  clear e5
  have hC := fun m => number_calls (hSt.drewN m).rs hp hbc
  cases hn : Js.number b p with
  | no y e =>
   rw [show numberV b p = .no y e by simp [numberV, hn]] at hC;rw [hn] at ho;obtain rfl : Js.Out.no y e = o := Option.some.inj ho;clear ho hn;go_enter Tryd.func59, Tryd.ntmps59;go_wp2_with (first | (go_at_call 74; refine hpk.mono ?_; rintro e w2 ⟨rfl, m, rfl⟩) | (go_at_call 79; refine (hC m).mono ?_; rintro e2 w3 ⟨rfl, hB3, hK3⟩));refine ⟨rfl, ?_⟩;exact ⟨rfl, hB3, (hSt.drewN m).kb.trans hK3 (.inl rfl)⟩
  | ok l r =>
   rw [show numberV b p = .ok ((b.take r).drop p) r by simp [numberV, hn]] at hC;rw [hn] at ho;obtain rfl : Js.Out.ok (Js.Val.mk 3 ((b.take r).drop p) [] []) r = o := Option.some.inj ho;clear ho hn;generalize (b.take r).drop p = l2 at hC ⊢;go_enter Tryd.func59, Tryd.ntmps59;go_wp2_with (first | (go_at_call 74; refine hpk.mono ?_; rintro e w2 ⟨rfl, m, rfl⟩) | (go_at_call 79; refine (hC m).mono ?_; rintro e2 w3 ⟨u, rfl, rfl, hS3, hK3⟩; have hSt3 := (hSt.drewN m).step hg hS3 hK3; obtain ⟨⟨z0, z1, z2, z3⟩, y0, y1, y2, y3⟩ := hSt3.zero; have hF := Lib.hid (hSt3.stored hg (.int .i64 3) (.string (strOfNums l2)) (.slice none 0 0) (.slice none 0 0))));obtain ⟨hB, hRS, hKB⟩ := hF.out;generalize hwf : World.setCell _ _ _ = wf at hB hRS hKB ⊢;clear hwf;obtain ⟨c0, c1, c2, c3⟩ := blk4 hB;refine bodyPost_ret (v := .agg #[.int .i64 3, .string (strOfNums l2), .slice none 0 0, .slice none 0 0]) (by simp [results, Tryd.results59, go_sem, c0, c1, c2, c3]) rfl ?_;exact ⟨_, rfl, VVal.of _ _ (Js.Val.mk 3 l2 [] []) (Kd.R_nil _ _ _ _ _) (Kd.R_nil _ _ _ _ _), hRS, hKB⟩
end Go.Proofs.YteighppcdpaekaaDoor.Rd
end
section
namespace Go.Proofs.YteighppcdpaekaaDoor.Rd
open Go.RowKit Go.Proofs.YteighppcdpaekaaDoorW.PrintWords
open Go.Proofs.YteighppcdpaekaaDoor Go.Proofs.YteighppcdpaekaaDoor.P
section
variable {P : Program} {ops : Array Oper} {Q : Exit → Act → List Frame → World → Prop} {i : Nat} {rest : List Nat} {a : Act} {cs cs' : List Frame} {w w' : World} {o : Oper} {v : Value}
structure Ops (P : Program) (ops : Array Oper) (Q : Exit → Act → List Frame → World → Prop) (l : List Nat) (a : Act) (cs : List Frame) (w : World) : Prop where
 out : wpOpsS P ops Q l a cs w
theorem opS_end (h : Q .normal a cs w) : Ops P ops Q [] a cs w := ⟨h⟩
theorem opS_value (ho : ops[i]? = some o) (hw : Region.wanted o (yielded ops a.tmps) = true) (hr : (execOp a.eval o).run P w = .ok (.value v) w') (h : Ops P ops Q rest (a.put o.dst v) cs w') : Ops P ops Q (i :: rest) a cs w := by
 constructor
 simp only [wpOpsS, ho, hw, if_true, hr, Oper.upon];exact h.out
theorem opS_skip (ho : ops[i]? = some o) (hw : Region.wanted o (yielded ops a.tmps) = true) (hr : (execOp a.eval o).run P w = .ok .skip w') (h : Ops P ops Q rest (a.put o.dst undef) cs w') : Ops P ops Q (i :: rest) a cs w := by
 constructor
 simp only [wpOpsS, ho, hw, if_true, hr, Oper.upon];exact h.out
theorem opS_found (ho : ops[i]? = some o) (hw : Region.wanted o (yielded ops a.tmps) = true) (hr : (execOp a.eval o).run P w = .ok .recover w') (hc : recoverD cs = some (v, cs')) (h : Ops P ops Q rest (a.put o.dst v) cs' w') : Ops P ops Q (i :: rest) a cs w := by
 constructor
 simp only [wpOpsS, ho, hw, if_true, hr, hc];exact h.out
theorem opS_none (ho : ops[i]? = some o) (hw : Region.wanted o (yielded ops a.tmps) = true) (hr : (execOp a.eval o).run P w = .ok .recover w') (hc : recoverD cs = none) (h : Ops P ops Q rest (a.put o.dst .nilIface) cs w') : Ops P ops Q (i :: rest) a cs w := by
 constructor
 simp only [wpOpsS, ho, hw, if_true, hr, hc];exact h.out
end
def F53 (x k : Int) : Obj := .cells #[.int .i64 x, .int .i64 k] 115 (0, 0)
set_option maxRecDepth 100000 in
theorem catch_idle (p1 p2 p3 : Value) (w : World) :
  CallsD Tryd.prog 57 #[p1, p2, p3] .returning w fun e u' w' => e = .returned (.tuple #[]) ∧ u' = .returning ∧ Below w.heap.size w w' := by
 refine callsD_of_wpS Tryd.func57 rfl fun c₀ cs hu => ?_
 apply wpS_seq
 apply wpS_region
 change wpOpsS _ _ _ [0, 1, 2, 3, 4, 5, 6, 7] { tmps := #[p1, p2, p3, undef, undef, undef, undef, undef, undef, undef, undef, undef, undef, undef, undef, undef], defers := [] } _ _
 refine Ops.out ?_;refine opS_none (w' := w) (ho := rfl) ?_ ?_ ?_ ?_
 ·kernel_rfl
 ·kernel_rfl
 ·simp [recoverD, hu]
 refine opS_value (v := .tuple #[.agg #[.int .i64 0, .int .i64 0], .bool false]) (w' := w) (ho := rfl) ?_ ?_ ?_
 ·kernel_rfl
 ·kernel_rfl
 refine opS_value (v := .tuple #[.agg #[.int .i64 0, .int .i64 0], .bool false]) (w' := w) (ho := rfl) ?_ ?_ ?_
 ·kernel_rfl
 ·kernel_rfl
 refine opS_value (v := .agg #[.int .i64 0, .int .i64 0]) (w' := w) (ho := rfl) ?_ ?_ ?_
 ·kernel_rfl
 ·kernel_rfl
 refine opS_value (v := .bool false) (w' := w) (ho := rfl) ?_ ?_ ?_
 ·kernel_rfl
 ·kernel_rfl
 refine opS_value (v := .pointer (some ⟨w.heap.size, 0, none⟩)) (w' := w.alloc (F53 0 0)) (ho := rfl) ?_ ?_ ?_
 ·kernel_rfl
 ·kernel_rfl
 have hc := blk_new w (F53 0 0)
 change Ops _ _ _ [6, 7] { tmps := #[p1, p2, p3, .pointer (some ⟨w.heap.size, 0, none⟩), undef, .tuple #[.agg #[.int .i64 0, .int .i64 0], .bool false], .nilIface, .tuple #[.agg #[.int .i64 0, .int .i64 0], .bool false], .agg #[.int .i64 0, .int .i64 0], .bool false, undef, undef, undef, undef, undef, undef], defers := [] } _ _
 refine opS_skip (w' := ((w.alloc (F53 0 0)).setCell ⟨w.heap.size, 0, none⟩ (.int .i64 0)).setCell ⟨w.heap.size, 1, none⟩ (.int .i64 0)) (ho := rfl) ?_ ?_ ?_
 ·kernel_rfl
 ·have f0 := bfz hc 0
  have f1 := bfz hc 1;have g0 := bceq hc 0;have g1 := bceq hc 1
  simp at g0 g1
  simp [go_sem, f0, f1, g0, g1]
 have hB : (((w.alloc (F53 0 0)).setCell ⟨w.heap.size, 0, none⟩ (.int .i64 0)).setCell ⟨w.heap.size, 1, none⟩ (.int .i64 0)).heap[w.heap.size]? = some (F53 0 0) := blk_set (blk_set hc 0 _) 1 _;have hW : Below w.heap.size w (((w.alloc (F53 0 0)).setCell ⟨w.heap.size, 0, none⟩ (.int .i64 0)).setCell ⟨w.heap.size, 1, none⟩ (.int .i64 0)) := bstq (bstq (bal (Below.refl w.heap.size w) (F53 0 0)) (Nat.le_refl _)) (Nat.le_refl _);generalize ((w.alloc (F53 0 0)).setCell ⟨w.heap.size, 0, none⟩ (.int .i64 0)).setCell ⟨w.heap.size, 1, none⟩ (.int .i64 0) = ws at hB hW ⊢;clear hc;refine opS_value (v := .bool false) (w' := ws) (ho := rfl) ?_ ?_ ?_
 ·kernel_rfl
 ·kernel_rfl
 refine opS_end ?_
 change Code.wpS _ _ _ { tmps := #[p1, p2, p3, .pointer (some ⟨w.heap.size, 0, none⟩), .bool false, .tuple #[.agg #[.int .i64 0, .int .i64 0], .bool false], .nilIface, .tuple #[.agg #[.int .i64 0, .int .i64 0], .bool false], .agg #[.int .i64 0, .int .i64 0], .bool false, undef, undef, undef, undef, undef, undef], defers := [] } _ _
 apply wpS_of_wp
 go_wp2;refine ⟨rfl, .returning, by cases c₀; cases hu; rfl, .tuple #[], by simp [results, Tryd.results57, go_sem], rfl, rfl, hW⟩
theorem caught {B : Nat} {w ws : World} {v0 v1 v2 v3 v4 v5 : Value} {x k : Int} (hW : Below B w ws) (t2 : ws.heap[B]? = some (.cells #[v0, v1, v2, v3] 27 (0, 0))) (t3 : ws.heap[B + 1]? = some (.cells #[v4] 3 (0, 0))) (t4 : ws.heap[B + 2]? = some (.cells #[v5] 86 (0, 0))) :
  ∀ ws2, ws2 = ((((((ws.setCell ⟨B, 0, none⟩ (.int .i64 0)).setCell ⟨B, 1, none⟩ (.string ⟨#[]⟩)).setCell ⟨B, 2, none⟩ (.slice none 0 0)).setCell ⟨B, 3, none⟩ (.slice none 0 0)).setCell ⟨B + 1, 0, none⟩ (.int .i64 x)).setCell ⟨B + 2, 0, none⟩ (.int .i64 k)).drew →
   Below B w ws2 ∧ ws2.heap[B]? = some Z25 ∧ ws2.heap[B + 1]? = some (.cells #[.int .i64 x] 3 (0, 0)) ∧ ws2.heap[B + 2]? = some (.cells #[.int .i64 k] 86 (0, 0)) := by
 rintro ws2 rfl
 have step : ∀ (W : World) (j : Nat) (a : Value) (cs : Array Value), Below B w W → W.heap[B]? = some (.cells cs 27 (0, 0)) → W.heap[B + 1]? = some (.cells #[v4] 3 (0, 0)) → W.heap[B + 2]? = some (.cells #[v5] 86 (0, 0)) →
   Below B w (W.setCell ⟨B, j, none⟩ a) ∧ (W.setCell ⟨B, j, none⟩ a).heap[B]? = some (.cells (cs.setIfInBounds j a) 27 (0, 0)) ∧ (W.setCell ⟨B, j, none⟩ a).heap[B + 1]? = some (.cells #[v4] 3 (0, 0)) ∧ (W.setCell ⟨B, j, none⟩ a).heap[B + 2]? = some (.cells #[v5] 86 (0, 0)) := fun W j a cs h0 h1 h2 h3 =>
  ⟨Below.setCell (p := ⟨B, j, none⟩) h0 (Nat.le_refl _) _, blk_set h1 j a, blk_far h2 (p := ⟨B, j, none⟩) (by show B + 1 ≠ B; omega) a, blk_far h3 (p := ⟨B, j, none⟩) (by show B + 2 ≠ B; omega) a⟩
 obtain ⟨a0, a1, a2, a3⟩ := step ws 0 (.int .i64 0) _ hW t2 t3 t4;generalize ws.setCell ⟨B, 0, none⟩ (.int .i64 0) = W0 at a0 a1 a2 a3 ⊢;obtain ⟨b0, b1, b2, b3⟩ := step W0 1 (.string ⟨#[]⟩) _ a0 a1 a2 a3;generalize W0.setCell ⟨B, 1, none⟩ (.string ⟨#[]⟩) = W1 at b0 b1 b2 b3 ⊢;obtain ⟨c0, c1, c2, c3⟩ := step W1 2 (.slice none 0 0) _ b0 b1 b2 b3;generalize W1.setCell ⟨B, 2, none⟩ (.slice none 0 0) = W2 at c0 c1 c2 c3 ⊢;obtain ⟨d0, d1, d2, d3⟩ := step W2 3 (.slice none 0 0) _ c0 c1 c2 c3;generalize W2.setCell ⟨B, 3, none⟩ (.slice none 0 0) = W3 at d0 d1 d2 d3 ⊢;have e0 := Below.setCell (p := ⟨B + 1, 0, none⟩) d0 (by show B ≤ B + 1; omega) (.int .i64 x);have e1 := blk_far d1 (p := ⟨B + 1, 0, none⟩) (by show B ≠ B + 1; omega) (.int .i64 x);have e2 := blk_set d2 0 (.int .i64 x);have e3 := blk_far d3 (p := ⟨B + 1, 0, none⟩) (by show B + 2 ≠ B + 1; omega) (.int .i64 x);generalize W3.setCell ⟨B + 1, 0, none⟩ (.int .i64 x) = W4 at e0 e1 e2 e3 ⊢;have f0 := Below.setCell (p := ⟨B + 2, 0, none⟩) e0 (by show B ≤ B + 2; omega) (.int .i64 k);have f1 := blk_far e1 (p := ⟨B + 2, 0, none⟩) (by show B ≠ B + 2; omega) (.int .i64 k);have f2 := blk_far e2 (p := ⟨B + 2, 0, none⟩) (by show B + 1 ≠ B + 2; omega) (.int .i64 k);have f3 := blk_set e3 0 (.int .i64 k);generalize W4.setCell ⟨B + 2, 0, none⟩ (.int .i64 k) = W5 at f0 f1 f2 f3 ⊢;exact ⟨below_drew f0, f1, f2, f3⟩
set_option maxRecDepth 100000 in
set_option maxHeartbeats 1600000 in
theorem catch_panicking {B : Nat} (x k : Int) (older : List PanicEntry) {w : World} {v0 v1 v2 v3 v4 v5 : Value} (h2 : w.heap[B]? = some (.cells #[v0, v1, v2, v3] 27 (0, 0))) (h3 : w.heap[B + 1]? = some (.cells #[v4] 3 (0, 0))) (h4 : w.heap[B + 2]? = some (.cells #[v5] 86 (0, 0))) :
  CallsD Tryd.prog 57 #[.pointer (some ⟨B, 0, none⟩), .pointer (some ⟨B + 1, 0, none⟩), .pointer (some ⟨B + 2, 0, none⟩)] (.panicking ({ v := .iface 115 (.agg #[.int .i64 x, .int .i64 k]), recovered := false } :: older)) w fun e u' w' => e = .returned (.tuple #[]) ∧ u' = .panicking ({ v := .iface 115 (.agg #[.int .i64 x, .int .i64 k]), recovered := true } :: older) ∧ Below B w w' ∧
   w'.heap[B]? = some Z25 ∧ w'.heap[B + 1]? = some (.cells #[.int .i64 x] 3 (0, 0)) ∧ w'.heap[B + 2]? = some (.cells #[.int .i64 k] 86 (0, 0)) := by
 generalize hp1 : Value.pointer (some ⟨B, 0, none⟩) = p1;generalize hp2 : Value.pointer (some ⟨B + 1, 0, none⟩) = p2;generalize hp3 : Value.pointer (some ⟨B + 2, 0, none⟩) = p3
 refine callsD_of_wpS Tryd.func57 rfl fun c₀ cs hu => ?_
 apply wpS_seq
 apply wpS_region
 change wpOpsS _ _ _ [0, 1, 2, 3, 4, 5, 6, 7] { tmps := #[p1, p2, p3, undef, undef, undef, undef, undef, undef, undef, undef, undef, undef, undef, undef, undef], defers := [] } _ _
 refine Ops.out ?_;refine opS_found (v := .iface 115 (.agg #[.int .i64 x, .int .i64 k])) (cs' := { c₀ with mode := .panicking ({ v := .iface 115 (.agg #[.int .i64 x, .int .i64 k]), recovered := true } :: older) } :: cs) (w' := w) (ho := rfl) ?_ ?_ ?_ ?_
 ·kernel_rfl
 ·kernel_rfl
 ·simp [recoverD, hu]
 refine opS_value (v := .tuple #[.agg #[.int .i64 x, .int .i64 k], .bool true]) (w' := w) (ho := rfl) ?_ ?_ ?_
 ·kernel_rfl
 ·kernel_rfl
 refine opS_value (v := .tuple #[.agg #[.int .i64 x, .int .i64 k], .bool true]) (w' := w) (ho := rfl) ?_ ?_ ?_
 ·kernel_rfl
 ·kernel_rfl
 refine opS_value (v := .agg #[.int .i64 x, .int .i64 k]) (w' := w) (ho := rfl) ?_ ?_ ?_
 ·kernel_rfl
 ·kernel_rfl
 refine opS_value (v := .bool true) (w' := w) (ho := rfl) ?_ ?_ ?_
 ·kernel_rfl
 ·kernel_rfl
 refine opS_value (v := .pointer (some ⟨w.heap.size, 0, none⟩)) (w' := w.alloc (F53 0 0)) (ho := rfl) ?_ ?_ ?_
 ·kernel_rfl
 ·kernel_rfl
 have hc := blk_new w (F53 0 0)
 change Ops _ _ _ [6, 7] { tmps := #[p1, p2, p3, .pointer (some ⟨w.heap.size, 0, none⟩), undef, .tuple #[.agg #[.int .i64 x, .int .i64 k], .bool true], .iface 115 (.agg #[.int .i64 x, .int .i64 k]), .tuple #[.agg #[.int .i64 x, .int .i64 k], .bool true], .agg #[.int .i64 x, .int .i64 k], .bool true, undef, undef, undef, undef, undef, undef], defers := [] } _ _
 refine opS_skip (w' := ((w.alloc (F53 0 0)).setCell ⟨w.heap.size, 0, none⟩ (.int .i64 x)).setCell ⟨w.heap.size, 1, none⟩ (.int .i64 k)) (ho := rfl) ?_ ?_ ?_
 ·kernel_rfl
 ·have f0 := bfz hc 0
  have f1 := bfz hc 1;have g0 := bceq hc 0;have g1 := bceq hc 1
  simp at g0 g1
  simp [go_sem, f0, f1, g0, g1]
 have hB : (((w.alloc (F53 0 0)).setCell ⟨w.heap.size, 0, none⟩ (.int .i64 x)).setCell ⟨w.heap.size, 1, none⟩ (.int .i64 k)).heap[w.heap.size]? = some (F53 x k) := blk_set (blk_set hc 0 _) 1 _;have hW : Below w.heap.size w (((w.alloc (F53 0 0)).setCell ⟨w.heap.size, 0, none⟩ (.int .i64 x)).setCell ⟨w.heap.size, 1, none⟩ (.int .i64 k)) := bstq (bstq (bal (Below.refl w.heap.size w) (F53 0 0)) (Nat.le_refl _)) (Nat.le_refl _);generalize ((w.alloc (F53 0 0)).setCell ⟨w.heap.size, 0, none⟩ (.int .i64 x)).setCell ⟨w.heap.size, 1, none⟩ (.int .i64 k) = ws at hB hW ⊢;clear hc;refine opS_value (v := .bool true) (w' := ws) (ho := rfl) ?_ ?_ ?_
 ·kernel_rfl
 ·kernel_rfl
 refine opS_end ?_
 change Code.wpS _ _ _ { tmps := #[p1, p2, p3, .pointer (some ⟨w.heap.size, 0, none⟩), .bool true, .tuple #[.agg #[.int .i64 x, .int .i64 k], .bool true], .iface 115 (.agg #[.int .i64 x, .int .i64 k]), .tuple #[.agg #[.int .i64 x, .int .i64 k], .bool true], .agg #[.int .i64 x, .int .i64 k], .bool true, undef, undef, undef, undef, undef, undef], defers := [] } _ _
 have g2 := hW.block B (blk_lt h2);have g3 := hW.block (B + 1) (blk_lt h3);have g4 := hW.block (B + 2) (blk_lt h4);rw [h2] at g2;rw [h3] at g3;rw [h4] at g4;have hlt := blk_lt h4;subst hp1;subst hp2;subst hp3
 apply wpS_of_wp
 obtain ⟨q0, q1, q2, q3⟩ := blk4 g2;have k0 := bfz g2 0;have k1 := bfz g2 1;have k2 := bfz g2 2;have k3 := bfz g2 3;have q4 : ws.cell? ⟨B + 1, 0, none⟩ = some v4 := (bceq g3 0).trans rfl;have q5 : ws.cell? ⟨B + 2, 0, none⟩ = some v5 := (bceq g4 0).trans rfl;have k4 := bfz g3 0;have k5 := bfz g4 0;have r0 : ws.cell? ⟨w.heap.size, 0, none⟩ = some (.int .i64 x) := (bceq hB 0).trans rfl;have r1 : ws.cell? ⟨w.heap.size, 1, none⟩ = some (.int .i64 k) := (bceq hB 1).trans rfl
 have n0 : ¬ w.heap.size = B := by omega
 have n1 : ¬ w.heap.size = B + 1 := by omega
 have n2 : ¬ w.heap.size = B + 2 := by omega
 have n3 : ¬ B = w.heap.size := by omega
 have n4 : ¬ B + 1 = w.heap.size := by omega
 have n5 : ¬ B + 2 = w.heap.size := by omega
 have hfin : Hid (∀ ws2, ws2 = ((((((ws.setCell ⟨B, 0, none⟩ (.int .i64 0)).setCell ⟨B, 1, none⟩ (.string ⟨#[]⟩)).setCell ⟨B, 2, none⟩ (.slice none 0 0)).setCell ⟨B, 3, none⟩ (.slice none 0 0)).setCell ⟨B + 1, 0, none⟩ (.int .i64 x)).setCell ⟨B + 2, 0, none⟩ (.int .i64 k)).drew →
   Below B w ws2 ∧ ws2.heap[B]? = some Z25 ∧ ws2.heap[B + 1]? = some (.cells #[.int .i64 x] 3 (0, 0)) ∧ ws2.heap[B + 2]? = some (.cells #[.int .i64 k] 86 (0, 0))) := by
  exact Lib.hid (caught (hW.mono (by omega)) g2 g3 g4)
 clear hB hW g2 g3 g4 h2 h3 h4;go_wp2
 go_region
 go_wp2;have hE := hfin.out _ rfl;clear hfin;generalize World.drew _ = wE at hE ⊢;exact ⟨rfl, _, rfl, .tuple #[], by simp [results, Tryd.results57, go_sem], rfl, rfl, hE⟩
end Go.Proofs.YteighppcdpaekaaDoor.Rd
end
section
namespace Go.Proofs.YteighppcdpaekaaDoor.Rd
open Go.RowKit Go.Proofs.YteighppcdpaekaaDoorW.PrintWords
open Go.Proofs.YteighppcdpaekaaDoor Go.Proofs.YteighppcdpaekaaDoor.P
structure PS (w wc : World) (v0 v1 v2 v3 v4 v5 : Value) : Prop where
 z : wc.heap[w.heap.size]? = some (.cells #[v0, v1, v2, v3] 27 (0, 0))
 a : wc.heap[w.heap.size + 1]? = some (.cells #[v4] 3 (0, 0))
 e : wc.heap[w.heap.size + 1 + 1]? = some (.cells #[v5] 86 (0, 0))
def X3 : Obj := .cells #[.int .i64 0] 3 (0, 0)
def X29 : Obj := .cells #[.int .i64 0] 86 (0, 0)
section
variable {w wc w2 : World} {v0 v1 v2 v3 v4 v5 : Value}
theorem PS.step {g : Nat} (h : PS w wc v0 v1 v2 v3 v4 v5) (hK : Kbt wc w2 g none) (hg : w.heap.size + 1 + 1 < g) : PS w w2 v0 v1 v2 v3 v4 v5 :=
 ⟨hK.blk h.z (by omega) (by simp), hK.blk h.a (by omega) (by simp), hK.blk h.e (by omega) (by simp)⟩
theorem PS.drewN (h : PS w wc v0 v1 v2 v3 v4 v5) (m : Nat) : PS w (wc.drewN m) v0 v1 v2 v3 v4 v5 := h.step (kdrN (Kbt.refl _ (w.heap.size + 3) _) m) (by omega)
theorem PS.alloc (h : PS w wc v0 v1 v2 v3 v4 v5) (x : Obj) : PS w (wc.alloc x) v0 v1 v2 v3 v4 v5 := h.step (kal (Kbt.refl _ (w.heap.size + 3) _) x) (by omega)
theorem PS.lt (h : PS w wc v0 v1 v2 v3 v4 v5) : w.heap.size + 1 + 1 < wc.heap.size := blk_lt h.e
theorem PS.first (w : World) : PS w (((w.alloc Z25).alloc X3).alloc X29) (.int .i64 0) (.string ⟨#[]⟩) (.slice none 0 0) (.slice none 0 0) (.int .i64 0) (.int .i64 0) :=
 ⟨blk_alloc (blk_alloc (blk_new _ _) _) _, blk_alloc (by have := blk_new (w.alloc Z25) X3; rw [show (w.alloc Z25).heap.size = w.heap.size + 1 by simp] at this; exact this) _, by have := blk_new ((w.alloc Z25).alloc X3) X29; rw [show ((w.alloc Z25).alloc X3).heap.size = w.heap.size + 1 + 1 by simp] at this; exact this⟩
theorem PS.cells (h : PS w wc v0 v1 v2 v3 v4 v5) : (wc.cell? ⟨w.heap.size, 0, none⟩ = some v0 ∧ wc.cell? ⟨w.heap.size, 1, none⟩ = some v1 ∧ wc.cell? ⟨w.heap.size, 2, none⟩ = some v2 ∧ wc.cell? ⟨w.heap.size, 3, none⟩ = some v3) ∧
  (wc.frozen? ⟨w.heap.size, 0, none⟩ = false ∧ wc.frozen? ⟨w.heap.size, 1, none⟩ = false ∧ wc.frozen? ⟨w.heap.size, 2, none⟩ = false ∧ wc.frozen? ⟨w.heap.size, 3, none⟩ = false) ∧
  wc.cell? ⟨w.heap.size + 1, 0, none⟩ = some v4 ∧ wc.cell? ⟨w.heap.size + 1 + 1, 0, none⟩ = some v5 ∧ wc.frozen? ⟨w.heap.size + 1, 0, none⟩ = false ∧ wc.frozen? ⟨w.heap.size + 1 + 1, 0, none⟩ = false :=
 ⟨blk4 h.z, ⟨bfz h.z 0, bfz h.z 1, bfz h.z 2, bfz h.z 3⟩, (bceq h.a 0).trans rfl, (bceq h.e 0).trans rfl, bfz h.a 0, bfz h.e 0⟩
theorem PS.stored (h : PS w wc v0 v1 v2 v3 v4 v5) (u0 u1 u2 u3 u4 u5 : Value) : PS w ((((((wc.setCell ⟨w.heap.size, 0, none⟩ u0).setCell ⟨w.heap.size, 1, none⟩ u1).setCell ⟨w.heap.size, 2, none⟩ u2).setCell ⟨w.heap.size, 3, none⟩ u3).setCell ⟨w.heap.size + 1, 0, none⟩ u4).setCell ⟨w.heap.size + 1 + 1, 0, none⟩ u5) u0 u1 u2 u3 u4 u5 := by
 have step : ∀ (W : World) (j : Nat) (a : Value) (cs : Array Value), W.heap[w.heap.size]? = some (.cells cs 27 (0, 0)) → W.heap[w.heap.size + 1]? = some (.cells #[v4] 3 (0, 0)) → W.heap[w.heap.size + 1 + 1]? = some (.cells #[v5] 86 (0, 0)) →
   (W.setCell ⟨w.heap.size, j, none⟩ a).heap[w.heap.size]? = some (.cells (cs.setIfInBounds j a) 27 (0, 0)) ∧ (W.setCell ⟨w.heap.size, j, none⟩ a).heap[w.heap.size + 1]? = some (.cells #[v4] 3 (0, 0)) ∧ (W.setCell ⟨w.heap.size, j, none⟩ a).heap[w.heap.size + 1 + 1]? = some (.cells #[v5] 86 (0, 0)) := fun W j a cs h1 h2 h3 =>
  ⟨blk_set h1 j a, blk_far h2 (p := ⟨w.heap.size, j, none⟩) (by show w.heap.size + 1 ≠ w.heap.size; omega) a, blk_far h3 (p := ⟨w.heap.size, j, none⟩) (by show w.heap.size + 1 + 1 ≠ w.heap.size; omega) a⟩
 obtain ⟨a1, a2, a3⟩ := step wc 0 u0 _ h.z h.a h.e;generalize wc.setCell ⟨w.heap.size, 0, none⟩ u0 = W0 at a1 a2 a3 ⊢;obtain ⟨b1, b2, b3⟩ := step W0 1 u1 _ a1 a2 a3;generalize W0.setCell ⟨w.heap.size, 1, none⟩ u1 = W1 at b1 b2 b3 ⊢;obtain ⟨c1, c2, c3⟩ := step W1 2 u2 _ b1 b2 b3;generalize W1.setCell ⟨w.heap.size, 2, none⟩ u2 = W2 at c1 c2 c3 ⊢;obtain ⟨d1, d2, d3⟩ := step W2 3 u3 _ c1 c2 c3;generalize W2.setCell ⟨w.heap.size, 3, none⟩ u3 = W3 at d1 d2 d3 ⊢;have e1 := blk_far d1 (p := ⟨w.heap.size + 1, 0, none⟩) (by show w.heap.size ≠ w.heap.size + 1; omega) u4;have e2 := blk_set d2 0 u4;have e3 := blk_far d3 (p := ⟨w.heap.size + 1, 0, none⟩) (by show w.heap.size + 1 + 1 ≠ w.heap.size + 1; omega) u4;generalize W3.setCell ⟨w.heap.size + 1, 0, none⟩ u4 = W4 at e1 e2 e3 ⊢;exact ⟨blk_far e1 (p := ⟨w.heap.size + 1 + 1, 0, none⟩) (by show w.heap.size ≠ w.heap.size + 1 + 1; omega) u5, blk_far e2 (p := ⟨w.heap.size + 1 + 1, 0, none⟩) (by show w.heap.size + 1 ≠ w.heap.size + 1 + 1; omega) u5, blk_set e3 0 u5⟩
theorem below_put (h : Below w.heap.size w wc) (i j : Nat) (hi : w.heap.size ≤ i) (u : Value) : Below w.heap.size w (wc.setCell ⟨i, j, none⟩ u) := Below.setCell (p := ⟨i, j, none⟩) h hi u
theorem below_stored (h : Below w.heap.size w wc) (u0 u1 u2 u3 u4 u5 : Value) : Below w.heap.size w ((((((wc.setCell ⟨w.heap.size, 0, none⟩ u0).setCell ⟨w.heap.size, 1, none⟩ u1).setCell ⟨w.heap.size, 2, none⟩ u2).setCell ⟨w.heap.size, 3, none⟩ u3).setCell ⟨w.heap.size + 1, 0, none⟩ u4).setCell ⟨w.heap.size + 1 + 1, 0, none⟩ u5) :=
 below_put (below_put (below_put (below_put (below_put (below_put h _ 0 (Nat.le_refl _) u0) _ 1 (Nat.le_refl _) u1) _ 2 (Nat.le_refl _) u2) _ 3 (Nat.le_refl _) u3) _ 0 (by omega) u4) _ 0 (by omega) u5
end
theorem below_first (w : World) : Below w.heap.size w (((w.alloc Z25).alloc X3).alloc X29) := bal (bal (bal (Below.refl _ _) _) _) _
set_option maxRecDepth 100000 in
set_option maxHeartbeats 3200000 in
theorem parse_utf {A : Option Addr} {c : Nat} {b : List Int} {w : World} {k : Nat} {x e : Int} (hr : Kd.C (Kd.int .u8) w A b.length b) (hc : b.length ≤ c) (h : utf_Valid.f k b = some (x, e)) (he : ¬ e = 0) :
  Calls Tryd.prog 39 #[.slice A b.length c] w fun en w' => en = .returned (.tuple #[.agg #[.int .i64 0, .string ⟨#[]⟩, .slice none 0 0, .slice none 0 0], .int .i64 x, .int .i64 e]) ∧ Below w.heap.size w w' := by
 have hmf : ∀ (fn : Fn) (first cap : Array Value) (w : World), (Instr.makeFunc fn first cap).run Tryd.prog w = .ok (.func fn first cap) w := fun _ _ _ _ => rfl
 have hU := utf_Valid.calls k A c b x e (((w.alloc Z25).alloc X3).alloc X29) (Kd.C_below hr (below_first w)) hc h
 have hP := PS.first w
 have he' : (e == 0) = false := by simpa using he
 have hF := fun m => (hP.drewN m).cells
 have hG := Lib.hid (fun m => And.intro ((hP.drewN m).stored (.int .i64 0) (.string ⟨#[]⟩) (.slice none 0 0) (.slice none 0 0) (.int .i64 x) (.int .i64 e)) (below_stored (pbdN (below_first w) m) (.int .i64 0) (.string ⟨#[]⟩) (.slice none 0 0) (.slice none 0 0) (.int .i64 x) (.int .i64 e)));clear hP h
 go_enter_defers Tryd.func39, Tryd.ntmps39
 go_wp2_with (go_at_call 56; refine hU.mono ?_; rintro en w1 ⟨rfl, ⟨m, rfl⟩⟩; obtain ⟨⟨z0, z1, z2, z3⟩, ⟨y0, y1, y2, y3⟩, a0, e0, a1, e1⟩ := hF m);obtain ⟨hP, hB⟩ := hG.out m;clear hG hF;generalize World.setCell _ _ _ = wf at hP hB ⊢;obtain ⟨⟨c0, c1, c2, c3⟩, _, c4, c5, _, _⟩ := hP.cells;refine ⟨.tuple #[.agg #[.int .i64 0, .string ⟨#[]⟩, .slice none 0 0, .slice none 0 0], .int .i64 x, .int .i64 e], ?_, rfl, hB⟩
 simp [results, Tryd.results39, go_sem, c0, c1, c2, c3, c4, c5]
def parsed (b : List Int) (k : Nat) : Option (Js.Out Js.Val) := match Js.value b k 0 (Js.blank b 0) with
 | none => none
 | some (.no x e) => some (.no x e)
 | some (.ok v q) => if Js.blank b q < b.length then some (.no (Js.blank b q) 12) else some (.ok v 0)
set_option maxRecDepth 100000 in
set_option maxHeartbeats 3200000 in
theorem parse_no {A : Option Addr} {c : Nat} {b : List Int} {w : World} {k y e : Nat} (hr : Kd.C (Kd.int .u8) w A b.length b) (hc : b.length ≤ c) (hb : Bytes b) (hsm : b.length ≤ 100000000000) (h : utf_Valid.f k b = some (0, 0)) (hv : Js.value b k 0 (Js.blank b 0) = some (.no y e)) :
  Calls Tryd.prog 39 #[.slice A b.length c] w fun en w' => en = .returned (.tuple #[.agg #[.int .i64 0, .string ⟨#[]⟩, .slice none 0 0, .slice none 0 0], .int .i64 y, .int .i64 e]) ∧ Below w.heap.size w w' := by
 have hmf : ∀ (fn : Fn) (first cap : Array Value) (w : World), (Instr.makeFunc fn first cap).run Tryd.prog w = .ok (.func fn first cap) w := fun _ _ _ _ => rfl
 have hU := utf_Valid.calls k A c b 0 0 (((w.alloc Z25).alloc X3).alloc X29) (Kd.C_below hr (below_first w)) hc h
 have hP := PS.first w
 have hR : ∀ m, RS w (w.heap.size + 1 + 1 + 1) A c b (((((w.alloc Z25).alloc X3).alloc X29).drewN m).alloc (.cells #[.slice A b.length c, .int .i64 0, .int .i64 0] 113 (0, 0))) ((0 : Nat) : Int) 0 := fun m =>
  ⟨by have := blk_new ((((w.alloc Z25).alloc X3).alloc X29).drewN m) (.cells #[.slice A b.length c, .int .i64 0, .int .i64 0] 113 (0, 0)); rw [show ((((w.alloc Z25).alloc X3).alloc X29).drewN m).heap.size = w.heap.size + 1 + 1 + 1 by simp] at this; exact this, by omega, hr, bal (pbdN (below_first w) m) _, hsm⟩
 have hbl := Js.blank_le (b := b) (p := 0) (Nat.zero_le _)
 have hV := fun W hW => value_calls k w (w.heap.size + 1 + 1 + 1) A c b W (Js.blank b 0) 0 _ hb hW hbl.2 hc (by omega) hv
 have hB0 := fun m => blank_calls 0 (hR m)
 clear h hv;generalize Js.blank b 0 = q0 at hV hbl hB0
 go_enter_defers Tryd.func39, Tryd.ntmps39
 go_wp2_with (go_at_call 56; refine hU.mono ?_; rintro en w1 ⟨rfl, ⟨m, rfl⟩⟩);go_wp2_with (first | (go_at_call 58; refine (hB0 m).mono ?_; rintro en w2 ⟨rfl, hS2, hK2⟩) | (go_at_call 59; refine (hV _ hS2).mono ?_; rintro en w3 ⟨rfl, hB3, hK3⟩));have hP3 := (((hP.drewN m).alloc _).step hK2 (by omega)).step hK3 (by omega);refine leaves_cons (f := 57) (args := #[.pointer (some ⟨w.heap.size, 0, none⟩), .pointer (some ⟨w.heap.size + 1, 0, none⟩), .pointer (some ⟨w.heap.size + 1 + 1, 0, none⟩)]) (by simp) (by simp [go_sem]) ?_;refine (catch_panicking (B := w.heap.size) y e [] hP3.z hP3.a hP3.e).mono ?_;rintro en u' w4 ⟨rfl, rfl, hB4, hz, ha, hE⟩
 have hP4 : PS w w4 _ _ _ _ _ _ := ⟨hz, ha, hE⟩
 obtain ⟨⟨c0, c1, c2, c3⟩, _, c4, c5, _, _⟩ := hP4.cells;refine ⟨.tuple #[.agg #[.int .i64 0, .string ⟨#[]⟩, .slice none 0 0, .slice none 0 0], .int .i64 y, .int .i64 e], ?_, rfl, hB3.trans hB4⟩
 simp [results, Tryd.results39, go_sem, c0, c1, c2, c3, c4, c5]
theorem PS.put25 {w wc : World} {v0 v1 v2 v3 v4 v5 : Value} (h : PS w wc v0 v1 v2 v3 v4 v5) (u0 u1 u2 u3 : Value) : PS w ((((wc.setCell ⟨w.heap.size, 0, none⟩ u0).setCell ⟨w.heap.size, 1, none⟩ u1).setCell ⟨w.heap.size, 2, none⟩ u2).setCell ⟨w.heap.size, 3, none⟩ u3) u0 u1 u2 u3 v4 v5 := by
 have step : ∀ (W : World) (j : Nat) (a : Value) (cs : Array Value), W.heap[w.heap.size]? = some (.cells cs 27 (0, 0)) → W.heap[w.heap.size + 1]? = some (.cells #[v4] 3 (0, 0)) → W.heap[w.heap.size + 1 + 1]? = some (.cells #[v5] 86 (0, 0)) →
   (W.setCell ⟨w.heap.size, j, none⟩ a).heap[w.heap.size]? = some (.cells (cs.setIfInBounds j a) 27 (0, 0)) ∧ (W.setCell ⟨w.heap.size, j, none⟩ a).heap[w.heap.size + 1]? = some (.cells #[v4] 3 (0, 0)) ∧ (W.setCell ⟨w.heap.size, j, none⟩ a).heap[w.heap.size + 1 + 1]? = some (.cells #[v5] 86 (0, 0)) := fun W j a cs h1 h2 h3 =>
  ⟨blk_set h1 j a, blk_far h2 (p := ⟨w.heap.size, j, none⟩) (by show w.heap.size + 1 ≠ w.heap.size; omega) a, blk_far h3 (p := ⟨w.heap.size, j, none⟩) (by show w.heap.size + 1 + 1 ≠ w.heap.size; omega) a⟩
 obtain ⟨a1, a2, a3⟩ := step wc 0 u0 _ h.z h.a h.e;generalize wc.setCell ⟨w.heap.size, 0, none⟩ u0 = W0 at a1 a2 a3 ⊢;obtain ⟨b1, b2, b3⟩ := step W0 1 u1 _ a1 a2 a3;generalize W0.setCell ⟨w.heap.size, 1, none⟩ u1 = W1 at b1 b2 b3 ⊢;obtain ⟨c1, c2, c3⟩ := step W1 2 u2 _ b1 b2 b3;generalize W1.setCell ⟨w.heap.size, 2, none⟩ u2 = W2 at c1 c2 c3 ⊢;obtain ⟨d1, d2, d3⟩ := step W2 3 u3 _ c1 c2 c3;exact ⟨d1, d2, d3⟩
theorem RS.put25 {w wc : World} {g : Nat} {A : Option Addr} {c : Nat} {b : List Int} {p d : Int} (h : RS w g A c b wc p d) (hg : w.heap.size < g) (u0 u1 u2 u3 : Value) : RS w g A c b ((((wc.setCell ⟨w.heap.size, 0, none⟩ u0).setCell ⟨w.heap.size, 1, none⟩ u1).setCell ⟨w.heap.size, 2, none⟩ u2).setCell ⟨w.heap.size, 3, none⟩ u3) p d := by
 have step : ∀ (W : World) (j : Nat) (u : Value), RS w g A c b W p d → RS w g A c b (W.setCell ⟨w.heap.size, j, none⟩ u) p d := fun W j u hW => hW.far (q := ⟨w.heap.size, j, none⟩) (by show g ≠ w.heap.size; omega) (Nat.le_refl _) u
 exact step _ _ _ (step _ _ _ (step _ _ _ (step _ _ _ h)))
structure VR (wc : World) (n0 : Nat) (v : Js.Val) (v2 v3 : Value) : Prop where
 r2 : Kd.string.R 9 wc n0 (fun _ => True) v2 (toS v).f2
 r3 : k27.R 27 wc n0 (fun k => some k ≠ v2.ownBlock) v3 (toS v).f3
section
variable {wc w2 : World} {n0 : Nat} {v : Js.Val} {v2 v3 : Value}
theorem VR.set (h : VR wc n0 v v2 v3) (i j : Nat) (hi : i < n0) (u : Value) : VR (wc.setCell ⟨i, j, none⟩ u) n0 v v2 v3 :=
  ⟨Kd.R_mono (Kd.R_far (p := ⟨i, j, none⟩) (Kd.R_bound h.r2) (fun k hk => by have h2 := hk.2.1; show k ≠ i; omega) u) (fun _ _ => trivial),
   Kd.R_mono (Kd.R_far (p := ⟨i, j, none⟩) (Kd.R_bound h.r3) (fun k hk => by have h2 := hk.2.1; show k ≠ i; omega) u) (fun _ hk => hk.1)⟩
theorem VR.keep (h : VR wc n0 v v2 v3) {g : Nat} (hK : Kbt wc w2 g none) (hg : g < n0) : VR w2 n0 v v2 v3 :=
 ⟨Kd.R_mono (Kd.R_keep (Kd.R_bound h.r2) hK (fun k hk => by have := hk.2.1; omega)) (fun _ _ => trivial), Kd.R_mono (Kd.R_keep (Kd.R_bound h.r3) hK (fun k hk => by have := hk.2.1; omega)) (fun _ hk => hk.1)⟩
theorem VR.below (h : VR wc n0 v v2 v3) (hB : Below wc.heap.size wc w2) : VR w2 n0 v v2 v3 := ⟨Kd.R_below h.r2 hB, Kd.R_below h.r3 hB⟩
theorem VR.lower (h : VR wc n0 v v2 v3) {n1 : Nat} (hn : n1 ≤ n0) : VR wc n1 v v2 v3 := ⟨Kd.R_lower h.r2 hn, Kd.R_lower h.r3 hn⟩
theorem VVal.vr {u : Value} (h : VVal n0 wc v u) : ∃ (A2 : Option Addr) (n2 c2 : Nat) (A3 : Option Addr) (n3 c3 : Nat), u = .agg #[.int .i64 (toS v).f0, .string (toS v).f1, .slice A2 n2 c2, .slice A3 n3 c3] ∧ VR wc n0 v (.slice A2 n2 c2) (.slice A3 n3 c3) := by
 obtain ⟨x0, x1, v2, v3, rfl, hM, hR⟩ := h;obtain ⟨u2, u3, he, h2, h3⟩ := k27_openM hM;simp only [List.cons.injEq, and_true] at he;obtain ⟨e0, e1, rfl, rfl⟩ := he;obtain ⟨A2, c2, rfl⟩ := Kd.R_slice h2;obtain ⟨A3, c3, rfl⟩ := Kd.R_slice h3;rw [e0, e1];exact ⟨_, _, _, _, _, _, rfl, h2, hR⟩
end
set_option maxRecDepth 100000 in
set_option maxHeartbeats 3200000 in
theorem parse_more {A : Option Addr} {c : Nat} {b : List Int} {w : World} {k r : Nat} {v : Js.Val} (hr : Kd.C (Kd.int .u8) w A b.length b) (hc : b.length ≤ c) (hb : Bytes b) (hsm : b.length ≤ 100000000000) (h : utf_Valid.f k b = some (0, 0)) (hv : Js.value b k 0 (Js.blank b 0) = some (.ok v r)) (hq : Js.blank b r < b.length) :
  Calls Tryd.prog 39 #[.slice A b.length c] w fun en w' => en = .returned (.tuple #[.agg #[.int .i64 0, .string ⟨#[]⟩, .slice none 0 0, .slice none 0 0], .int .i64 (Js.blank b r), .int .i64 12]) ∧ Below w.heap.size w w' := by
 have hmf : ∀ (fn : Fn) (first cap : Array Value) (w : World), (Instr.makeFunc fn first cap).run Tryd.prog w = .ok (.func fn first cap) w := fun _ _ _ _ => rfl
 have hU := utf_Valid.calls k A c b 0 0 (((w.alloc Z25).alloc X3).alloc X29) (Kd.C_below hr (below_first w)) hc h
 have hP := PS.first w
 have hR : ∀ m, RS w (w.heap.size + 1 + 1 + 1) A c b (((((w.alloc Z25).alloc X3).alloc X29).drewN m).alloc (.cells #[.slice A b.length c, .int .i64 0, .int .i64 0] 113 (0, 0))) ((0 : Nat) : Int) 0 := fun m =>
  ⟨by have := blk_new ((((w.alloc Z25).alloc X3).alloc X29).drewN m) (.cells #[.slice A b.length c, .int .i64 0, .int .i64 0] 113 (0, 0)); rw [show ((((w.alloc Z25).alloc X3).alloc X29).drewN m).heap.size = w.heap.size + 1 + 1 + 1 by simp] at this; exact this, by omega, hr, bal (pbdN (below_first w) m) _, hsm⟩
 have hbl := Js.blank_le (b := b) (p := 0) (Nat.zero_le _)
 have hV := fun W hW => value_calls k w (w.heap.size + 1 + 1 + 1) A c b W (Js.blank b 0) 0 _ hb hW hbl.2 hc (by omega) hv
 have hB0 := fun m => blank_calls 0 (hR m)
 have hBr : ∀ W, RS w (w.heap.size + 1 + 1 + 1) A c b W (r : Int) 0 → Calls Tryd.prog 58 #[.pointer (some ⟨w.heap.size + 1 + 1 + 1, 0, none⟩)] W (fun e w' => e = .returned (.tuple #[]) ∧ RS w (w.heap.size + 1 + 1 + 1) A c b w' (Js.blank b r) 0 ∧ Kbt W w' (w.heap.size + 1 + 1 + 1) none) := fun W h => blank_calls r h
 clear h hv;generalize Js.blank b 0 = q0 at hV hbl hB0;generalize Js.blank b r = q1 at hBr hq ⊢
 have hq' : (q1 : Int) < (b.length : Int) := by omega
 go_enter_defers Tryd.func39, Tryd.ntmps39
 go_wp2_with (go_at_call 56; refine hU.mono ?_; rintro en w1 ⟨rfl, ⟨m, rfl⟩⟩);go_wp2_with (first | (go_at_call 58; refine (hB0 m).mono ?_; rintro en w2 ⟨rfl, hS2, hK2⟩) | (go_at_call 59; refine (hV _ hS2).mono ?_; rintro en w3 ⟨u, rfl, hVV, hS3, hK3⟩; obtain ⟨A2, n2, c2, A3, n3, c3, rfl, hVR⟩ := hVV.vr; have hP3 := (((hP.drewN m).alloc _).step hK2 (by omega)).step hK3 (by omega); obtain ⟨⟨z0, z1, z2, z3⟩, ⟨y0, y1, y2, y3⟩, _, _, _, _⟩ := hP3.cells));have hP4 := hP3.put25 (.int .i64 (toS v).f0) (.string (toS v).f1) (.slice A2 n2 c2) (.slice A3 n3 c3);have hS4 := hS3.put25 (by omega) (.int .i64 (toS v).f0) (.string (toS v).f1) (.slice A2 n2 c2) (.slice A3 n3 c3);go_wp2_with (first | (go_at_call 58; refine (hBr _ hS4).mono ?_; rintro en w5 ⟨rfl, hS5, hK5⟩; have g5 := hS5.c1) | (go_at_call 60; refine (fail_calls 12 hS5).mono ?_; rintro en w6 ⟨rfl, rfl⟩));have hP5 := hP4.step hK5 (by omega);have hB5 := hS5.bel;refine leaves_cons (f := 57) (args := #[.pointer (some ⟨w.heap.size, 0, none⟩), .pointer (some ⟨w.heap.size + 1, 0, none⟩), .pointer (some ⟨w.heap.size + 1 + 1, 0, none⟩)]) (by simp) (by simp [go_sem]) ?_;refine (catch_panicking (B := w.heap.size) q1 12 [] hP5.z hP5.a hP5.e).mono ?_;rintro en u' w7 ⟨rfl, rfl, hB7, hz, ha, hE⟩
 have hP7 : PS w w7 _ _ _ _ _ _ := ⟨hz, ha, hE⟩
 obtain ⟨⟨d0, d1, d2, d3⟩, _, d4, d5, _, _⟩ := hP7.cells;refine ⟨.tuple #[.agg #[.int .i64 0, .string ⟨#[]⟩, .slice none 0 0, .slice none 0 0], .int .i64 q1, .int .i64 12], ?_, rfl, hB5.trans hB7⟩
 simp [results, Tryd.results39, go_sem, d0, d1, d2, d3, d4, d5]
set_option maxRecDepth 100000 in
set_option maxHeartbeats 3200000 in
theorem parse_ok {A : Option Addr} {c : Nat} {b : List Int} {w : World} {k r : Nat} {v : Js.Val} (hr : Kd.C (Kd.int .u8) w A b.length b) (hc : b.length ≤ c) (hb : Bytes b) (hsm : b.length ≤ 100000000000) (h : utf_Valid.f k b = some (0, 0)) (hv : Js.value b k 0 (Js.blank b 0) = some (.ok v r)) (hq : ¬ Js.blank b r < b.length) :
  Calls Tryd.prog 39 #[.slice A b.length c] w fun en w' => ∃ v2 v3 : Value, en = .returned (.tuple #[.agg #[.int .i64 (toS v).f0, .string (toS v).f1, v2, v3], .int .i64 0, .int .i64 0]) ∧ VR w' w.heap.size v v2 v3 ∧ Below w.heap.size w w' := by
 have hmf : ∀ (fn : Fn) (first cap : Array Value) (w : World), (Instr.makeFunc fn first cap).run Tryd.prog w = .ok (.func fn first cap) w := fun _ _ _ _ => rfl
 have hU := utf_Valid.calls k A c b 0 0 (((w.alloc Z25).alloc X3).alloc X29) (Kd.C_below hr (below_first w)) hc h
 have hP := PS.first w
 have hR : ∀ m, RS w (w.heap.size + 1 + 1 + 1) A c b (((((w.alloc Z25).alloc X3).alloc X29).drewN m).alloc (.cells #[.slice A b.length c, .int .i64 0, .int .i64 0] 113 (0, 0))) ((0 : Nat) : Int) 0 := fun m =>
  ⟨by have := blk_new ((((w.alloc Z25).alloc X3).alloc X29).drewN m) (.cells #[.slice A b.length c, .int .i64 0, .int .i64 0] 113 (0, 0)); rw [show ((((w.alloc Z25).alloc X3).alloc X29).drewN m).heap.size = w.heap.size + 1 + 1 + 1 by simp] at this; exact this, by omega, hr, bal (pbdN (below_first w) m) _, hsm⟩
 have hbl := Js.blank_le (b := b) (p := 0) (Nat.zero_le _)
 have hV := fun W hW => value_calls k w (w.heap.size + 1 + 1 + 1) A c b W (Js.blank b 0) 0 _ hb hW hbl.2 hc (by omega) hv
 have hB0 := fun m => blank_calls 0 (hR m)
 have hBr : ∀ W, RS w (w.heap.size + 1 + 1 + 1) A c b W (r : Int) 0 → Calls Tryd.prog 58 #[.pointer (some ⟨w.heap.size + 1 + 1 + 1, 0, none⟩)] W (fun e w' => e = .returned (.tuple #[]) ∧ RS w (w.heap.size + 1 + 1 + 1) A c b w' (Js.blank b r) 0 ∧ Kbt W w' (w.heap.size + 1 + 1 + 1) none) := fun W h => blank_calls r h
 clear h hv;generalize Js.blank b 0 = q0 at hV hbl hB0;generalize Js.blank b r = q1 at hBr hq
 have hq' : ¬ (q1 : Int) < (b.length : Int) := by omega
 go_enter_defers Tryd.func39, Tryd.ntmps39
 go_wp2_with (go_at_call 56; refine hU.mono ?_; rintro en w1 ⟨rfl, ⟨m, rfl⟩⟩);go_wp2_with (first | (go_at_call 58; refine (hB0 m).mono ?_; rintro en w2 ⟨rfl, hS2, hK2⟩) | (go_at_call 59; refine (hV _ hS2).mono ?_; rintro en w3 ⟨u, rfl, hVV, hS3, hK3⟩; obtain ⟨A2, n2, c2, A3, n3, c3, rfl, hVR⟩ := hVV.vr; have hP3 := (((hP.drewN m).alloc _).step hK2 (by omega)).step hK3 (by omega); obtain ⟨⟨z0, z1, z2, z3⟩, ⟨y0, y1, y2, y3⟩, _, _, _, _⟩ := hP3.cells));have hP4 := hP3.put25 (.int .i64 (toS v).f0) (.string (toS v).f1) (.slice A2 n2 c2) (.slice A3 n3 c3);have hS4 := hS3.put25 (by omega) (.int .i64 (toS v).f0) (.string (toS v).f1) (.slice A2 n2 c2) (.slice A3 n3 c3)
 have hn0 : w.heap.size + 1 + 1 + 1 < w2.heap.size := by have := hS2.lt; omega
 have hR4 := (((hVR.set w.heap.size 0 (by omega) (.int .i64 (toS v).f0)).set w.heap.size 1 (by omega) (.string (toS v).f1)).set w.heap.size 2 (by omega) (.slice A2 n2 c2)).set w.heap.size 3 (by omega) (.slice A3 n3 c3);go_wp2_with (first | (go_at_call 58; refine (hBr _ hS4).mono ?_; rintro en w5 ⟨rfl, hS5, hK5⟩; have g5 := hS5.c1; have hP5 := hP4.step hK5 (by omega); obtain ⟨⟨a0, a1, a2, a3⟩, ⟨b0, b1, b2, b3⟩, e0, e1, e2, e3⟩ := hP5.cells; have hG := Lib.hid (And.intro (hP5.stored (.int .i64 (toS v).f0) (.string (toS v).f1) (.slice A2 n2 c2) (.slice A3 n3 c3) (.int .i64 0) (.int .i64 0)) (And.intro (below_stored hS5.bel (.int .i64 (toS v).f0) (.string (toS v).f1) (.slice A2 n2 c2) (.slice A3 n3 c3) (.int .i64 0) (.int .i64 0)) ((((((((hR4.keep hK5 hn0).set w.heap.size 0 (by omega) (.int .i64 (toS v).f0)).set w.heap.size 1 (by omega) (.string (toS v).f1)).set w.heap.size 2 (by omega) (.slice A2 n2 c2)).set w.heap.size 3 (by omega) (.slice A3 n3 c3)).set (w.heap.size + 1) 0 (by omega) (.int .i64 0)).set (w.heap.size + 1 + 1) 0 (by omega) (.int .i64 0)))))));obtain ⟨hP6, hB6, hV6⟩ := hG.out;clear hG;generalize World.setCell _ _ _ = w6 at hP6 hB6 hV6 ⊢;refine leaves_cons (f := 57) (args := #[.pointer (some ⟨w.heap.size, 0, none⟩), .pointer (some ⟨w.heap.size + 1, 0, none⟩), .pointer (some ⟨w.heap.size + 1 + 1, 0, none⟩)]) (by simp) (by simp [go_sem]) ?_;refine (catch_idle _ _ _ _).mono ?_;rintro en u' w7 ⟨rfl, rfl, hB7⟩;have hl6 := hP6.lt
 have hP7 : PS w w7 _ _ _ _ _ _ := ⟨(hB7.block _ (by omega)).trans hP6.z, (hB7.block _ (by omega)).trans hP6.a, (hB7.block _ (by omega)).trans hP6.e⟩
 obtain ⟨⟨d0, d1, d2, d3⟩, _, d4, d5, _, _⟩ := hP7.cells;refine ⟨.tuple #[.agg #[.int .i64 (toS v).f0, .string (toS v).f1, .slice A2 n2 c2, .slice A3 n3 c3], .int .i64 0, .int .i64 0], ?_, _, _, rfl, (hV6.below hB7).lower (by omega), hB6.trans (hB7.mono (by omega))⟩
 simp [results, Tryd.results39, go_sem, d0, d1, d2, d3, d4, d5]
end Go.Proofs.YteighppcdpaekaaDoor.Rd
end
section
namespace Go.Proofs.YteighppcdpaekaaDoor.P
open Go.RowKit Go.Proofs.YteighppcdpaekaaDoorW.PrintWords Go.Proofs.YteighppcdpaekaaDoorW.PrintLast Go.Proofs.YteighppcdpaekaaDoorW.PrintMore
attribute [local go_sem] max2_int min2_int max_two min_two max_three min_three max_four min_four
set_option linter.unusedVariables false
set_option linter.unusedSimpArgs false
def json_Parse.okb (l0 : List Int) : Bool := l0.all (fun x => decide (0 ≤ x) && decide (x ≤ 255)) && decide (l0.length ≤ 100000000000)
def json_Parse.res : Js.Out Js.Val → Int × ByteArray × List ByteArray × (List S27) × Int × Int
 | .no x e => (0, ⟨#[]⟩, [], [], x, e)
 | .ok v _ => ((Rd.toS v).f0, (Rd.toS v).f1, (Rd.toS v).f2, (Rd.toS v).f3, 0, 0)
def json_Parse.f (k : Nat) (l0 : List Int) : Option (Int × ByteArray × List ByteArray × (List S27) × Int × Int) :=
 if json_Parse.okb l0 = true then (match utf_Valid.f k l0 with
  | none => none
  | some t => if t.2 = 0 then (if t.1 = 0 then (match Rd.parsed l0 k with
   | none => none
   | some o => some (json_Parse.res o)) else none) else some (0, ⟨#[]⟩, [], [], t.1, t.2)) else none
theorem json_Parse.calls (k : Nat) (A0 : Option Addr) (c0 : Nat) (l0 : List Int) (r1 : Int) (r2 : ByteArray) (r3 : List ByteArray) (r4 : List S27) (r5 r6 : Int) (w : World) (hr0 : Kd.C (Kd.int .u8) w A0 l0.length l0) (hc0 : l0.length ≤ c0) (h : json_Parse.f k l0 = some (r1, r2, r3, r4, r5, r6)) :
  Calls Tryd.prog 39 #[.slice A0 l0.length c0] w fun e w' => ∃ v2_ v3_ : Value, e = .returned (.tuple #[.agg #[.int .i64 r1, .string r2, v2_, v3_], .int .i64 r5, .int .i64 r6]) ∧ Kd.R Kd.string 9 w' w.heap.size (fun _ => True) v2_ r3 ∧ Kd.R k27 27 w' w.heap.size (fun k_ => some k_ ≠ (v2_ : Value).ownBlock) v3_ r4 ∧ Below w.heap.size w w' := by
 unfold json_Parse.f at h
 split at h
 ·rename_i hb
  have hbb : Rd.Bytes l0 ∧ l0.length ≤ 100000000000 := by
   unfold json_Parse.okb at hb;simp only [Bool.and_eq_true, List.all_eq_true, decide_eq_true_eq] at hb;exact ⟨fun x hx => hb.1 x hx, hb.2⟩
  cases hu : utf_Valid.f k l0 with
  | none => simp [hu] at h
  | some t =>
   obtain ⟨t1, t2⟩ := t;rw [hu] at h;simp only at h
   split at h
   ·rename_i h2
    split at h
    ·rename_i h1
     subst h1;subst h2
     cases hp : Rd.parsed l0 k with
     | none => simp [hp] at h
     | some o =>
      rw [hp] at h;simp only [Option.some.injEq] at h;unfold Rd.parsed at hp
      cases hv : Js.value l0 k 0 (Js.blank l0 0) with
      | none => simp [hv] at hp
      | some ov =>
       rw [hv] at hp
       cases ov with
       | no y e =>
        obtain rfl : Js.Out.no y e = o := Option.some.inj hp;simp only [json_Parse.res, Prod.mk.injEq] at h;obtain ⟨rfl, rfl, rfl, rfl, rfl, rfl⟩ := h;refine (Rd.parse_no hr0 hc0 hbb.1 hbb.2 hu hv).mono ?_;rintro en w' ⟨rfl, hB⟩;exact ⟨_, _, rfl, Kd.R_nil _ _ _ _ _, Kd.R_nil _ _ _ _ _, hB⟩
       | ok v r =>
        simp only at hp
        split at hp
        ·rename_i hq
         obtain rfl := Option.some.inj hp;simp only [json_Parse.res, Prod.mk.injEq] at h;obtain ⟨rfl, rfl, rfl, rfl, rfl, rfl⟩ := h;refine (Rd.parse_more hr0 hc0 hbb.1 hbb.2 hu hv hq).mono ?_;rintro en w' ⟨rfl, hB⟩;exact ⟨_, _, rfl, Kd.R_nil _ _ _ _ _, Kd.R_nil _ _ _ _ _, hB⟩
        ·rename_i hq
         obtain rfl := Option.some.inj hp;simp only [json_Parse.res, Prod.mk.injEq] at h;obtain ⟨rfl, rfl, rfl, rfl, rfl, rfl⟩ := h;refine (Rd.parse_ok hr0 hc0 hbb.1 hbb.2 hu hv hq).mono ?_;rintro en w' ⟨v2, v3, rfl, hV, hB⟩;exact ⟨v2, v3, rfl, hV.r2, hV.r3, hB⟩
    ·cases h
   ·rename_i h2
    simp only [Option.some.injEq, Prod.mk.injEq] at h;obtain ⟨rfl, rfl, rfl, rfl, rfl, rfl⟩ := h;refine (Rd.parse_utf hr0 hc0 hu h2).mono ?_;rintro en w' ⟨rfl, hB⟩;exact ⟨_, _, rfl, Kd.R_nil _ _ _ _ _, Kd.R_nil _ _ _ _ _, hB⟩
 ·cases h
end Go.Proofs.YteighppcdpaekaaDoor.P
end
