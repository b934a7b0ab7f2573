/- Walks and words of this session, put together by a program of this session (pack.py). Conditions: as each text says. -/
import Derived.Lib.Hide
import Derived.Test.YteighppcdpaekaaDoorK2
set_option linter.unusedVariables false
set_option linter.unusedSimpArgs false
section
namespace Go.Proofs.YteighppcdpaekaaDoor.P
open Go.RowKit Go.Proofs.YteighppcdpaekaaDoorW.PrintWords Go.Proofs.YteighppcdpaekaaDoorW.PrintLast Go.Proofs.YteighppcdpaekaaDoorW.PrintMore
attribute [local go_sem] max2_int min2_int max_two min_two max_three min_three max_four min_four
set_option linter.unusedVariables false
set_option linter.unusedSimpArgs false
theorem F_lit {α : Type} {d : Kd α} {W : World} {b : Nat} {c : List Value} {e : Nat} {x : α} {ok : Nat → Prop} (hb : W.heap[b]? = some (.cells c.toArray e (0, 0))) (hK : Kd.FK d W ok x c) : Kd.F d W (fun k => k = b ∨ ok k) (some ⟨b, 0, none⟩) 1 [x] := fun W' hW => by
 refine ⟨rfl, by decide, fun _ => ⟨_, rfl, fun j p hj => ?_⟩⟩
 obtain ⟨rfl, rfl⟩ : j = 0 ∧ p = x := by
  rcases j with _ | j
  ·simp at hj; exact ⟨rfl, hj.symm⟩
  ·simp at hj
 have hK' := hK W' (fun k hk hlt => hW k (.inr hk) hlt)
 refine ⟨c, d.K_len hK', hK', fun i u hu => ?_⟩
 have hblk := (hW b (.inl rfl) (blk_lt hb)).trans hb
 have ha : (⟨b, 0, none⟩ : Addr).add (0 * d.sz + i) = ⟨b, i, none⟩ := by
  rw [Nat.zero_mul, Nat.zero_add]
  unfold Addr.add
  split
  ·rename_i h0; rw [h0]
  ·simp
 rw [ha, blk_cell hblk i]
 simpa using hu
structure MS (w : World) (P0_ : Nat → Prop) (wc : World) (kv lv kv1 lv1 : Value) (ks : List ByteArray) (ls : List S27) : Prop where
 bel : Below w.heap.size w wc
 zb : wc.heap[w.heap.size]? = some (.cells #[.int .i64 0, .string ⟨#[]⟩, .slice none 0 0, .slice none 0 0] 27 (0, 0))
 vb : wc.heap[w.heap.size + 1]? = some (.cells #[.int .i64 6, .string ⟨#[]⟩, kv1, lv1] 27 (0, 0))
 own2 : Kd.R Kd.string 9 wc (w.heap.size + 2) (fun _ => True) kv ks
 own : Kd.N k27 27 wc (w.heap.size + 2) (fun k => (P0_ k ∧ k < w.heap.size ∨ w.heap.size + 2 ≤ k) ∧ some k ≠ kv.ownBlock) lv ls
section
variable {w : World} {P0_ : Nat → Prop} {wc w2 : World} {kv lv kv1 lv1 v1 : Value} {ks : List ByteArray} {ls : List S27}
theorem MS.step (h : MS w P0_ wc kv lv kv1 lv1 ks ls) (hb : Below wc.heap.size wc w2) : MS w P0_ w2 kv lv kv1 lv1 ks ls :=
 ⟨below_step h.bel hb, (hb.block _ (blk_lt h.zb)).trans h.zb, (hb.block _ (blk_lt h.vb)).trans h.vb, Kd.R_below h.own2 hb, Kd.N_below h.own hb⟩
theorem MS.alloc (h : MS w P0_ wc kv lv kv1 lv1 ks ls) (x : Obj) : MS w P0_ (wc.alloc x) kv lv kv1 lv1 ks ls := h.step (below_alloc (Below.refl _ _) x)
theorem MS.drew (h : MS w P0_ wc kv lv kv1 lv1 ks ls) : MS w P0_ wc.drew kv lv kv1 lv1 ks ls := h.step (below_drew (Below.refl _ _))
theorem MS.appK (h : MS w P0_ wc kv lv kv1 lv1 ks ls) {key : ByteArray} (hR : Kd.R Kd.string 9 w2 (w.heap.size + 2) (fun _ => True) v1 (ks ++ [key])) (hg : wc.grownBy w2 kv.ownBlock) (hat : v1.ownBlock = kv.ownBlock ∨ ∃ b, v1.ownBlock = some b ∧ wc.heap.size ≤ b) :
  MS w P0_ w2 v1 lv kv1 lv1 (ks ++ [key]) ls := by
 have hne : ∀ i, i < w.heap.size + 2 → some i ≠ kv.ownBlock := fun i hi e => by have := Kd.R_base h.own2 i e.symm; omega
 have h1 := blk_lt h.vb
 refine ⟨h.bel.grown hg (by omega) (fun k hk => by have := Kd.R_base h.own2 k hk; omega), blk_grown h.zb hg (hne _ (by omega)), blk_grown h.vb hg (hne _ (by omega)), hR, Kd.N_after h.own hg hat⟩
theorem MS.appL (h : MS w P0_ wc kv lv kv1 lv1 ks ls) {v : S27} (hR : Kd.N k27 27 w2 (w.heap.size + 2) (fun k => (P0_ k ∧ k < w.heap.size ∨ w.heap.size + 2 ≤ k) ∧ some k ≠ kv.ownBlock) v1 (ls ++ [v])) (hg : wc.grownBy w2 lv.ownBlock) :
  MS w P0_ w2 kv v1 kv1 lv1 ks (ls ++ [v]) := by
 have hne : ∀ i, i < w.heap.size + 2 → some i ≠ lv.ownBlock := fun i hi e => by have := Kd.N_base h.own i e.symm; omega
 have h1 := blk_lt h.vb
 refine ⟨h.bel.grown hg (by omega) (fun k hk => by have := Kd.N_base h.own k hk; omega), blk_grown h.zb hg (hne _ (by omega)), blk_grown h.vb hg (hne _ (by omega)), ?_, hR⟩
 exact Kd.R_mono (Kd.R_grown (Kd.R_tight rfl h.own2) hg (fun k hk e => (h.own.1 k e.symm).2 hk)) (fun _ _ => trivial)
theorem MS.setK (h : MS w P0_ wc kv lv kv1 lv1 ks ls) (x : Value) : MS w P0_ (wc.setCell ⟨w.heap.size + 1, 2, none⟩ x) kv lv x lv1 ks ls := by
 have h1 := blk_lt h.vb
 refine ⟨below_set h.bel (Nat.le_succ _), blk_far h.zb (p := ⟨w.heap.size + 1, 2, none⟩) (by show w.heap.size ≠ w.heap.size + 1; omega) x, blk_put h.vb 2 x rfl, ?_, ?_⟩
 ·exact Kd.R_mono (Kd.R_far (p := ⟨w.heap.size + 1, 2, none⟩) (Kd.R_bound h.own2) (fun k hk => by have h2 := hk.2.1; show k ≠ w.heap.size + 1; omega) x) (fun _ _ => trivial)
 ·exact Kd.N_far h.own (p := ⟨w.heap.size + 1, 2, none⟩) (fun k hk => by show k ≠ w.heap.size + 1; omega) x
theorem MS.setL (h : MS w P0_ wc kv lv kv1 lv1 ks ls) (x : Value) : MS w P0_ (wc.setCell ⟨w.heap.size + 1, 3, none⟩ x) kv lv kv1 x ks ls := by
 have h1 := blk_lt h.vb
 refine ⟨below_set h.bel (Nat.le_succ _), blk_far h.zb (p := ⟨w.heap.size + 1, 3, none⟩) (by show w.heap.size ≠ w.heap.size + 1; omega) x, blk_put h.vb 3 x rfl, ?_, ?_⟩
 ·exact Kd.R_mono (Kd.R_far (p := ⟨w.heap.size + 1, 3, none⟩) (Kd.R_bound h.own2) (fun k hk => by have h2 := hk.2.1; show k ≠ w.heap.size + 1; omega) x) (fun _ _ => trivial)
 ·exact Kd.N_far h.own (p := ⟨w.heap.size + 1, 3, none⟩) (fun k hk => by show k ≠ w.heap.size + 1; omega) x
end
theorem MS.stored {w : World} {P0_ : Nat → Prop} {wc : World} {kv lv kv1 lv1 : Value} {ks : List ByteArray} {ls : List S27} (h : MS w P0_ wc kv lv kv1 lv1 ks ls) (u0 u1 u2 u3 : Value) :
  let wf := (((wc.setCell ⟨w.heap.size, 0, none⟩ u0).setCell ⟨w.heap.size, 1, none⟩ u1).setCell ⟨w.heap.size, 2, none⟩ u2).setCell ⟨w.heap.size, 3, none⟩ u3
  wf.heap[w.heap.size]? = some (.cells #[u0, u1, u2, u3] 27 (0, 0)) ∧ Below w.heap.size w wf ∧ Kd.V Kd.string 9 wf w.heap.size (fun k => P0_ k ∨ w.heap.size ≤ k) kv ks ∧ Kd.V k27 27 wf w.heap.size (fun k => P0_ k ∨ w.heap.size ≤ k) lv ls := by
 have hst : ∀ (W : World) (j : Nat) (u : Value), Kd.R Kd.string 9 W (w.heap.size + 2) (fun _ => True) kv ks → Kd.R Kd.string 9 (W.setCell ⟨w.heap.size, j, none⟩ u) (w.heap.size + 2) (fun _ => True) kv ks := fun W j u hR =>
  Kd.R_mono (Kd.R_far (p := ⟨w.heap.size, j, none⟩) (Kd.R_bound hR) (fun k hk => by have h2 := hk.2.1; show k ≠ w.heap.size; omega) u) (fun _ _ => trivial)
 have hst2 : ∀ (W : World) (j : Nat) (u : Value), Kd.N k27 27 W (w.heap.size + 2) (fun k => (P0_ k ∧ k < w.heap.size ∨ w.heap.size + 2 ≤ k) ∧ some k ≠ kv.ownBlock) lv ls → Kd.N k27 27 (W.setCell ⟨w.heap.size, j, none⟩ u) (w.heap.size + 2) (fun k => (P0_ k ∧ k < w.heap.size ∨ w.heap.size + 2 ≤ k) ∧ some k ≠ kv.ownBlock) lv ls := fun W j u hN =>
  Kd.N_far hN (p := ⟨w.heap.size, j, none⟩) (fun k hk => by have := hk.1; show k ≠ w.heap.size; omega) u
 refine ⟨blk_put (blk_put (blk_put (blk_put h.zb 0 u0 rfl) 1 u1 rfl) 2 u2 rfl) 3 u3 rfl, below_set (below_set (below_set (below_set h.bel (Nat.le_refl _)) (Nat.le_refl _)) (Nat.le_refl _)) (Nat.le_refl _), ?_, ?_⟩
 ·exact Kd.V_mono (Kd.R_V (Kd.R_mono (Kd.R_bound (hst _ _ _ (hst _ _ _ (hst _ _ _ (hst _ _ _ h.own2))))) (ok' := fun k => w.heap.size + 2 ≤ k) (fun k hk => hk.2.1))) (fun k hk => .inr (by omega))
 ·exact Kd.V_mono (Kd.N_V (hst2 _ _ _ (hst2 _ _ _ (hst2 _ _ _ (hst2 _ _ _ h.own))))) (fun k hk => hk.1.elim (fun h => .inl h.1) (fun h => .inr (by omega)))
structure MT (w : World) (P0_ : Nat → Prop) (pb : Nat) (p0 p1 p2 p3 p4 : Value) (wc : World) (kv lv kv1 lv1 : Value) (ks : List ByteArray) (ls : List S27) : Prop where
 ms : MS w P0_ wc kv lv kv1 lv1 ks ls
 pbk : wc.heap[pb]? = some (.cells #[p0, p1, p2, p3, p4] 30 (0, 0))
 ge : w.heap.size + 2 ≤ pb
section
variable {w : World} {P0_ : Nat → Prop} {pb : Nat} {p0 p1 p2 p3 p4 : Value} {wc w2 : World} {kv lv kv1 lv1 v1 : Value} {ks : List ByteArray} {ls : List S27}
theorem MT.step (h : MT w P0_ pb p0 p1 p2 p3 p4 wc kv lv kv1 lv1 ks ls) (hb : Below wc.heap.size wc w2) : MT w P0_ pb p0 p1 p2 p3 p4 w2 kv lv kv1 lv1 ks ls :=
 ⟨h.ms.step hb, (hb.block _ (blk_lt h.pbk)).trans h.pbk, h.ge⟩
theorem MT.alloc (h : MT w P0_ pb p0 p1 p2 p3 p4 wc kv lv kv1 lv1 ks ls) (x : Obj) : MT w P0_ pb p0 p1 p2 p3 p4 (wc.alloc x) kv lv kv1 lv1 ks ls := h.step (below_alloc (Below.refl _ _) x)
theorem MT.drew (h : MT w P0_ pb p0 p1 p2 p3 p4 wc kv lv kv1 lv1 ks ls) : MT w P0_ pb p0 p1 p2 p3 p4 wc.drew kv lv kv1 lv1 ks ls := h.step (below_drew (Below.refl _ _))
theorem MT.appK (h : MT w P0_ pb p0 p1 p2 p3 p4 wc kv lv kv1 lv1 ks ls) {key : ByteArray} (hR : Kd.R Kd.string 9 w2 (w.heap.size + 2) (fun _ => True) v1 (ks ++ [key])) (hg : wc.grownBy w2 kv.ownBlock) (hat : v1.ownBlock = kv.ownBlock ∨ ∃ b, v1.ownBlock = some b ∧ wc.heap.size ≤ b) :
  MT w P0_ pb p0 p1 p2 p3 p4 w2 v1 lv kv1 lv1 (ks ++ [key]) ls :=
 ⟨h.ms.appK hR hg hat, blk_grown h.pbk hg (Kd.R_ne h.ms.own2 h.pbk (by decide)), h.ge⟩
theorem MT.appL (h : MT w P0_ pb p0 p1 p2 p3 p4 wc kv lv kv1 lv1 ks ls) {v : S27} (hR : Kd.N k27 27 w2 (w.heap.size + 2) (fun k => (P0_ k ∧ k < w.heap.size ∨ w.heap.size + 2 ≤ k) ∧ some k ≠ kv.ownBlock) v1 (ls ++ [v])) (hg : wc.grownBy w2 lv.ownBlock) :
  MT w P0_ pb p0 p1 p2 p3 p4 w2 kv v1 kv1 lv1 ks (ls ++ [v]) :=
 ⟨h.ms.appL hR hg, blk_grown h.pbk hg (Kd.N_ne h.ms.own h.pbk (by decide)), h.ge⟩
theorem MT.setK (h : MT w P0_ pb p0 p1 p2 p3 p4 wc kv lv kv1 lv1 ks ls) (x : Value) : MT w P0_ pb p0 p1 p2 p3 p4 (wc.setCell ⟨w.heap.size + 1, 2, none⟩ x) kv lv x lv1 ks ls :=
 ⟨h.ms.setK x, blk_far h.pbk (p := ⟨w.heap.size + 1, 2, none⟩) (by have := h.ge; show pb ≠ w.heap.size + 1; omega) x, h.ge⟩
theorem MT.setL (h : MT w P0_ pb p0 p1 p2 p3 p4 wc kv lv kv1 lv1 ks ls) (x : Value) : MT w P0_ pb p0 p1 p2 p3 p4 (wc.setCell ⟨w.heap.size + 1, 3, none⟩ x) kv lv kv1 x ks ls :=
 ⟨h.ms.setL x, blk_far h.pbk (p := ⟨w.heap.size + 1, 3, none⟩) (by have := h.ge; show pb ≠ w.heap.size + 1; omega) x, h.ge⟩
theorem MT.cells (h : MT w P0_ pb p0 p1 p2 p3 p4 wc kv lv kv1 lv1 ks ls) :
  (wc.cell? ⟨w.heap.size + 1, 2, none⟩ = some kv1 ∧ wc.cell? ⟨w.heap.size + 1, 3, none⟩ = some lv1) ∧ (wc.frozen? ⟨w.heap.size + 1, 2, none⟩ = false ∧ wc.frozen? ⟨w.heap.size + 1, 3, none⟩ = false) ∧
  (wc.cell? ⟨pb, 0, none⟩ = some p0 ∧ wc.cell? ⟨pb, 1, none⟩ = some p1 ∧ wc.cell? ⟨pb, 2, none⟩ = some p2 ∧ wc.cell? ⟨pb, 3, none⟩ = some p3 ∧ wc.cell? ⟨pb, 4, none⟩ = some p4) :=
 ⟨⟨blk_cell h.ms.vb 2, blk_cell h.ms.vb 3⟩, ⟨blk_frozen h.ms.vb 2, blk_frozen h.ms.vb 3⟩, blk_cell h.pbk 0, blk_cell h.pbk 1, blk_cell h.pbk 2, blk_cell h.pbk 3, blk_cell h.pbk 4⟩
theorem MT.held (h : MT w P0_ pb p0 p1 p2 p3 p4 wc kv lv kv1 lv1 ks ls) :
  wc.cell? ⟨w.heap.size + 1, 2, none⟩ = some kv1 ∧ wc.cell? ⟨w.heap.size + 1, 3, none⟩ = some lv1 ∧ wc.cell? ⟨pb, 0, none⟩ = some p0 ∧ wc.cell? ⟨pb, 1, none⟩ = some p1 ∧ wc.cell? ⟨pb, 2, none⟩ = some p2 ∧ wc.cell? ⟨pb, 3, none⟩ = some p3 ∧ wc.cell? ⟨pb, 4, none⟩ = some p4 :=
 ⟨h.cells.1.1, h.cells.1.2, h.cells.2.2⟩
theorem MT.ge2 (h : MT w P0_ pb p0 p1 p2 p3 p4 wc kv lv kv1 lv1 ks ls) : w.heap.size + 2 ≤ wc.heap.size := by have := blk_lt h.ms.vb; omega
theorem MT.okp (h : MT w P0_ pb p0 p1 p2 p3 p4 wc kv lv kv1 lv1 ks ls) : ∀ k, (P0_ k ∧ k < w.heap.size) → ((P0_ k ∧ k < w.heap.size ∨ w.heap.size + 2 ≤ k) ∧ some k ≠ kv.ownBlock) ∧ some k ≠ lv.ownBlock :=
 fun k hk => ⟨⟨.inl hk, fun e => by have := Kd.R_base h.ms.own2 k e.symm; omega⟩, fun e => by have := Kd.N_base h.ms.own k e.symm; omega⟩
theorem MT.fresh (h : MT w P0_ pb p0 p1 p2 p3 p4 wc kv lv kv1 lv1 ks ls) : ∀ k, wc.heap.size ≤ k → (P0_ k ∧ k < w.heap.size ∨ w.heap.size + 2 ≤ k) ∧ some k ≠ kv.ownBlock :=
 fun k hk => ⟨.inr (by have := h.ge2; omega), fun e => by have := Kd.R_lt h.ms.own2 k e.symm; omega⟩
theorem MT.okb (h : MT w P0_ pb p0 p1 p2 p3 p4 wc kv lv kv1 lv1 ks ls) {b : Nat} {cells : Array Value} (hb : w.heap.size + 2 ≤ b) (hc : wc.heap[b]? = some (.cells cells 27 (0, 0))) (hl : some b ≠ lv.ownBlock) :
  ∀ k, (k = b ∨ P0_ k ∧ k < w.heap.size) → ((P0_ k ∧ k < w.heap.size ∨ w.heap.size + 2 ≤ k) ∧ some k ≠ kv.ownBlock) ∧ some k ≠ lv.ownBlock := by
 rintro k (rfl | hk)
 ·exact ⟨⟨.inr hb, Kd.R_ne h.ms.own2 hc (by decide)⟩, hl⟩
 ·exact h.okp k hk
end
def json_Made.f (l0 : List S30) : Option (Int × ByteArray × List ByteArray × (List (S27))) := if l0.length ≤ 1000000 then some (6, ⟨#[]⟩, l0.map S30.f0, l0.map S30.f1) else none
set_option linter.unusedSimpArgs false in
set_option maxHeartbeats 3200000 in
set_option maxRecDepth 100000 in
theorem json_Made.calls (P0_ : Nat → Prop) (A0 : Option Addr) (c0 : Nat) (l0 : List S30) (r1 : Int) (r2 : ByteArray) (r3 : List ByteArray) (r4 : List (S27)) (w : World) (hs0 : Kd.V k30 30 w w.heap.size (fun k_ => P0_ k_) (.slice A0 l0.length c0) l0) (h : json_Made.f l0 = some (r1, r2, r3, r4)) :
  Calls Tryd.prog 11 #[.slice A0 l0.length c0] w fun e w' => ∃ v2_ v3_ : Value, e = .returned (.agg #[.int .i64 r1, .string r2, v2_, v3_]) ∧ Kd.V Kd.string 9 w' w.heap.size (fun k_ => (P0_ k_ ∨ w.heap.size ≤ k_)) v2_ r3 ∧ Kd.V k27 27 w' w.heap.size (fun k_ => (P0_ k_ ∨ w.heap.size ≤ k_)) v3_ r4 ∧ Below w.heap.size w w' := by
 unfold json_Made.f at h
 split at h
 case isFalse => cases h
 rename_i hlen
 simp only [Option.some.injEq, Prod.mk.injEq] at h
 obtain ⟨rfl, rfl, rfl, rfl⟩ := h
 have hA0 : MS w P0_ ((w.alloc (.cells #[.int .i64 0, .string ⟨#[]⟩, .slice none 0 0, .slice none 0 0] 27)).alloc (.cells #[.int .i64 6, .string ⟨#[]⟩, .slice none 0 0, .slice none 0 0] 27)) (.slice none 0 0) (.slice none 0 0) (.slice none 0 0) (.slice none 0 0) [] [] :=
  ⟨below_alloc (below_alloc (Below.refl _ _) _) _, blk_alloc (blk_new _ _) _, by have := blk_new (w.alloc (.cells #[.int .i64 0, .string ⟨#[]⟩, .slice none 0 0, .slice none 0 0] 27)) (.cells #[.int .i64 6, .string ⟨#[]⟩, .slice none 0 0, .slice none 0 0] 27); simpa using this, Kd.R_nil _ _ _ _ _, Kd.N_nil _ _ _ _ _⟩
 have hA1 := Lib.hid hA0
 clear hA0
 go_enter Tryd.func11, Tryd.ntmps11
 go_wp2_with fail
 go_loopg [9] l0.length (fun kq v9 wc => ∃ (i : Nat) (kv lv : Value), v9 = .int .i64 i ∧ i + kq = l0.length ∧ MS w P0_ wc kv lv kv lv ((l0.map S30.f0).take i) ((l0.map S30.f1).take i))
 case atStart => exact ⟨0, _, _, rfl, by omega, hA1.out⟩
 case round =>
  obtain ⟨i, kv, lv, rfl, hik, hS⟩ := hrel
  clear hA1
  by_cases hi : i < l0.length
  ·obtain ⟨kj, rfl⟩ : ∃ kj, gk = kj + 1 := ⟨gk - 1, by omega⟩
   have hV := Kd.V_old hs0 hS.bel
   obtain ⟨ad, rfl⟩ : ∃ ad, A0 = some ad := by
    obtain ⟨ad, _, _, _, _, e, _⟩ := at_T30 (Kd.V_reads' hs0).2.2 (i : Int) (by omega) (by omega)
    exact ⟨ad, e⟩
   obtain ⟨cs, hcl, hFK, hcc⟩ := Kd.V_get hV z30 (i : Int) (by omega) (by omega)
   rw [show ((i : Int)).toNat = i from rfl] at hFK hcc
   generalize hx : l0.getD i z30 = x at hFK
   obtain ⟨A3, c3, A4, c4, rfl, l3, g3, l4, g4⟩ := k30_openF hFK
   have hcc2 : ∀ j u, [Value.string x.f0, Value.int IntKind.i64 x.f1.f0, Value.string x.f1.f1, Value.slice A3 x.f1.f2.length c3, Value.slice A4 x.f1.f3.length c4][j]? = some u → wr.cell? (ad.add (i * 5 + j)) = some u := hcc
   have hc0 : wr.cell? (ad.add (i * 5)) = some (.string x.f0) := hcc2 0 _ rfl
   have hc1 : wr.cell? ⟨(ad.add (i * 5)).block, (ad.add (i * 5)).off + 1, none⟩ = some (.int .i64 x.f1.f0) := by rw [← add_field _ _ 1 (by omega)]; exact hcc2 1 _ rfl
   have hc2 : wr.cell? ⟨(ad.add (i * 5)).block, (ad.add (i * 5)).off + 2, none⟩ = some (.string x.f1.f1) := by rw [← add_field _ _ 2 (by omega)]; exact hcc2 2 _ rfl
   have hc3 : wr.cell? ⟨(ad.add (i * 5)).block, (ad.add (i * 5)).off + 3, none⟩ = some (.slice A3 x.f1.f2.length c3) := by rw [← add_field _ _ 3 (by omega)]; exact hcc2 3 _ rfl
   have hc4 : wr.cell? ⟨(ad.add (i * 5)).block, (ad.add (i * 5)).off + 4, none⟩ = some (.slice A4 x.f1.f3.length c4) := by rw [← add_field _ _ 4 (by omega)]; exact hcc2 4 _ rfl
   clear hcc hcc2 hcl
   go_wp2_with fail
   have hT0 : MT w P0_ wr.heap.size (.string x.f0) (.int .i64 x.f1.f0) (.string x.f1.f1) (.slice A3 x.f1.f2.length c3) (.slice A4 x.f1.f3.length c4) (wr.alloc (.cells #[.string x.f0, .int .i64 x.f1.f0, .string x.f1.f1, .slice A3 x.f1.f2.length c3, .slice A4 x.f1.f3.length c4] 30)) kv lv kv lv ((l0.map S30.f0).take i) ((l0.map S30.f1).take i) :=
    ⟨hS.alloc _, blk_new _ _, by have := blk_lt hS.vb; omega⟩
   generalize hw3 : wr.alloc (.cells #[.string x.f0, .int .i64 x.f1.f0, .string x.f1.f1, .slice A3 x.f1.f2.length c3, .slice A4 x.f1.f3.length c4] 30) = w3 at hT0 ⊢
   have hb3 : Below wr.heap.size wr w3 := by rw [← hw3]; exact below_alloc (Below.refl _ _) _
   have hlt0 := blk_lt hS.vb
   have hkl : ((l0.map S30.f0).take i).length ≤ 1000000 := by simp; omega
   have hll : ((l0.map S30.f1).take i).length ≤ 1000000 := by simp; omega
   have hkx : (l0.map S30.f0).take (i + 1) = (l0.map S30.f0).take i ++ [x.f0] := by
    rw [List.take_add_one, List.getElem?_map, ← hx, List.getD_eq_getElem?_getD, List.getElem?_eq_getElem hi]; rfl
   have hlx : (l0.map S30.f1).take (i + 1) = (l0.map S30.f1).take i ++ [x.f1] := by
    rw [List.take_add_one, List.getElem?_map, ← hx, List.getD_eq_getElem?_getD, List.getElem?_eq_getElem hi]; rfl
   have hF0 : Kd.FK k27 wr (fun k => P0_ k ∧ k < w.heap.size) x.f1 [.int .i64 x.f1.f0, .string x.f1.f1, .slice A3 x.f1.f2.length c3, .slice A4 x.f1.f3.length c4] := k27_mkF wr _ x.f1 l3 g3 l4 g4
   clear hw3 hc0 hc1 hc2 hc3 hc4 hs0 hV hx hFK
   have hbd : Below wr.heap.size wr w3.drew := below_drew hb3
   have hFd : Kd.FK k27 w3.drew (fun k => P0_ k ∧ k < w.heap.size) x.f1 [.int .i64 x.f1.f0, .string x.f1.f1, .slice A3 x.f1.f2.length c3, .slice A4 x.f1.f3.length c4] := Kd.FK_below hF0 hbd
   clear hF0 hb3 hbd
   generalize wr.heap.size = pb at hT0 hlt0 ⊢
   obtain ⟨Ak, nk, ck, rfl⟩ : ∃ A n c, kv = .slice A n c := (by obtain ⟨A, c, e⟩ := Kd.R_slice hS.own2; exact ⟨_, _, _, e⟩)
   obtain ⟨Al, nl, cl, rfl⟩ : ∃ A n c, lv = .slice A n c := (by obtain ⟨A, c, e⟩ := Kd.N_slice hS.own; exact ⟨_, _, _, e⟩)
   clear hS
   generalize (l0.map S30.f0).take i = ks at hT0 hkl hkx
   generalize (l0.map S30.f1).take i = ls at hT0 hll hlx
   have hTd := hT0.drew
   have hgd := hTd.ge2
   refine start_ (n := 16) (S := fun w' => w'.cell? ⟨w.heap.size + 1, 2, none⟩ = some (.slice Ak nk ck) ∧ w'.cell? ⟨w.heap.size + 1, 3, none⟩ = some (.slice Al nl cl) ∧ w'.cell? ⟨pb, 0, none⟩ = some (.string x.f0) ∧ w'.cell? ⟨pb, 1, none⟩ = some (.int .i64 x.f1.f0) ∧ w'.cell? ⟨pb, 2, none⟩ = some (.string x.f1.f1) ∧ w'.cell? ⟨pb, 3, none⟩ = some (.slice A3 x.f1.f2.length c3) ∧ w'.cell? ⟨pb, 4, none⟩ = some (.slice A4 x.f1.f3.length c4)) (ds := [13, 15]) #[false, false, false, false, false, false, false, false, false, false, false, false, false, false, false, false] (by kernel_rfl) rfl rfl hTd.held (fun hHeld => ?_)
   refine pure_ (i := 0) (N := some 13) (v := ?_) (a' := ?_) #[true, false, false, false, false, false, false, false, false, false, false, false, false, false, false, false] rfl rfl (by kernel_rfl) (fun _ _ _ h => h) (Or.inl ⟨by rfl, ?_⟩) ?_ ?_
   rotate_left
   ·intro w'
    go_simp
    with_reducible rfl
   rotate_left
   ·simp only [Act.put, List.setIfInBounds_toArray, List.set_cons_zero, List.set_cons_succ, i64_w, i32_w]
    rfl
   refine take_ (i := 1) (N := some 14) (v := ?_) (a' := ?_) #[true, true, false, false, false, false, false, false, false, false, false, false, false, false, false, false] rfl rfl (by kernel_rfl) (fun _ _ _ h => h) (Or.inl ⟨by rfl, ?_⟩) hHeld ?_ ?_
   rotate_left
   ·rintro w' ⟨s0, s1, s2, s3, s4, s5, s6⟩
    go_simp
    with_reducible rfl
   rotate_left
   ·simp only [Act.put, List.setIfInBounds_toArray, List.set_cons_zero, List.set_cons_succ, i64_w, i32_w]
    rfl
   refine pure_ (i := 2) (N := some 15) (v := ?_) (a' := ?_) #[true, true, true, false, false, false, false, false, false, false, false, false, false, false, false, false] rfl rfl (by kernel_rfl) (fun _ _ _ h => h) (Or.inl ⟨by rfl, ?_⟩) ?_ ?_
   rotate_left
   ·intro w'
    go_simp
    with_reducible rfl
   rotate_left
   ·simp only [Act.put, List.setIfInBounds_toArray, List.set_cons_zero, List.set_cons_succ, i64_w, i32_w]
    rfl
   refine take_ (i := 3) (N := some 16) (v := ?_) (a' := ?_) #[true, true, true, true, false, false, false, false, false, false, false, false, false, false, false, false] rfl rfl (by kernel_rfl) (fun _ _ _ h => h) (Or.inl ⟨by rfl, ?_⟩) hHeld ?_ ?_
   rotate_left
   ·rintro w' ⟨s0, s1, s2, s3, s4, s5, s6⟩
    go_simp
    with_reducible rfl
   rotate_left
   ·simp only [Act.put, List.setIfInBounds_toArray, List.set_cons_zero, List.set_cons_succ, i64_w, i32_w]
    rfl
   refine pure_ (i := 6) (N := some 19) (v := ?_) (a' := ?_) #[true, true, true, true, false, false, true, false, false, false, false, false, false, false, false, false] rfl rfl (by kernel_rfl) (fun _ _ _ h => h) (Or.inl ⟨by rfl, ?_⟩) ?_ ?_
   rotate_left
   ·intro w'
    go_simp
    with_reducible rfl
   rotate_left
   ·simp only [Act.put, List.setIfInBounds_toArray, List.set_cons_zero, List.set_cons_succ, i64_w, i32_w]
    rfl
   refine take_ (i := 7) (N := some 20) (v := ?_) (a' := ?_) #[true, true, true, true, false, false, true, true, false, false, false, false, false, false, false, false] rfl rfl (by kernel_rfl) (fun _ _ _ h => h) (Or.inl ⟨by rfl, ?_⟩) hHeld ?_ ?_
   rotate_left
   ·rintro w' ⟨s0, s1, s2, s3, s4, s5, s6⟩
    go_simp
    with_reducible rfl
   rotate_left
   ·simp only [Act.put, List.setIfInBounds_toArray, List.set_cons_zero, List.set_cons_succ, i64_w, i32_w]
    rfl
   refine pure_ (i := 8) (N := some 21) (v := ?_) (a' := ?_) #[true, true, true, true, false, false, true, true, true, false, false, false, false, false, false, false] rfl rfl (by kernel_rfl) (fun _ _ _ h => h) (Or.inl ⟨by rfl, ?_⟩) ?_ ?_
   rotate_left
   ·intro w'
    go_simp
    with_reducible rfl
   rotate_left
   ·simp only [Act.put, List.setIfInBounds_toArray, List.set_cons_zero, List.set_cons_succ, i64_w, i32_w]
    rfl
   refine take_ (i := 9) (N := some 22) (v := ?_) (a' := ?_) #[true, true, true, true, false, false, true, true, true, true, false, false, false, false, false, false] rfl rfl (by kernel_rfl) (fun _ _ _ h => h) (Or.inl ⟨by rfl, ?_⟩) hHeld ?_ ?_
   rotate_left
   ·rintro w' ⟨s0, s1, s2, s3, s4, s5, s6⟩
    go_simp
    with_reducible rfl
   rotate_left
   ·simp only [Act.put, List.setIfInBounds_toArray, List.set_cons_zero, List.set_cons_succ, i64_w, i32_w]
    rfl
   refine two_ (i := 4) (j := 10) (Ni := some 17) (Nj := some 23) #[true, true, true, true, true, false, true, true, true, true, false, false, false, false, false, false] #[true, true, true, true, false, false, true, true, true, true, true, false, false, false, false, false] rfl rfl rfl rfl (by kernel_rfl) (by decide) (by decide) (fun K hK => ?_) (fun K hK => ?_)
   ·skip
    refine value_ (w1 := ?_) (v := ?_) (by rfl) rfl ?_ ?_
    rotate_left 2
    ·go_simp
     constructor
     ·rfl
     ·rfl
    refine hK.out _ _ (hTd.alloc _).held (fun hHeld => ?_)
    clear hK K
    refine norm_ (a' := ?_) ?_ ?_
    rotate_left
    ·show Act.put _ (some 17) _ = _
     simp only [Act.put, List.setIfInBounds_toArray, List.set_cons_zero, List.set_cons_succ, i64_w, i32_w]
     rfl
    refine two_ (i := 5) (j := 10) (Ni := some 18) (Nj := some 23) #[true, true, true, true, true, true, true, true, true, true, false, false, false, false, false, false] #[true, true, true, true, true, false, true, true, true, true, true, false, false, false, false, false] rfl rfl rfl rfl (by kernel_rfl) (by decide) (by decide) (fun K hK => ?_) (fun K hK => ?_)
    ·skip
     refine Kd.R_append_step Kd.string (W := w3.drew) (w0 := w3.drew) (w.heap.size + 2) (by rfl) (.tmp 14) (.tmp 17) 22 9 _ 16 rfl Tryd.underlying22 info9 rfl (by decide) (by decide) (.slice Ak nk ck) ks x.f0 [.string x.f0] (fun _ => True) (fun _ => False) (by rfl) (by first | rfl | (simp; done) | (simp; rfl)) rfl (fun k hk => hk.elim) (fun _ _ => trivial) hTd.ms.own2 (Below.refl _ _) hTd.ge2 (by omega) ?_
     intro v1 w7 hR7 hB7 hg7 hat7
     have hT7 := hTd.appK hR7 hg7 hat7
     have hF7 := Kd.FK_grown hFd hg7 (fun k hk e => by have := Kd.R_base hTd.ms.own2 k e.symm; have := hk.2; omega)
     obtain ⟨A2, n2, cp2, rfl⟩ : ∃ A n c, v1 = .slice A n c := (by obtain ⟨A, c, e⟩ := Kd.R_slice hR7; exact ⟨_, _, _, e⟩)
     refine hK.out _ _ hT7.held (fun hHeld => ?_)
     clear hK K
     refine norm_ (a' := ?_) ?_ ?_
     rotate_left
     ·show Act.put _ (some 18) _ = _
      simp only [Act.put, List.setIfInBounds_toArray, List.set_cons_zero, List.set_cons_succ, i64_w, i32_w]
      rfl
     refine pure_ (i := 12) (N := some 25) (v := ?_) (a' := ?_) #[true, true, true, true, true, true, true, true, true, true, false, false, true, false, false, false] rfl rfl (by kernel_rfl) (fun _ _ _ h => h) (Or.inl ⟨by rfl, ?_⟩) ?_ ?_
     rotate_left
     ·intro w'
      go_simp
      with_reducible rfl
     rotate_left
     ·simp only [Act.put, List.setIfInBounds_toArray, List.set_cons_zero, List.set_cons_succ, i64_w, i32_w]
      rfl
     refine one_ (i := 10) (N := some 23) #[true, true, true, true, true, true, true, true, true, true, true, false, true, false, false, false] rfl rfl (by kernel_rfl) (by decide) (fun K hK => ?_)
     refine value_ (w1 := ?_) (v := ?_) (by rfl) rfl ?_ ?_
     rotate_left 2
     ·go_simp
      constructor
      ·rfl
      ·rfl
     refine hK.out _ _ (hT7.alloc _).held (fun hHeld => ?_)
     clear hK K
     refine norm_ (a' := ?_) ?_ ?_
     rotate_left
     ·show Act.put _ (some 23) _ = _
      simp only [Act.put, List.setIfInBounds_toArray, List.set_cons_zero, List.set_cons_succ, i64_w, i32_w]
      rfl
     refine one_ (i := 11) (N := some 24) #[true, true, true, true, true, true, true, true, true, true, true, true, true, false, false, false] rfl rfl (by kernel_rfl) (by decide) (fun K hK => ?_)
     refine Kd.N_append_step k27 (W := w7) (w0 := w7) (w.heap.size + 2) (by rfl) (.tmp 20) (.tmp 23) 25 27 _ 72 rfl Tryd.underlying25 info27 rfl (by decide) (by decide) (.slice Al nl cl) ls x.f1 [.int .i64 x.f1.f0, .string x.f1.f1, .slice A3 x.f1.f2.length c3, .slice A4 x.f1.f3.length c4] (fun k => (P0_ k ∧ k < w.heap.size ∨ w.heap.size + 2 ≤ k) ∧ some k ≠ (Value.slice A2 n2 cp2).ownBlock) (fun k => P0_ k ∧ k < w.heap.size) (by rfl) (by first | rfl | (simp; done) | (simp; rfl)) hF7 hT7.okp hT7.fresh hT7.ms.own (Below.refl _ _) hT7.ge2 (by omega) ?_
     intro v2 w8 hR8 hB8 hg8 hat8
     have hT8 := hT7.appL hR8 hg8
     obtain ⟨A5, n5, cp5, rfl⟩ : ∃ A n c, v2 = .slice A n c := (by obtain ⟨A, c, e⟩ := Kd.N_slice hR8; exact ⟨_, _, _, e⟩)
     refine hK.out _ _ hT8.held (fun hHeld => ?_)
     clear hK K
     refine norm_ (a' := ?_) ?_ ?_
     rotate_left
     ·show Act.put _ (some 24) _ = _
      simp only [Act.put, List.setIfInBounds_toArray, List.set_cons_zero, List.set_cons_succ, i64_w, i32_w]
      rfl
     refine last_ (i := 13) (N := none) #[true, true, true, true, true, true, true, true, true, true, true, true, true, true, false, false] rfl rfl (by kernel_rfl) (by decide) (fun K hK => ?_)
     have hs13 := hT8.cells.1.1
     have hfs13 := hT8.cells.2.1.1
     refine skip_ (w1 := ?_) (by rfl) rfl ?_ ?_
     rotate_left
     ·go_simp
      rfl
     refine hK.out _ _ ?_
     clear hK K
     have hT9 := hT8.setK (.slice A2 n2 cp2)
     refine pure_ (i := 14) (N := some 26) (v := ?_) (a' := ?_) #[true, true, true, true, true, true, true, true, true, true, true, true, true, true, true, false] rfl rfl (by kernel_rfl) (fun _ _ _ h => h) (Or.inl ⟨by rfl, ?_⟩) ?_ ?_
     rotate_left
     ·intro w'
      go_simp
      with_reducible rfl
     rotate_left
     ·simp only [Act.put, List.setIfInBounds_toArray, List.set_cons_zero, List.set_cons_succ, i64_w, i32_w]
      rfl
     refine last_ (i := 15) (N := none) #[true, true, true, true, true, true, true, true, true, true, true, true, true, true, true, true] rfl rfl (by kernel_rfl) (by decide) (fun K hK => ?_)
     have hs15 := hT9.cells.1.2
     have hfs15 := hT9.cells.2.1.2
     refine skip_ (w1 := ?_) (by rfl) rfl ?_ ?_
     rotate_left
     ·go_simp
      rfl
     refine hK.out _ _ ?_
     clear hK K
     have hTA := hT9.setL (.slice A5 n5 cp5)
     refine done_ (by kernel_rfl) ?_
     try go_wp2
     go_roundg kj
     case measure => omega
     case rel => exact ⟨i + 1, _, _, rfl, by omega, by rw [hkx, hlx]; exact hTA.ms⟩
    ·skip
     refine value_ (w1 := ?_) (v := ?_) (by rfl) rfl ?_ ?_
     rotate_left 2
     ·go_simp
      constructor
      ·rfl
      ·rfl
     refine hK.out _ _ ((hTd.alloc _).alloc _).held (fun hHeld => ?_)
     clear hK K
     refine norm_ (a' := ?_) ?_ ?_
     rotate_left
     ·show Act.put _ (some 23) _ = _
      simp only [Act.put, List.setIfInBounds_toArray, List.set_cons_zero, List.set_cons_succ, i64_w, i32_w]
      rfl
     refine one_ (i := 5) (N := some 18) #[true, true, true, true, true, true, true, true, true, true, true, false, false, false, false, false] rfl rfl (by kernel_rfl) (by decide) (fun K hK => ?_)
     have hq9 := blk_alloc (blk_new w3.drew (.cells #[.string x.f0] 9)) (.cells #[.int .i64 x.f1.f0, .string x.f1.f1, .slice A3 x.f1.f2.length c3, .slice A4 x.f1.f3.length c4] 27)
     have hq27 := blk_new (w3.drew.alloc (.cells #[.string x.f0] 9)) (.cells #[.int .i64 x.f1.f0, .string x.f1.f1, .slice A3 x.f1.f2.length c3, .slice A4 x.f1.f3.length c4] 27)
     refine Kd.R_append_rows_step Kd.string (W := (w3.drew.alloc (.cells #[.string x.f0] 9)).alloc (.cells #[.int .i64 x.f1.f0, .string x.f1.f1, .slice A3 x.f1.f2.length c3, .slice A4 x.f1.f3.length c4] 27)) (w0 := (w3.drew.alloc (.cells #[.string x.f0] 9)).alloc (.cells #[.int .i64 x.f1.f0, .string x.f1.f1, .slice A3 x.f1.f2.length c3, .slice A4 x.f1.f3.length c4] 27)) (w.heap.size + 2) (by rfl) (.tmp 14) (.tmp 17) 22 9 _ 16 rfl Tryd.underlying22 info9 rfl (by decide) (by decide) (.slice Ak nk ck) ks [x.f0] (some ⟨w3.drew.heap.size, 0, none⟩) 1 1 (fun _ => True) (fun _ => False) (by rfl) (by first | rfl | (simp; done) | (simp; rfl)) ((hTd.alloc _).alloc _).ms.own2 (Kd.F_rows (F_lit (ok := fun _ => True) (c := [.string x.f0]) hq9 (fun _ _ => rfl))) (fun _ _ hk => Kd.FK_now hk) (fun k hk => hk.elim) (fun _ _ => trivial) (Below.refl _ _) ((hTd.alloc _).alloc _).ge2 (by omega) ?_
     intro v1 w7 hR7 hB7 hg7 hat7
     have hT7 := ((hTd.alloc _).alloc _).appK hR7 hg7 hat7
     have hF7 := Kd.FK_grown (Kd.FK_below (Kd.FK_below hFd (below_alloc (Below.refl _ _) _)) (below_alloc (Below.refl _ _) _)) hg7 (fun k hk e => by have := Kd.R_base hTd.ms.own2 k e.symm; have := hk.2; omega)
     obtain ⟨A2, n2, cp2, rfl⟩ : ∃ A n c, v1 = .slice A n c := (by obtain ⟨A, c, e⟩ := Kd.R_slice hR7; exact ⟨_, _, _, e⟩)
     have hbl := blk_grown hq27 hg7 (fun e => Kd.R_ne ((hTd.alloc _).alloc _).ms.own2 hq27 (by decide) e)
     refine hK.out _ _ hT7.held (fun hHeld => ?_)
     clear hK K
     refine norm_ (a' := ?_) ?_ ?_
     rotate_left
     ·show Act.put _ (some 18) _ = _
      simp only [Act.put, List.setIfInBounds_toArray, List.set_cons_zero, List.set_cons_succ, i64_w, i32_w]
      rfl
     refine pure_ (i := 12) (N := some 25) (v := ?_) (a' := ?_) #[true, true, true, true, true, true, true, true, true, true, true, false, true, false, false, false] rfl rfl (by kernel_rfl) (fun _ _ _ h => h) (Or.inl ⟨by rfl, ?_⟩) ?_ ?_
     rotate_left
     ·intro w'
      go_simp
      with_reducible rfl
     rotate_left
     ·simp only [Act.put, List.setIfInBounds_toArray, List.set_cons_zero, List.set_cons_succ, i64_w, i32_w]
      rfl
     refine one_ (i := 11) (N := some 24) #[true, true, true, true, true, true, true, true, true, true, true, true, true, false, false, false] rfl rfl (by kernel_rfl) (by decide) (fun K hK => ?_)
     refine Kd.N_append_rows_step k27 (W := w7) (w0 := w7) (w.heap.size + 2) (by rfl) (.tmp 20) (.tmp 23) 25 27 _ 72 rfl Tryd.underlying25 info27 rfl (by decide) (by decide) (.slice Al nl cl) ls [x.f1] (some ⟨(w3.drew.alloc (.cells #[.string x.f0] 9)).heap.size, 0, none⟩) 1 1 (fun k => (P0_ k ∧ k < w.heap.size ∨ w.heap.size + 2 ≤ k) ∧ some k ≠ (Value.slice A2 n2 cp2).ownBlock) (fun k => k = (w3.drew.alloc (.cells #[.string x.f0] 9)).heap.size ∨ (P0_ k ∧ k < w.heap.size)) (by rfl) (by first | rfl | (simp; done) | (simp; rfl)) hT7.ms.own (F_lit (c := [.int .i64 x.f1.f0, .string x.f1.f1, .slice A3 x.f1.f2.length c3, .slice A4 x.f1.f3.length c4]) hbl hF7) (hT7.okb (by have := hT0.ge2; simp; omega) hbl (fun e => by have := Kd.N_lt hTd.ms.own _ e.symm; first | (simp at this; done) | (simp at this; omega))) hT7.fresh (Below.refl _ _) hT7.ge2 (by omega) ?_
     intro v2 w8 hR8 hB8 hg8 hat8
     have hT8 := hT7.appL hR8 hg8
     obtain ⟨A5, n5, cp5, rfl⟩ : ∃ A n c, v2 = .slice A n c := (by obtain ⟨A, c, e⟩ := Kd.N_slice hR8; exact ⟨_, _, _, e⟩)
     refine hK.out _ _ hT8.held (fun hHeld => ?_)
     clear hK K
     refine norm_ (a' := ?_) ?_ ?_
     rotate_left
     ·show Act.put _ (some 24) _ = _
      simp only [Act.put, List.setIfInBounds_toArray, List.set_cons_zero, List.set_cons_succ, i64_w, i32_w]
      rfl
     refine last_ (i := 13) (N := none) #[true, true, true, true, true, true, true, true, true, true, true, true, true, true, false, false] rfl rfl (by kernel_rfl) (by decide) (fun K hK => ?_)
     have hs13 := hT8.cells.1.1
     have hfs13 := hT8.cells.2.1.1
     refine skip_ (w1 := ?_) (by rfl) rfl ?_ ?_
     rotate_left
     ·go_simp
      rfl
     refine hK.out _ _ ?_
     clear hK K
     have hT9 := hT8.setK (.slice A2 n2 cp2)
     refine pure_ (i := 14) (N := some 26) (v := ?_) (a' := ?_) #[true, true, true, true, true, true, true, true, true, true, true, true, true, true, true, false] rfl rfl (by kernel_rfl) (fun _ _ _ h => h) (Or.inl ⟨by rfl, ?_⟩) ?_ ?_
     rotate_left
     ·intro w'
      go_simp
      with_reducible rfl
     rotate_left
     ·simp only [Act.put, List.setIfInBounds_toArray, List.set_cons_zero, List.set_cons_succ, i64_w, i32_w]
      rfl
     refine last_ (i := 15) (N := none) #[true, true, true, true, true, true, true, true, true, true, true, true, true, true, true, true] rfl rfl (by kernel_rfl) (by decide) (fun K hK => ?_)
     have hs15 := hT9.cells.1.2
     have hfs15 := hT9.cells.2.1.2
     refine skip_ (w1 := ?_) (by rfl) rfl ?_ ?_
     rotate_left
     ·go_simp
      rfl
     refine hK.out _ _ ?_
     clear hK K
     have hTA := hT9.setL (.slice A5 n5 cp5)
     refine done_ (by kernel_rfl) ?_
     try go_wp2
     go_roundg kj
     case measure => omega
     case rel => exact ⟨i + 1, _, _, rfl, by omega, by rw [hkx, hlx]; exact hTA.ms⟩
   ·skip
    refine value_ (w1 := ?_) (v := ?_) (by rfl) rfl ?_ ?_
    rotate_left 2
    ·go_simp
     constructor
     ·rfl
     ·rfl
    refine hK.out _ _ (hTd.alloc _).held (fun hHeld => ?_)
    clear hK K
    refine norm_ (a' := ?_) ?_ ?_
    rotate_left
    ·show Act.put _ (some 23) _ = _
     simp only [Act.put, List.setIfInBounds_toArray, List.set_cons_zero, List.set_cons_succ, i64_w, i32_w]
     rfl
    refine one_ (i := 4) (N := some 17) #[true, true, true, true, true, false, true, true, true, true, true, false, false, false, false, false] rfl rfl (by kernel_rfl) (by decide) (fun K hK => ?_)
    refine value_ (w1 := ?_) (v := ?_) (by rfl) rfl ?_ ?_
    rotate_left 2
    ·go_simp
     constructor
     ·rfl
     ·rfl
    refine hK.out _ _ ((hTd.alloc _).alloc _).held (fun hHeld => ?_)
    clear hK K
    refine norm_ (a' := ?_) ?_ ?_
    rotate_left
    ·show Act.put _ (some 17) _ = _
     simp only [Act.put, List.setIfInBounds_toArray, List.set_cons_zero, List.set_cons_succ, i64_w, i32_w]
     rfl
    refine one_ (i := 5) (N := some 18) #[true, true, true, true, true, true, true, true, true, true, true, false, false, false, false, false] rfl rfl (by kernel_rfl) (by decide) (fun K hK => ?_)
    have hq27 := blk_new w3.drew (.cells #[.int .i64 x.f1.f0, .string x.f1.f1, .slice A3 x.f1.f2.length c3, .slice A4 x.f1.f3.length c4] 27)
    refine Kd.R_append_step Kd.string (W := w3.drew.alloc (.cells #[.int .i64 x.f1.f0, .string x.f1.f1, .slice A3 x.f1.f2.length c3, .slice A4 x.f1.f3.length c4] 27)) (w0 := w3.drew.alloc (.cells #[.int .i64 x.f1.f0, .string x.f1.f1, .slice A3 x.f1.f2.length c3, .slice A4 x.f1.f3.length c4] 27)) (w.heap.size + 2) (by rfl) (.tmp 14) (.tmp 17) 22 9 _ 16 rfl Tryd.underlying22 info9 rfl (by decide) (by decide) (.slice Ak nk ck) ks x.f0 [.string x.f0] (fun _ => True) (fun _ => False) (by rfl) (by first | rfl | (simp; done) | (simp; rfl)) rfl (fun k hk => hk.elim) (fun _ _ => trivial) (hTd.alloc _).ms.own2 (Below.refl _ _) (hTd.alloc _).ge2 (by omega) ?_
    intro v1 w7 hR7 hB7 hg7 hat7
    have hT7 := (hTd.alloc _).appK hR7 hg7 hat7
    have hF7 := Kd.FK_grown (Kd.FK_below hFd (below_alloc (Below.refl _ _) _)) hg7 (fun k hk e => by have := Kd.R_base hTd.ms.own2 k e.symm; have := hk.2; omega)
    obtain ⟨A2, n2, cp2, rfl⟩ : ∃ A n c, v1 = .slice A n c := (by obtain ⟨A, c, e⟩ := Kd.R_slice hR7; exact ⟨_, _, _, e⟩)
    have hbl := blk_grown hq27 hg7 (fun e => Kd.R_ne (hTd.alloc _).ms.own2 hq27 (by decide) e)
    refine hK.out _ _ hT7.held (fun hHeld => ?_)
    clear hK K
    refine norm_ (a' := ?_) ?_ ?_
    rotate_left
    ·show Act.put _ (some 18) _ = _
     simp only [Act.put, List.setIfInBounds_toArray, List.set_cons_zero, List.set_cons_succ, i64_w, i32_w]
     rfl
    refine pure_ (i := 12) (N := some 25) (v := ?_) (a' := ?_) #[true, true, true, true, true, true, true, true, true, true, true, false, true, false, false, false] rfl rfl (by kernel_rfl) (fun _ _ _ h => h) (Or.inl ⟨by rfl, ?_⟩) ?_ ?_
    rotate_left
    ·intro w'
     go_simp
     with_reducible rfl
    rotate_left
    ·simp only [Act.put, List.setIfInBounds_toArray, List.set_cons_zero, List.set_cons_succ, i64_w, i32_w]
     rfl
    refine one_ (i := 11) (N := some 24) #[true, true, true, true, true, true, true, true, true, true, true, true, true, false, false, false] rfl rfl (by kernel_rfl) (by decide) (fun K hK => ?_)
    refine Kd.N_append_rows_step k27 (W := w7) (w0 := w7) (w.heap.size + 2) (by rfl) (.tmp 20) (.tmp 23) 25 27 _ 72 rfl Tryd.underlying25 info27 rfl (by decide) (by decide) (.slice Al nl cl) ls [x.f1] (some ⟨w3.drew.heap.size, 0, none⟩) 1 1 (fun k => (P0_ k ∧ k < w.heap.size ∨ w.heap.size + 2 ≤ k) ∧ some k ≠ (Value.slice A2 n2 cp2).ownBlock) (fun k => k = w3.drew.heap.size ∨ (P0_ k ∧ k < w.heap.size)) (by rfl) (by first | rfl | (simp; done) | (simp; rfl)) hT7.ms.own (F_lit (c := [.int .i64 x.f1.f0, .string x.f1.f1, .slice A3 x.f1.f2.length c3, .slice A4 x.f1.f3.length c4]) hbl hF7) (hT7.okb (by have := hT0.ge2; simp; omega) hbl (fun e => by have := Kd.N_lt hTd.ms.own _ e.symm; first | (simp at this; done) | (simp at this; omega))) hT7.fresh (Below.refl _ _) hT7.ge2 (by omega) ?_
    intro v2 w8 hR8 hB8 hg8 hat8
    have hT8 := hT7.appL hR8 hg8
    obtain ⟨A5, n5, cp5, rfl⟩ : ∃ A n c, v2 = .slice A n c := (by obtain ⟨A, c, e⟩ := Kd.N_slice hR8; exact ⟨_, _, _, e⟩)
    refine hK.out _ _ hT8.held (fun hHeld => ?_)
    clear hK K
    refine norm_ (a' := ?_) ?_ ?_
    rotate_left
    ·show Act.put _ (some 24) _ = _
     simp only [Act.put, List.setIfInBounds_toArray, List.set_cons_zero, List.set_cons_succ, i64_w, i32_w]
     rfl
    refine last_ (i := 13) (N := none) #[true, true, true, true, true, true, true, true, true, true, true, true, true, true, false, false] rfl rfl (by kernel_rfl) (by decide) (fun K hK => ?_)
    have hs13 := hT8.cells.1.1
    have hfs13 := hT8.cells.2.1.1
    refine skip_ (w1 := ?_) (by rfl) rfl ?_ ?_
    rotate_left
    ·go_simp
     rfl
    refine hK.out _ _ ?_
    clear hK K
    have hT9 := hT8.setK (.slice A2 n2 cp2)
    refine pure_ (i := 14) (N := some 26) (v := ?_) (a' := ?_) #[true, true, true, true, true, true, true, true, true, true, true, true, true, true, true, false] rfl rfl (by kernel_rfl) (fun _ _ _ h => h) (Or.inl ⟨by rfl, ?_⟩) ?_ ?_
    rotate_left
    ·intro w'
     go_simp
     with_reducible rfl
    rotate_left
    ·simp only [Act.put, List.setIfInBounds_toArray, List.set_cons_zero, List.set_cons_succ, i64_w, i32_w]
     rfl
    refine last_ (i := 15) (N := none) #[true, true, true, true, true, true, true, true, true, true, true, true, true, true, true, true] rfl rfl (by kernel_rfl) (by decide) (fun K hK => ?_)
    have hs15 := hT9.cells.1.2
    have hfs15 := hT9.cells.2.1.2
    refine skip_ (w1 := ?_) (by rfl) rfl ?_ ?_
    rotate_left
    ·go_simp
     rfl
    refine hK.out _ _ ?_
    clear hK K
    have hTA := hT9.setL (.slice A5 n5 cp5)
    refine done_ (by kernel_rfl) ?_
    try go_wp2
    go_roundg kj
    case measure => omega
    case rel => exact ⟨i + 1, _, _, rfl, by omega, by rw [hkx, hlx]; exact hTA.ms⟩
  ·obtain rfl : i = l0.length := by omega
   rw [List.take_of_length_le (by simp), List.take_of_length_le (by simp)] at hS
   obtain ⟨Ak, nk, ck, rfl⟩ : ∃ A n c, kv = .slice A n c := (by obtain ⟨A, c, e⟩ := Kd.R_slice hS.own2; exact ⟨_, _, _, e⟩)
   obtain ⟨Al, nl, cl, rfl⟩ : ∃ A n c, lv = .slice A n c := (by obtain ⟨A, c, e⟩ := Kd.N_slice hS.own; exact ⟨_, _, _, e⟩)
   have z0 : wr.cell? ⟨w.heap.size + 1, 0, none⟩ = some (.int .i64 6) := blk_cell hS.vb 0
   have z1 : wr.cell? ⟨w.heap.size + 1, 1, none⟩ = some (.string ⟨#[]⟩) := blk_cell hS.vb 1
   have z2 : wr.cell? ⟨w.heap.size + 1, 2, none⟩ = some (.slice Ak nk ck) := blk_cell hS.vb 2
   have z3 : wr.cell? ⟨w.heap.size + 1, 3, none⟩ = some (.slice Al nl cl) := blk_cell hS.vb 3
   have y0 : wr.cell? ⟨w.heap.size, 0, none⟩ = some (.int .i64 0) := blk_cell hS.zb 0
   have y1 : wr.cell? ⟨w.heap.size, 1, none⟩ = some (.string ⟨#[]⟩) := blk_cell hS.zb 1
   have y2 : wr.cell? ⟨w.heap.size, 2, none⟩ = some (.slice none 0 0) := blk_cell hS.zb 2
   have y3 : wr.cell? ⟨w.heap.size, 3, none⟩ = some (.slice none 0 0) := blk_cell hS.zb 3
   have x0 := blk_frozen hS.zb 0
   have x1 := blk_frozen hS.zb 1
   have x2 := blk_frozen hS.zb 2
   have x3 := blk_frozen hS.zb 3
   have hF := Lib.hid (hS.stored (.int .i64 6) (.string ⟨#[]⟩) (.slice Ak nk ck) (.slice Al nl cl))
   go_wp2_with fail
   obtain ⟨hB, hBel, hR2, hR⟩ := hF.out
   generalize hwf : World.setCell _ _ _ = wf at hB hBel hR2 hR ⊢
   clear hwf
   refine bodyPost_ret (results_cell_row rfl _ _ w.heap.size 27 #[.int .i64 6, .string ⟨#[]⟩, .slice Ak nk ck, .slice Al nl cl] (0, 0) _ rfl hB Tryd.underlying27 rfl (by kernel_rfl)) rfl ?_
   exact ⟨_, _, rfl, hR2, hR, hBel⟩
end Go.Proofs.YteighppcdpaekaaDoor.P
end
section
namespace Go.Proofs.YteighppcdpaekaaDoor.P
open Go.RowKit Go.Proofs.YteighppcdpaekaaDoorW.PrintWords Go.Proofs.YteighppcdpaekaaDoorW.PrintLast Go.Proofs.YteighppcdpaekaaDoorW.PrintMore
attribute [local go_sem] max2_int min2_int max_two min_two max_three min_three max_four min_four
set_option linter.unusedVariables false
set_option linter.unusedSimpArgs false
def rpc_FromPos.f (a0_0 : Int) (a0_1 : Int) : Option (Int × ByteArray × List ByteArray × (List (S27))) := (json_Of.f a0_0).bind fun bt396 => ((json_Of.f a0_1).bind fun bt404 => ((json_Made.f (([(⟨(⟨#[108, 105, 110, 101]⟩ : ByteArray), (⟨bt396.1, bt396.2.1, bt396.2.2.1, bt396.2.2.2⟩ : S27)⟩ : S30), (⟨(⟨#[99, 104, 97, 114, 97, 99, 116, 101, 114]⟩ : ByteArray), (⟨bt404.1, bt404.2.1, bt404.2.2.1, bt404.2.2.2⟩ : S27)⟩ : S30)] : List (S30)))).bind fun bt415 => (some (bt415.1, bt415.2.1, bt415.2.2.1, bt415.2.2.2))))
def rpc_FromPos.T1 : Bool × List (List Nat × List Nat) := (true, [([], []), ([0], [0]), ([1], [1]), ([2], [2]), ([], []), ([4], [4]), ([5, 2], [5]), ([6], [6]), ([3, 7], [3, 7]), ([8, 6], [8]), ([9, 9, 0, 1, 2, 3, 4, 5, 6, 7, 8, 9], [9])])
def rpc_FromPos.B1 : List Nat := [0, 1, 3, 7, 0, 16, 55, 119, 255, 511, 1023]
theorem rpc_FromPos.tab1 : rtab .any (opsOf Tryd.f37 1) = rpc_FromPos.T1 := by kernel_rfl
theorem rpc_FromPos.bits1 : waitsOk rpc_FromPos.T1.2 rpc_FromPos.B1 = true := by kernel_rfl
set_option maxHeartbeats 8000000 in
set_option maxRecDepth 100000 in
theorem rpc_FromPos.calls (a0_0 : Int) (a0_1 : Int) (r1 : Int) (r2 : ByteArray) (r3 : List ByteArray) (r4 : List (S27)) (w : World) (h : rpc_FromPos.f a0_0 a0_1 = some (r1, r2, r3, r4)) (hT : TabOk w) :
  Calls Tryd.prog 37 #[.agg #[.int .i64 a0_0, .int .i64 a0_1]] w fun e w' => ∃ v2_ v3_ : Value, e = .returned (.agg #[.int .i64 r1, .string r2, v2_, v3_]) ∧ Kd.V Kd.string 9 w' w.heap.size (fun k_ => (w.heap.size ≤ k_)) v2_ r3 ∧ Kd.V k27 27 w' w.heap.size (fun k_ => (w.heap.size ≤ k_)) v3_ r4 ∧ Below w.heap.size w w' := by
 have hu57 := Tryd.underlying57
 have hu27 := Tryd.underlying27
 have hu30 := Tryd.underlying30
 have HB := Aside0.mk (Below.refl w.heap.size w)
 have H : ((json_Of.f a0_0).bind fun bt396 => ((json_Of.f a0_1).bind fun bt404 => ((json_Made.f (([(⟨(⟨#[108, 105, 110, 101]⟩ : ByteArray), (⟨bt396.1, bt396.2.1, bt396.2.2.1, bt396.2.2.2⟩ : S27)⟩ : S30), (⟨(⟨#[99, 104, 97, 114, 97, 99, 116, 101, 114]⟩ : ByteArray), (⟨bt404.1, bt404.2.1, bt404.2.2.1, bt404.2.2.2⟩ : S27)⟩ : S30)] : List (S30)))).bind fun bt415 => (some (bt415.1, bt415.2.1, bt415.2.2.1, bt415.2.2.2))))) = some (r1, r2, r3, r4) := h
 clear h
 replace H := Option.bind_eq_some_iff.mp H
 obtain ⟨⟨t396, t397, t398, t401⟩, A20, H⟩ := H
 replace H : ((json_Of.f a0_1).bind fun bt404 => ((json_Made.f (([(⟨(⟨#[108, 105, 110, 101]⟩ : ByteArray), (⟨t396, t397, t398, t401⟩ : S27)⟩ : S30), (⟨(⟨#[99, 104, 97, 114, 97, 99, 116, 101, 114]⟩ : ByteArray), (⟨bt404.1, bt404.2.1, bt404.2.2.1, bt404.2.2.2⟩ : S27)⟩ : S30)] : List (S30)))).bind fun bt415 => (some (bt415.1, bt415.2.1, bt415.2.2.1, bt415.2.2.2)))) = some (r1, r2, r3, r4) := H
 have A2 := Aside0.mk A20
 clear A20
 replace H := Option.bind_eq_some_iff.mp H
 obtain ⟨⟨t404, t405, t406, t409⟩, A30, H⟩ := H
 replace H : ((json_Made.f (([(⟨(⟨#[108, 105, 110, 101]⟩ : ByteArray), (⟨t396, t397, t398, t401⟩ : S27)⟩ : S30), (⟨(⟨#[99, 104, 97, 114, 97, 99, 116, 101, 114]⟩ : ByteArray), (⟨t404, t405, t406, t409⟩ : S27)⟩ : S30)] : List (S30)))).bind fun bt415 => (some (bt415.1, bt415.2.1, bt415.2.2.1, bt415.2.2.2))) = some (r1, r2, r3, r4) := H
 have A3 := Aside0.mk A30
 clear A30
 obtain ⟨y412, hy412⟩ : ∃ y_ : List (S30), y_ = (([(⟨(⟨#[108, 105, 110, 101]⟩ : ByteArray), (⟨t396, t397, t398, t401⟩ : S27)⟩ : S30), (⟨(⟨#[99, 104, 97, 114, 97, 99, 116, 101, 114]⟩ : ByteArray), (⟨t404, t405, t406, t409⟩ : S27)⟩ : S30)] : List (S30))) := ⟨_, rfl⟩
 replace H : ((json_Made.f y412).bind fun bt415 => (some (bt415.1, bt415.2.1, bt415.2.2.1, bt415.2.2.2))) = some (r1, r2, r3, r4) := by first | (rw [hy412]; with_reducible exact H) | (have H2_ := (Option.bind_some _ _).symm.trans H; rw [hy412]; with_reducible exact H2_) | (have H2_ := (Option.bind_some _ _).symm.trans H; with_reducible exact H2_) | with_reducible exact H | (rw [hy412]; exact H) | exact H
 have Ny412 := Aside0.mk hy412
 clear hy412
 replace H := Option.bind_eq_some_iff.mp H
 obtain ⟨⟨t415, t416, t417, t420⟩, A40, H⟩ := H
 replace H : (some (t415, t416, t417, t420)) = some (r1, r2, r3, r4) := H
 have A4 := Aside0.mk A40
 clear A40
 simp only [Option.some.injEq, Prod.mk.injEq] at H
 obtain ⟨rfl, rfl, rfl, rfl⟩ := H
 go_enter Tryd.func37, Tryd.ntmps37
 try go_wp2_with (first | ((with_reducible refine gate_dst (N := 1) rfl ?_); refine box_event ?hg (N := 1) ?hd (cs := #[.int .i64 a0_0, .int .i64 a0_1]) (t := 57) ?hr ?_; (case hd => rfl); (case hg => rfl); (case hr => first | (go_simp; done) | (go_simp; rfl)); intro gb394 hg w5 hbox hb; have n0_ := Aside0.mk (below_step (by repeat (first | (with_reducible first | exact HB.out | apply below_alloc | apply pw_below_drewN | apply below_drew1) | exact HB.out)) hb); have n1_ := Aside0.mk (hbox); have n2_ := Aside0.mk ((by rw [hg]; exact (below_size (by repeat (first | (with_reducible first | exact HB.out | apply below_alloc | apply pw_below_drewN | apply below_drew1) | exact HB.out))) : w.heap.size ≤ gb394)); have n3_ := Aside0.mk ((by rw [hg]; exact (below_size (by repeat (first | (with_reducible first | exact HB.out | apply below_alloc | apply pw_below_drewN | apply below_drew1) | exact HB.out))) : w.heap.size ≤ gb394)); clear HB; have HB := n0_; have BK394 := n1_; have GW394 := n2_; have GE394 := n3_; clear n0_ n1_ n2_ n3_; clear hb hbox hg) | ((with_reducible refine gate_dst (N := 2) rfl ?_); refine box_event ?hg (N := 2) ?hd (cs := #[.int .i64 0, .string (⟨#[]⟩ : ByteArray), .slice none 0 0, .slice none 0 0]) (t := 27) ?hr ?_; (case hd => rfl); (case hg => rfl); (case hr => first | (go_simp; done) | (go_simp; rfl)); intro gb395 hg w6 hbox hb; have n0_ := Aside0.mk (blk_below (g := gb394) (o := .cells #[.int .i64 a0_0, .int .i64 a0_1] 57 (0, 0)) (by (with_reducible repeat (first | refine blk_drewN ?_ _ | refine blk_drew ?_ | refine blk_alloc ?_ _)); exact BK394.out) hb); have n1_ := Aside0.mk (below_step (by repeat (first | (with_reducible first | exact HB.out | apply below_alloc | apply pw_below_drewN | apply below_drew1 | refine below_set ?_ GE394.out) | exact HB.out)) hb); have n2_ := Aside0.mk (hbox); have n3_ := Aside0.mk ((by rw [hg]; exact (below_size (by repeat (first | (with_reducible first | exact HB.out | apply below_alloc | apply pw_below_drewN | apply below_drew1 | refine below_set ?_ GE394.out) | exact HB.out))) : w.heap.size ≤ gb395)); have n4_ := Aside0.mk ((by rw [hg]; exact (below_size (by repeat (first | (with_reducible first | exact HB.out | apply below_alloc | apply pw_below_drewN | apply below_drew1 | refine below_set ?_ GE394.out) | exact HB.out))) : w.heap.size ≤ gb395)); have n5_ := Aside0.mk ((by rw [hg]; exact Nat.ne_of_lt (blk_lt (g := gb394) (o := .cells #[.int .i64 a0_0, .int .i64 a0_1] 57 (0, 0)) (by (with_reducible repeat (first | refine blk_drewN ?_ _ | refine blk_drew ?_ | refine blk_alloc ?_ _)); exact BK394.out)) : gb394 ≠ gb395)); have n6_ := Aside0.mk ((by rw [hg]; exact Nat.ne_of_gt (blk_lt (g := gb394) (o := .cells #[.int .i64 a0_0, .int .i64 a0_1] 57 (0, 0)) (by (with_reducible repeat (first | refine blk_drewN ?_ _ | refine blk_drew ?_ | refine blk_alloc ?_ _)); exact BK394.out)) : gb395 ≠ gb394)); clear BK394; clear HB; have BK394 := n0_; have HB := n1_; have BK395 := n2_; have GW395 := n3_; have GE395 := n4_; have NB394_395 := n5_; have NB395_394 := n6_; clear n0_ n1_ n2_ n3_ n4_ n5_ n6_; clear hb hbox hg))
 have n0_ := Aside0.mk (blk_drew BK394.out)
 have n1_ := Aside0.mk (blk_drew BK395.out)
 have n2_ := Aside0.mk (below_drew1 HB.out)
 clear BK394
 clear BK395
 clear HB
 have BK394 := n0_
 have BK395 := n1_
 have HB := n2_
 clear n0_ n1_ n2_
 refine start_ (n := 11) (S := fun w' => w'.cell? ⟨gb394, 0, none⟩ = some (.int .i64 a0_0) ∧ w'.cell? ⟨gb394, 1, none⟩ = some (.int .i64 a0_1)) (ds := []) #[false, false, false, false, false, false, false, false, false, false, false] (by kernel_rfl) rfl rfl ⟨(blk_cell BK394.out 0).trans rfl, (blk_cell BK394.out 1).trans rfl⟩ (fun hHeld => ?_); refine with_tabW rpc_FromPos.tab1 rpc_FromPos.bits1 (fun HT_ HW_ => ?_)
 generalize w6.drew = w7 at BK394 BK395 HB hHeld ⊢
 refine pure_ (i := 0) (N := some 3) (v := ?_) (a' := ?_) #[true, false, false, false, false, false, false, false, false, false, false] rfl rfl (any_of HT_.out (by kernel_rfl)) (fun _ _ _ h => h) (Or.inl ⟨by rfl, ?_⟩) ?_ ?_
 rotate_left
 ·intro w'
  go_simp
  with_reducible rfl
 rotate_left
 ·simp only [Act.put, List.setIfInBounds_toArray, List.set_cons_zero, List.set_cons_succ, i64_w, i32_w]
  rfl
 refine pure_ (i := 4) (N := some 7) (v := ?_) (a' := ?_) #[true, false, false, false, true, false, false, false, false, false, false] rfl rfl (any_of HT_.out (by kernel_rfl)) (fun _ _ _ h => h) (Or.inl ⟨by rfl, ?_⟩) ?_ ?_
 rotate_left
 ·intro w'
  go_simp
  with_reducible rfl
 rotate_left
 ·simp only [Act.put, List.setIfInBounds_toArray, List.set_cons_zero, List.set_cons_succ, i64_w, i32_w]
  rfl
 refine take_ (i := 1) (N := some 4) (v := ?_) (a' := ?_) #[true, true, false, false, true, false, false, false, false, false, false] rfl rfl (take_ofW HT_.out HW_.out (by kernel_rfl)) (fun _ _ _ h => h) (Or.inl ⟨by rfl, ?_⟩) hHeld ?_ ?_
 rotate_left
 ·rintro w' ⟨s0, s1⟩
  go_simp
  with_reducible rfl
 rotate_left
 ·simp only [Act.put, List.setIfInBounds_toArray, List.set_cons_zero, List.set_cons_succ, i64_w, i32_w]
  rfl
 refine take_ (i := 5) (N := some 8) (v := ?_) (a' := ?_) #[true, true, false, false, true, true, false, false, false, false, false] rfl rfl (take_ofW HT_.out HW_.out (by kernel_rfl)) (fun _ _ _ h => h) (Or.inl ⟨by rfl, ?_⟩) hHeld ?_ ?_
 rotate_left
 ·rintro w' ⟨s0, s1⟩
  go_simp
  with_reducible rfl
 rotate_left
 ·simp only [Act.put, List.setIfInBounds_toArray, List.set_cons_zero, List.set_cons_succ, i64_w, i32_w]
  rfl
 refine one_ (i := 2) (N := some 5) #[true, true, true, false, true, true, false, false, false, false, false] rfl rfl (one_of HT_.out (by kernel_rfl)) (by decide) (fun K hK => ?_)
 refine goes_ Tryd.func10 (by kernel_rfl) rfl #[.int .i64 a0_0] (by rfl) rfl rfl (by (try simp only [List.map_toArray, List.map_cons, List.map_nil]); first | done | rfl | (simp only [List.length_drop, List.length_take]; rfl)) ?_
 with_reducible refine (json_Of.calls a0_0 t396 t397 t398 t401 _ A2.out ?sideT).mono ?_
 (case sideT => exact hT.below (by repeat (first | (with_reducible first | exact HB.out | apply below_alloc | apply pw_below_drewN | apply below_drew1 | refine below_set ?_ GE394.out | refine below_set ?_ GE395.out) | exact HB.out)))
 rintro e w8 ⟨v399, v402, rfl, ho0, ho1, hb⟩
 refine ⟨_, rfl, ?_⟩
 have n0_ := Aside0.mk (Kd.R_lower (Kd.R_newM (M := fun k_ => (w.heap.size ≤ k_)) ho0 (below_size (by repeat (first | (with_reducible first | exact HB.out | apply below_alloc | apply pw_below_drewN | apply below_drew1 | refine below_set ?_ GE394.out | refine below_set ?_ GE395.out) | exact HB.out))) (fun k_ h_ => h_)) (below_size (by repeat (first | (with_reducible first | exact HB.out | apply below_alloc | apply pw_below_drewN | apply below_drew1 | refine below_set ?_ GE394.out | refine below_set ?_ GE395.out) | exact HB.out))))
 have n1_ := Aside0.mk (Kd.N_lower (Kd.N_mono (ok' := fun k_ => (w.heap.size ≤ k_) ∧ some k_ ≠ (v399 : Value).ownBlock ∧ k_ ≠ gb394 ∧ k_ ≠ gb395) (Kd.R_N (Kd.R_bound ho1)) (fun k_ hk_ => ⟨(Nat.le_trans (below_size (by repeat (first | (with_reducible first | exact HB.out | apply below_alloc | apply pw_below_drewN | apply below_drew1 | refine below_set ?_ GE394.out | refine below_set ?_ GE395.out) | exact HB.out))) hk_.2.1), hk_.1, (Kd.freshB (g := gb394) (o := .cells #[.int .i64 a0_0, .int .i64 a0_1] 57 (0, 0)) (by (with_reducible repeat (first | refine blk_drewN ?_ _ | refine blk_drew ?_ | refine blk_alloc ?_ _)); exact BK394.out) k_ hk_.2.1), (Kd.freshB (g := gb395) (o := .cells #[.int .i64 0, .string (⟨#[]⟩ : ByteArray), .slice none 0 0, .slice none 0 0] 27 (0, 0)) (by (with_reducible repeat (first | refine blk_drewN ?_ _ | refine blk_drew ?_ | refine blk_alloc ?_ _)); exact BK395.out) k_ hk_.2.1)⟩)) (below_size (by repeat (first | (with_reducible first | exact HB.out | apply below_alloc | apply pw_below_drewN | apply below_drew1 | refine below_set ?_ GE394.out | refine below_set ?_ GE395.out) | exact HB.out))))
 have n2_ := Aside0.mk (blk_below (g := gb394) (o := .cells #[.int .i64 a0_0, .int .i64 a0_1] 57 (0, 0)) (by (with_reducible repeat (first | refine blk_drewN ?_ _ | refine blk_drew ?_ | refine blk_alloc ?_ _)); exact BK394.out) hb)
 have n3_ := Aside0.mk (blk_below (g := gb395) (o := .cells #[.int .i64 0, .string (⟨#[]⟩ : ByteArray), .slice none 0 0, .slice none 0 0] 27 (0, 0)) (by (with_reducible repeat (first | refine blk_drewN ?_ _ | refine blk_drew ?_ | refine blk_alloc ?_ _)); exact BK395.out) hb)
 have n4_ := Aside0.mk (below_step (by repeat (first | (with_reducible first | exact HB.out | apply below_alloc | apply pw_below_drewN | apply below_drew1 | refine below_set ?_ GE394.out | refine below_set ?_ GE395.out) | exact HB.out)) hb)
 clear BK394
 clear BK395
 clear HB
 have HO400 := n0_
 have HO403 := n1_
 have BK394 := n2_
 have BK395 := n3_
 have HB := n4_
 clear n0_ n1_ n2_ n3_ n4_
 (try clear hb)
 (try clear hb2)
 (try clear hk)
 (try clear hi)
 (try clear ho0)
 (try clear ho1)
 obtain ⟨Ao9, co9, eo9⟩ := Kd.N_slice HO403.out
 (first | subst eo9 | (injection eo9 with f1_ f2_ f3_; have f4_ := f1_.symm; have f5_ := f3_.symm; clear f1_ f2_ f3_; subst f4_; subst f5_))
 obtain ⟨Ao10, co10, eo10⟩ := Kd.R_slice HO400.out
 (first | subst eo10 | (injection eo10 with f1_ f2_ f3_; have f4_ := f1_.symm; have f5_ := f3_.symm; clear f1_ f2_ f3_; subst f4_; subst f5_))
 refine hK.out _ _ ⟨(blk_cell BK394.out 0).trans rfl, (blk_cell BK394.out 1).trans rfl⟩ (fun hHeld => ?_)
 clear hK K
 refine norm_ (a' := ?_) ?_ ?_
 rotate_left
 ·show Act.put _ (some 5) _ = _
  simp only [Act.put, List.setIfInBounds_toArray, List.set_cons_zero, List.set_cons_succ, i64_w, i32_w]
  rfl
 refine pure_ (i := 3) (N := some 6) (v := ?_) (a' := ?_) #[true, true, true, true, true, true, false, false, false, false, false] rfl rfl (any_of HT_.out (by kernel_rfl)) (fun _ _ _ h => h) (Or.inl ⟨by rfl, ?_⟩) ?_ ?_
 rotate_left
 ·intro w'
  go_simp
  with_reducible rfl
 rotate_left
 ·simp only [Act.put, List.setIfInBounds_toArray, List.set_cons_zero, List.set_cons_succ, i64_w, i32_w]
  rfl
 refine one_ (i := 6) (N := some 9) #[true, true, true, true, true, true, true, false, false, false, false] rfl rfl (one_of HT_.out (by kernel_rfl)) (by decide) (fun K hK => ?_)
 refine goes_ Tryd.func10 (by kernel_rfl) rfl #[.int .i64 a0_1] (by rfl) rfl rfl (by (try simp only [List.map_toArray, List.map_cons, List.map_nil]); first | done | rfl | (simp only [List.length_drop, List.length_take]; rfl)) ?_
 with_reducible refine (json_Of.calls a0_1 t404 t405 t406 t409 _ A3.out ?sideT).mono ?_
 (case sideT => exact hT.below (by repeat (first | (with_reducible first | exact HB.out | apply below_alloc | apply pw_below_drewN | apply below_drew1 | refine below_set ?_ GE394.out | refine below_set ?_ GE395.out) | exact HB.out)))
 rintro e w11 ⟨v407, v410, rfl, ho0, ho1, hb⟩
 refine ⟨_, rfl, ?_⟩
 have n0_ := Aside0.mk (Kd.R_elder' (by (with_reducible repeat (first | apply Kd.R_alloc | apply Kd.R_drewN | apply Kd.R_drew)); exact HO400.out) (Kd.R_base ho0) hb)
 have n1_ := Aside0.mk (Kd.N_mono (Kd.N_told (Kd.N_told (Kd.N_old (by (with_reducible repeat (first | apply Kd.N_alloc | apply Kd.N_drewN | apply Kd.N_drew)); exact HO403.out) hb) (Kd.R_base ho0)) (Kd.R_base ho1)) (fun _ h_ => h_.1))
 have n2_ := Aside0.mk (Kd.R_lower (Kd.R_new' (Kd.R_newM (M := fun k_ => (w.heap.size ≤ k_)) ho0 (below_size (by repeat (first | (with_reducible first | exact HB.out | apply below_alloc | apply pw_below_drewN | apply below_drew1 | refine below_set ?_ GE394.out | refine below_set ?_ GE395.out) | exact HB.out))) (fun k_ h_ => h_)) (Kd.R_lt (by (with_reducible repeat (first | apply Kd.R_alloc | apply Kd.R_drewN | apply Kd.R_drew)); exact HO400.out))) (below_size (by repeat (first | (with_reducible first | exact HB.out | apply below_alloc | apply pw_below_drewN | apply below_drew1 | refine below_set ?_ GE394.out | refine below_set ?_ GE395.out) | exact HB.out))))
 have n3_ := Aside0.mk (Kd.N_lower (Kd.N_mono (ok' := fun k_ => (w.heap.size ≤ k_) ∧ some k_ ≠ (v407 : Value).ownBlock ∧ some k_ ≠ (.slice Ao10 t398.length co10 : Value).ownBlock ∧ some k_ ≠ (.slice Ao9 t401.length co9 : Value).ownBlock ∧ k_ ≠ gb394 ∧ k_ ≠ gb395) (Kd.R_N (Kd.R_bound ho1)) (fun k_ hk_ => ⟨(Nat.le_trans (below_size (by repeat (first | (with_reducible first | exact HB.out | apply below_alloc | apply pw_below_drewN | apply below_drew1 | refine below_set ?_ GE394.out | refine below_set ?_ GE395.out) | exact HB.out))) hk_.2.1), hk_.1, (Kd.fresh' (Kd.R_lt (by (with_reducible repeat (first | apply Kd.R_alloc | apply Kd.R_drewN | apply Kd.R_drew)); exact HO400.out)) k_ hk_.2.1), (Kd.fresh' (Kd.N_lt (by (with_reducible repeat (first | apply Kd.N_alloc | apply Kd.N_drewN | apply Kd.N_drew)); exact HO403.out)) k_ hk_.2.1), (Kd.freshB (g := gb394) (o := .cells #[.int .i64 a0_0, .int .i64 a0_1] 57 (0, 0)) (by (with_reducible repeat (first | refine blk_drewN ?_ _ | refine blk_drew ?_ | refine blk_alloc ?_ _)); exact BK394.out) k_ hk_.2.1), (Kd.freshB (g := gb395) (o := .cells #[.int .i64 0, .string (⟨#[]⟩ : ByteArray), .slice none 0 0, .slice none 0 0] 27 (0, 0)) (by (with_reducible repeat (first | refine blk_drewN ?_ _ | refine blk_drew ?_ | refine blk_alloc ?_ _)); exact BK395.out) k_ hk_.2.1)⟩)) (below_size (by repeat (first | (with_reducible first | exact HB.out | apply below_alloc | apply pw_below_drewN | apply below_drew1 | refine below_set ?_ GE394.out | refine below_set ?_ GE395.out) | exact HB.out))))
 have n4_ := Aside0.mk (blk_below (g := gb394) (o := .cells #[.int .i64 a0_0, .int .i64 a0_1] 57 (0, 0)) (by (with_reducible repeat (first | refine blk_drewN ?_ _ | refine blk_drew ?_ | refine blk_alloc ?_ _)); exact BK394.out) hb)
 have n5_ := Aside0.mk (blk_below (g := gb395) (o := .cells #[.int .i64 0, .string (⟨#[]⟩ : ByteArray), .slice none 0 0, .slice none 0 0] 27 (0, 0)) (by (with_reducible repeat (first | refine blk_drewN ?_ _ | refine blk_drew ?_ | refine blk_alloc ?_ _)); exact BK395.out) hb)
 have n6_ := Aside0.mk (below_step (by repeat (first | (with_reducible first | exact HB.out | apply below_alloc | apply pw_below_drewN | apply below_drew1 | refine below_set ?_ GE394.out | refine below_set ?_ GE395.out) | exact HB.out)) hb)
 clear HO400
 clear HO403
 clear BK394
 clear BK395
 clear HB
 have HO400 := n0_
 have HO403 := n1_
 have HO408 := n2_
 have HO411 := n3_
 have BK394 := n4_
 have BK395 := n5_
 have HB := n6_
 clear n0_ n1_ n2_ n3_ n4_ n5_ n6_
 (try clear hb)
 (try clear hb2)
 (try clear hk)
 (try clear hi)
 (try clear ho0)
 (try clear ho1)
 obtain ⟨Ao12, co12, eo12⟩ := Kd.N_slice HO411.out
 (first | subst eo12 | (injection eo12 with f1_ f2_ f3_; have f4_ := f1_.symm; have f5_ := f3_.symm; clear f1_ f2_ f3_; subst f4_; subst f5_))
 obtain ⟨Ao13, co13, eo13⟩ := Kd.R_slice HO408.out
 (first | subst eo13 | (injection eo13 with f1_ f2_ f3_; have f4_ := f1_.symm; have f5_ := f3_.symm; clear f1_ f2_ f3_; subst f4_; subst f5_))
 refine hK.out _ _ ⟨(blk_cell BK394.out 0).trans rfl, (blk_cell BK394.out 1).trans rfl⟩ (fun hHeld => ?_)
 clear hK K
 refine norm_ (a' := ?_) ?_ ?_
 rotate_left
 ·show Act.put _ (some 9) _ = _
  simp only [Act.put, List.setIfInBounds_toArray, List.set_cons_zero, List.set_cons_succ, i64_w, i32_w]
  rfl
 refine pure_ (i := 7) (N := some 10) (v := ?_) (a' := ?_) #[true, true, true, true, true, true, true, true, false, false, false] rfl rfl (any_of HT_.out (by kernel_rfl)) (fun _ _ _ h => h) (Or.inl ⟨by rfl, ?_⟩) ?_ ?_
 rotate_left
 ·intro w'
  go_simp
  with_reducible rfl
 rotate_left
 ·simp only [Act.put, List.setIfInBounds_toArray, List.set_cons_zero, List.set_cons_succ, i64_w, i32_w]
  rfl
 refine one_ (i := 8) (N := some 11) #[true, true, true, true, true, true, true, true, true, false, false] rfl rfl (one_of HT_.out (by kernel_rfl)) (by decide) (fun K hK => ?_)
 refine Kd.N_lit_step k30 _ 30 ?hg (N' := 11) ?hd (xs := ([(⟨(⟨#[108, 105, 110, 101]⟩ : ByteArray), (⟨t396, t397, t398, t401⟩ : S27)⟩ : S30), (⟨(⟨#[99, 104, 97, 114, 97, 99, 116, 101, 114]⟩ : ByteArray), (⟨t404, t405, t406, t409⟩ : S27)⟩ : S30)] : List (S30))) (inner := [.string (⟨#[108, 105, 110, 101]⟩ : ByteArray), .int .i64 t396, .string t397, .slice Ao10 t398.length co10, .slice Ao9 t401.length co9, .string (⟨#[99, 104, 97, 114, 97, 99, 116, 101, 114]⟩ : ByteArray), .int .i64 t404, .string t405, .slice Ao13 t406.length co13, .slice Ao12 t409.length co12]) (ok := (fun k_ => (w.heap.size ≤ k_) ∧ k_ ≠ gb394 ∧ k_ ≠ gb395)) (okp := (fun k_ => (w.heap.size ≤ k_) ∧ k_ ≠ gb394 ∧ k_ ≠ gb395)) ?hr ?hp (fun _ hk => hk) ((show ∀ k_, w11.heap.size ≤ k_ → (fun k_ => (w.heap.size ≤ k_) ∧ k_ ≠ gb394 ∧ k_ ≠ gb395) k_ from fun k_ hk => ⟨(Nat.le_trans (below_size (by repeat (first | (with_reducible first | exact HB.out | apply below_alloc | apply pw_below_drewN | apply below_drew1 | refine below_set ?_ GE394.out | refine below_set ?_ GE395.out) | exact HB.out))) hk), Kd.freshB (g := gb394) (o := .cells #[.int .i64 a0_0, .int .i64 a0_1] 57 (0, 0)) (by (with_reducible repeat (first | refine blk_drewN ?_ _ | refine blk_drew ?_ | refine blk_alloc ?_ _)); exact BK394.out) k_ hk, Kd.freshB (g := gb395) (o := .cells #[.int .i64 0, .string (⟨#[]⟩ : ByteArray), .slice none 0 0, .slice none 0 0] 27 (0, 0)) (by (with_reducible repeat (first | refine blk_drewN ?_ _ | refine blk_drew ?_ | refine blk_alloc ?_ _)); exact BK395.out) k_ hk⟩) _ (Nat.le_refl _)) (Below.refl _ _) (Nat.le_refl _) (by simp) ?_; (case hd => rfl); (case hg => rfl); (case hr => first | (go_simp; done) | (go_simp; rfl)); (case hp => exact (Reps.c5 (show Kd.FK k30 _ _ (⟨(⟨#[108, 105, 110, 101]⟩ : ByteArray), (⟨t396, t397, t398, t401⟩ : S27)⟩ : S30) [.string (⟨#[108, 105, 110, 101]⟩ : ByteArray), .int .i64 t396, .string t397, .slice Ao10 t398.length co10, .slice Ao9 t401.length co9] from (k30_mkF _ _ (⟨(⟨#[108, 105, 110, 101]⟩ : ByteArray), (⟨t396, t397, t398, t401⟩ : S27)⟩ : S30) (Kd.R_reads' (Kd.R_mono (ok' := (fun k_ => (w.heap.size ≤ k_) ∧ k_ ≠ gb394 ∧ k_ ≠ gb395)) (Kd.R_types (Kd.R_types (HO400.out) BK394.out (by decide)) BK395.out (by decide)) (fun k_ hk => ⟨hk.1.1.1.1, ⟨hk.1.2, hk.2⟩⟩))).2.1 (Kd.R_F (Kd.R_mono (ok' := (fun k_ => (w.heap.size ≤ k_) ∧ k_ ≠ gb394 ∧ k_ ≠ gb395)) (Kd.R_types (Kd.R_types (HO400.out) BK394.out (by decide)) BK395.out (by decide)) (fun k_ hk => ⟨hk.1.1.1.1, ⟨hk.1.2, hk.2⟩⟩))) (Kd.N_reads' (Kd.N_mono (ok' := (fun k_ => (w.heap.size ≤ k_) ∧ k_ ≠ gb394 ∧ k_ ≠ gb395)) (HO403.out) (fun k_ hk => ⟨hk.1.1.1, ⟨hk.1.1.2.2.1, hk.1.1.2.2.2⟩⟩))).2.1 (Kd.N_F (Kd.N_mono (ok' := (fun k_ => (w.heap.size ≤ k_) ∧ k_ ≠ gb394 ∧ k_ ≠ gb395)) (HO403.out) (fun k_ hk => ⟨hk.1.1.1, ⟨hk.1.1.2.2.1, hk.1.1.2.2.2⟩⟩))))) (Reps.c5 (show Kd.FK k30 _ _ (⟨(⟨#[99, 104, 97, 114, 97, 99, 116, 101, 114]⟩ : ByteArray), (⟨t404, t405, t406, t409⟩ : S27)⟩ : S30) [.string (⟨#[99, 104, 97, 114, 97, 99, 116, 101, 114]⟩ : ByteArray), .int .i64 t404, .string t405, .slice Ao13 t406.length co13, .slice Ao12 t409.length co12] from (k30_mkF _ _ (⟨(⟨#[99, 104, 97, 114, 97, 99, 116, 101, 114]⟩ : ByteArray), (⟨t404, t405, t406, t409⟩ : S27)⟩ : S30) (Kd.R_reads' (Kd.R_mono (ok' := (fun k_ => (w.heap.size ≤ k_) ∧ k_ ≠ gb394 ∧ k_ ≠ gb395)) (Kd.R_types (Kd.R_types (HO408.out) BK394.out (by decide)) BK395.out (by decide)) (fun k_ hk => ⟨hk.1.1.1.1, ⟨hk.1.2, hk.2⟩⟩))).2.1 (Kd.R_F (Kd.R_mono (ok' := (fun k_ => (w.heap.size ≤ k_) ∧ k_ ≠ gb394 ∧ k_ ≠ gb395)) (Kd.R_types (Kd.R_types (HO408.out) BK394.out (by decide)) BK395.out (by decide)) (fun k_ hk => ⟨hk.1.1.1.1, ⟨hk.1.2, hk.2⟩⟩))) (Kd.N_reads' (Kd.N_mono (ok' := (fun k_ => (w.heap.size ≤ k_) ∧ k_ ≠ gb394 ∧ k_ ≠ gb395)) (HO411.out) (fun k_ hk => ⟨hk.1, ⟨hk.2.2.2.2.1, hk.2.2.2.2.2⟩⟩))).2.1 (Kd.N_F (Kd.N_mono (ok' := (fun k_ => (w.heap.size ≤ k_) ∧ k_ ≠ gb394 ∧ k_ ≠ gb395)) (HO411.out) (fun k_ hk => ⟨hk.1, ⟨hk.2.2.2.2.1, hk.2.2.2.2.2⟩⟩))))) (Reps.none _ _))))
 intro v413 w14 ho15 hb hg_ hnew_
 clear hg_ hnew_
 (first | rw [← Ny412.out] at ho15 | (simp only [Int.reduceToNat] at ho15; rw [← Ny412.out] at ho15))
 have n0_ := Aside0.mk (Kd.N_lower ho15 (below_size (by repeat (first | (with_reducible first | exact HB.out | apply below_alloc | apply pw_below_drewN | apply below_drew1 | refine below_set ?_ GE394.out | refine below_set ?_ GE395.out) | exact HB.out))))
 have n1_ := Aside0.mk (blk_below (g := gb394) (o := .cells #[.int .i64 a0_0, .int .i64 a0_1] 57 (0, 0)) (by (with_reducible repeat (first | refine blk_drewN ?_ _ | refine blk_drew ?_ | refine blk_alloc ?_ _)); exact BK394.out) hb)
 have n2_ := Aside0.mk (blk_below (g := gb395) (o := .cells #[.int .i64 0, .string (⟨#[]⟩ : ByteArray), .slice none 0 0, .slice none 0 0] 27 (0, 0)) (by (with_reducible repeat (first | refine blk_drewN ?_ _ | refine blk_drew ?_ | refine blk_alloc ?_ _)); exact BK395.out) hb)
 have n3_ := Aside0.mk (below_step (by repeat (first | (with_reducible first | exact HB.out | apply below_alloc | apply pw_below_drewN | apply below_drew1 | refine below_set ?_ GE394.out | refine below_set ?_ GE395.out) | exact HB.out)) hb)
 clear BK394
 clear BK395
 clear HB
 clear HO400
 clear HO403
 clear HO408
 clear HO411
 have HO414 := n0_
 have BK394 := n1_
 have BK395 := n2_
 have HB := n3_
 clear n0_ n1_ n2_ n3_
 clear hb ho15
 obtain ⟨Ao16, co16, eo16⟩ := Kd.N_slice HO414.out
 (first | subst eo16 | (injection eo16 with f1_ f2_ f3_; have f4_ := f1_.symm; have f5_ := f3_.symm; clear f1_ f2_ f3_; subst f4_; subst f5_))
 refine hK.out _ _ ⟨(blk_cell BK394.out 0).trans rfl, (blk_cell BK394.out 1).trans rfl⟩ (fun hHeld => ?_)
 clear hK K
 refine norm_ (a' := ?_) ?_ ?_
 rotate_left
 ·show Act.put _ (some 11) _ = _
  simp only [Act.put, List.setIfInBounds_toArray, List.set_cons_zero, List.set_cons_succ, i64_w, i32_w]
  rfl
 refine one_ (i := 9) (N := some 12) #[true, true, true, true, true, true, true, true, true, true, false] rfl rfl (one_of HT_.out (by kernel_rfl)) (by decide) (fun K hK => ?_)
 refine goes_ Tryd.func11 (by kernel_rfl) rfl #[.slice Ao16 y412.length co16] (by rfl) rfl rfl (by (try simp only [List.map_toArray, List.map_cons, List.map_nil]); first | done | rfl | (simp only [List.length_drop, List.length_take]; rfl)) ?_
 with_reducible refine (json_Made.calls (fun k_ => ((w.heap.size ≤ k_) ∧ (k_ ≠ gb394 ∧ k_ ≠ gb395))) _ _ y412 t415 t416 t417 t420 _ ?side1 A4.out).mono ?_
 (case side1 => exact Kd.N_V (HO414.out))
 rintro e w17 ⟨v418, v421, rfl, ho0, ho1, hb⟩
 refine ⟨_, rfl, ?_⟩
 have n0_ := Aside0.mk (Kd.N_below (by (with_reducible repeat (first | apply Kd.N_alloc | apply Kd.N_drewN | apply Kd.N_drew)); exact HO414.out) hb)
 have n1_ := Aside0.mk (Kd.V_lower (Kd.V_mono (ok' := fun k_ => (w.heap.size ≤ k_) ∧ k_ ≠ gb394 ∧ k_ ≠ gb395) ho0 (fun k_ hk_ => ⟨Or.elim hk_ (fun hs_ => hs_.1) (fun hn_ => (Nat.le_trans (below_size (by repeat (first | (with_reducible first | exact HB.out | apply below_alloc | apply pw_below_drewN | apply below_drew1 | refine below_set ?_ GE394.out | refine below_set ?_ GE395.out) | exact HB.out))) hn_)), Or.elim hk_ (fun hs_ => hs_.2.1) (fun hn_ => (Kd.freshB (g := gb394) (o := .cells #[.int .i64 a0_0, .int .i64 a0_1] 57 (0, 0)) (by (with_reducible repeat (first | refine blk_drewN ?_ _ | refine blk_drew ?_ | refine blk_alloc ?_ _)); exact BK394.out) k_ hn_)), Or.elim hk_ (fun hs_ => hs_.2.2) (fun hn_ => (Kd.freshB (g := gb395) (o := .cells #[.int .i64 0, .string (⟨#[]⟩ : ByteArray), .slice none 0 0, .slice none 0 0] 27 (0, 0)) (by (with_reducible repeat (first | refine blk_drewN ?_ _ | refine blk_drew ?_ | refine blk_alloc ?_ _)); exact BK395.out) k_ hn_))⟩)) (below_size (by repeat (first | (with_reducible first | exact HB.out | apply below_alloc | apply pw_below_drewN | apply below_drew1 | refine below_set ?_ GE394.out | refine below_set ?_ GE395.out) | exact HB.out))))
 have n2_ := Aside0.mk (Kd.V_lower (Kd.V_mono (ok' := fun k_ => (w.heap.size ≤ k_) ∧ k_ ≠ gb394 ∧ k_ ≠ gb395) ho1 (fun k_ hk_ => ⟨Or.elim hk_ (fun hs_ => hs_.1) (fun hn_ => (Nat.le_trans (below_size (by repeat (first | (with_reducible first | exact HB.out | apply below_alloc | apply pw_below_drewN | apply below_drew1 | refine below_set ?_ GE394.out | refine below_set ?_ GE395.out) | exact HB.out))) hn_)), Or.elim hk_ (fun hs_ => hs_.2.1) (fun hn_ => (Kd.freshB (g := gb394) (o := .cells #[.int .i64 a0_0, .int .i64 a0_1] 57 (0, 0)) (by (with_reducible repeat (first | refine blk_drewN ?_ _ | refine blk_drew ?_ | refine blk_alloc ?_ _)); exact BK394.out) k_ hn_)), Or.elim hk_ (fun hs_ => hs_.2.2) (fun hn_ => (Kd.freshB (g := gb395) (o := .cells #[.int .i64 0, .string (⟨#[]⟩ : ByteArray), .slice none 0 0, .slice none 0 0] 27 (0, 0)) (by (with_reducible repeat (first | refine blk_drewN ?_ _ | refine blk_drew ?_ | refine blk_alloc ?_ _)); exact BK395.out) k_ hn_))⟩)) (below_size (by repeat (first | (with_reducible first | exact HB.out | apply below_alloc | apply pw_below_drewN | apply below_drew1 | refine below_set ?_ GE394.out | refine below_set ?_ GE395.out) | exact HB.out))))
 have n3_ := Aside0.mk (blk_below (g := gb394) (o := .cells #[.int .i64 a0_0, .int .i64 a0_1] 57 (0, 0)) (by (with_reducible repeat (first | refine blk_drewN ?_ _ | refine blk_drew ?_ | refine blk_alloc ?_ _)); exact BK394.out) hb)
 have n4_ := Aside0.mk (blk_below (g := gb395) (o := .cells #[.int .i64 0, .string (⟨#[]⟩ : ByteArray), .slice none 0 0, .slice none 0 0] 27 (0, 0)) (by (with_reducible repeat (first | refine blk_drewN ?_ _ | refine blk_drew ?_ | refine blk_alloc ?_ _)); exact BK395.out) hb)
 have n5_ := Aside0.mk (below_step (by repeat (first | (with_reducible first | exact HB.out | apply below_alloc | apply pw_below_drewN | apply below_drew1 | refine below_set ?_ GE394.out | refine below_set ?_ GE395.out) | exact HB.out)) hb)
 clear HO414
 clear BK394
 clear BK395
 clear HB
 have HO414 := n0_
 have HO419 := n1_
 have HO422 := n2_
 have BK394 := n3_
 have BK395 := n4_
 have HB := n5_
 clear n0_ n1_ n2_ n3_ n4_ n5_
 (try clear hb)
 (try clear hb2)
 (try clear hk)
 (try clear hi)
 (try clear ho0)
 (try clear ho1)
 obtain ⟨Ao20, co20, eo20⟩ := Kd.V_slice HO419.out
 (first | subst eo20 | (injection eo20 with f1_ f2_ f3_; have f4_ := f1_.symm; have f5_ := f3_.symm; clear f1_ f2_ f3_; subst f4_; subst f5_))
 obtain ⟨Ao22, co22, eo22⟩ := Kd.V_slice HO422.out
 (first | subst eo22 | (injection eo22 with f1_ f2_ f3_; have f4_ := f1_.symm; have f5_ := f3_.symm; clear f1_ f2_ f3_; subst f4_; subst f5_))
 refine hK.out _ _ ⟨(blk_cell BK394.out 0).trans rfl, (blk_cell BK394.out 1).trans rfl⟩ (fun hHeld => ?_)
 clear hK K
 refine norm_ (a' := ?_) ?_ ?_
 rotate_left
 ·show Act.put _ (some 12) _ = _
  simp only [Act.put, List.setIfInBounds_toArray, List.set_cons_zero, List.set_cons_succ, i64_w, i32_w]
  rfl
 refine one_ (i := 10) (N := none) #[true, true, true, true, true, true, true, true, true, true, true] rfl rfl (one_of HT_.out (by kernel_rfl)) (by decide) (fun K hK => ?_)
 have hs18 : w17.cell? ⟨gb395, 0, none⟩ = some (.int .i64 0) := (blk_cell BK395.out 0).trans rfl
 have hfs18 := blk_frozen BK395.out 0
 have hns18_0 := NB394_395.out
 have hms18_0 := NB395_394.out
 have hs19 : w17.cell? ⟨gb395, 1, none⟩ = some (.string (⟨#[]⟩ : ByteArray)) := (blk_cell BK395.out 1).trans rfl
 have hfs19 := blk_frozen BK395.out 1
 have hns19_0 := NB394_395.out
 have hms19_0 := NB395_394.out
 have hs21 : w17.cell? ⟨gb395, 2, none⟩ = some (.slice none 0 0) := (blk_cell BK395.out 2).trans rfl
 have hfs21 := blk_frozen BK395.out 2
 have hns21_0 := NB394_395.out
 have hms21_0 := NB395_394.out
 have hs23 : w17.cell? ⟨gb395, 3, none⟩ = some (.slice none 0 0) := (blk_cell BK395.out 3).trans rfl
 have hfs23 := blk_frozen BK395.out 3
 have hns23_0 := NB394_395.out
 have hms23_0 := NB395_394.out
 refine skip_ (w1 := ?_) (by rfl) rfl ?_ ?_
 rotate_left
 ·go_simp
  rfl
 refine hK.out _ _ ⟨((cell_far (p := ⟨gb395, _, none⟩) NB394_395.out _).trans (((cell_far (p := ⟨gb395, _, none⟩) NB394_395.out _).trans (((cell_far (p := ⟨gb395, _, none⟩) NB394_395.out _).trans (((cell_far (p := ⟨gb395, _, none⟩) NB394_395.out _).trans (hHeld.1)))))))), ((cell_far (p := ⟨gb395, _, none⟩) NB394_395.out _).trans (((cell_far (p := ⟨gb395, _, none⟩) NB394_395.out _).trans (((cell_far (p := ⟨gb395, _, none⟩) NB394_395.out _).trans (((cell_far (p := ⟨gb395, _, none⟩) NB394_395.out _).trans (hHeld.2))))))))⟩ (fun hHeld => ?_)
 clear hK K
 refine done_ (done_of HT_.out (by kernel_rfl)) ?_
 try go_wp2
 refine bodyPost_ret (results_cell_row rfl _ _ gb395 27 #[.int .i64 t415, .string t416, .slice Ao20 t417.length co20, .slice Ao22 t420.length co22] (0, 0) _ rfl (by (with_reducible repeat (first | refine blk_drewN ?_ _ | refine blk_drew ?_ | refine blk_alloc ?_ _)); refine blk_put (cs := #[.int .i64 t415, .string t416, .slice Ao20 t417.length co20, .slice none 0 0]) ?_ 3 _ rfl; (with_reducible repeat (first | refine blk_drewN ?_ _ | refine blk_drew ?_ | refine blk_alloc ?_ _)); refine blk_put (cs := #[.int .i64 t415, .string t416, .slice none 0 0, .slice none 0 0]) ?_ 2 _ rfl; (with_reducible repeat (first | refine blk_drewN ?_ _ | refine blk_drew ?_ | refine blk_alloc ?_ _)); refine blk_put (cs := #[.int .i64 t415, .string (⟨#[]⟩ : ByteArray), .slice none 0 0, .slice none 0 0]) ?_ 1 _ rfl; (with_reducible repeat (first | refine blk_drewN ?_ _ | refine blk_drew ?_ | refine blk_alloc ?_ _)); refine blk_put (cs := #[.int .i64 0, .string (⟨#[]⟩ : ByteArray), .slice none 0 0, .slice none 0 0]) ?_ 0 _ rfl; (with_reducible repeat (first | refine blk_drewN ?_ _ | refine blk_drew ?_ | refine blk_alloc ?_ _)); exact BK395.out) Tryd.underlying27 rfl (by kernel_rfl)) rfl ?_
 exact ⟨_, _, by first | rfl | (simp [errW_none, errW_some] <;> rfl) | (simp [*, errW_none, errW_some] <;> rfl), by (with_reducible repeat (first | apply Kd.V_alloc | apply Kd.V_drewN | apply Kd.V_drew)); exact Kd.V_mono (Kd.V_far (p := ⟨gb395, 3, none⟩) (Kd.V_far (p := ⟨gb395, 2, none⟩) (Kd.V_far (p := ⟨gb395, 1, none⟩) (Kd.V_far (p := ⟨gb395, 0, none⟩) (Kd.V_mono HO419.out (fun k_ hk => (⟨hk, hk.2.2⟩ : _ ∧ k_ ≠ gb395))) (fun _ hk => hk.2) (.int .i64 t415)) (fun _ hk => hk.2) (.string t416)) (fun _ hk => hk.2) (.slice Ao20 t417.length co20)) (fun _ hk => hk.2) (.slice Ao22 t420.length co22)) (fun _ hk => hk.1.1), by (with_reducible repeat (first | apply Kd.V_alloc | apply Kd.V_drewN | apply Kd.V_drew)); exact Kd.V_mono (Kd.V_far (p := ⟨gb395, 3, none⟩) (Kd.V_far (p := ⟨gb395, 2, none⟩) (Kd.V_far (p := ⟨gb395, 1, none⟩) (Kd.V_far (p := ⟨gb395, 0, none⟩) (Kd.V_mono HO422.out (fun k_ hk => (⟨hk, hk.2.2⟩ : _ ∧ k_ ≠ gb395))) (fun _ hk => hk.2) (.int .i64 t415)) (fun _ hk => hk.2) (.string t416)) (fun _ hk => hk.2) (.slice Ao20 t417.length co20)) (fun _ hk => hk.2) (.slice Ao22 t420.length co22)) (fun _ hk => hk.1.1), by repeat (first | (with_reducible first | exact HB.out | apply below_alloc | apply pw_below_drewN | apply below_drew1 | refine below_set ?_ GE394.out | refine below_set ?_ GE395.out) | exact HB.out)⟩
def rpc_FromRange.f (a0_0 : Int) (a0_1 : Int) (a1_0 : Int) (a1_1 : Int) : Option (Int × ByteArray × List ByteArray × (List (S27))) := (rpc_FromPos.f a0_0 a0_1).bind fun bt426 => ((rpc_FromPos.f a1_0 a1_1).bind fun bt434 => ((json_Made.f (([(⟨(⟨#[115, 116, 97, 114, 116]⟩ : ByteArray), (⟨bt426.1, bt426.2.1, bt426.2.2.1, bt426.2.2.2⟩ : S27)⟩ : S30), (⟨(⟨#[101, 110, 100]⟩ : ByteArray), (⟨bt434.1, bt434.2.1, bt434.2.2.1, bt434.2.2.2⟩ : S27)⟩ : S30)] : List (S30)))).bind fun bt445 => (some (bt445.1, bt445.2.1, bt445.2.2.1, bt445.2.2.2))))
def rpc_FromRange.T1 : Bool × List (List Nat × List Nat) := (true, [([], []), ([0], [0]), ([1], [1]), ([], []), ([3, 1], [3]), ([4], [4]), ([2, 5], [2, 5]), ([6, 4], [6]), ([7, 7, 0, 1, 2, 3, 4, 5, 6, 7], [7])])
def rpc_FromRange.B1 : List Nat := [0, 1, 3, 0, 11, 27, 63, 127, 255]
theorem rpc_FromRange.tab1 : rtab .any (opsOf Tryd.f38 1) = rpc_FromRange.T1 := by kernel_rfl
theorem rpc_FromRange.bits1 : waitsOk rpc_FromRange.T1.2 rpc_FromRange.B1 = true := by kernel_rfl
set_option maxHeartbeats 8000000 in
set_option maxRecDepth 100000 in
theorem rpc_FromRange.calls (a0_0 : Int) (a0_1 : Int) (a1_0 : Int) (a1_1 : Int) (r1 : Int) (r2 : ByteArray) (r3 : List ByteArray) (r4 : List (S27)) (w : World) (h : rpc_FromRange.f a0_0 a0_1 a1_0 a1_1 = some (r1, r2, r3, r4)) (hT : TabOk w) :
  Calls Tryd.prog 38 #[.agg #[.int .i64 a0_0, .int .i64 a0_1], .agg #[.int .i64 a1_0, .int .i64 a1_1]] w fun e w' => ∃ v2_ v3_ : Value, e = .returned (.agg #[.int .i64 r1, .string r2, v2_, v3_]) ∧ Kd.V Kd.string 9 w' w.heap.size (fun k_ => (w.heap.size ≤ k_)) v2_ r3 ∧ Kd.V k27 27 w' w.heap.size (fun k_ => (w.heap.size ≤ k_)) v3_ r4 ∧ Below w.heap.size w w' := by
 have hu57 := Tryd.underlying57
 have hu27 := Tryd.underlying27
 have hu30 := Tryd.underlying30
 have HB := Aside0.mk (Below.refl w.heap.size w)
 have H : ((rpc_FromPos.f a0_0 a0_1).bind fun bt426 => ((rpc_FromPos.f a1_0 a1_1).bind fun bt434 => ((json_Made.f (([(⟨(⟨#[115, 116, 97, 114, 116]⟩ : ByteArray), (⟨bt426.1, bt426.2.1, bt426.2.2.1, bt426.2.2.2⟩ : S27)⟩ : S30), (⟨(⟨#[101, 110, 100]⟩ : ByteArray), (⟨bt434.1, bt434.2.1, bt434.2.2.1, bt434.2.2.2⟩ : S27)⟩ : S30)] : List (S30)))).bind fun bt445 => (some (bt445.1, bt445.2.1, bt445.2.2.1, bt445.2.2.2))))) = some (r1, r2, r3, r4) := h
 clear h
 replace H := Option.bind_eq_some_iff.mp H
 obtain ⟨⟨t426, t427, t428, t431⟩, A30, H⟩ := H
 replace H : ((rpc_FromPos.f a1_0 a1_1).bind fun bt434 => ((json_Made.f (([(⟨(⟨#[115, 116, 97, 114, 116]⟩ : ByteArray), (⟨t426, t427, t428, t431⟩ : S27)⟩ : S30), (⟨(⟨#[101, 110, 100]⟩ : ByteArray), (⟨bt434.1, bt434.2.1, bt434.2.2.1, bt434.2.2.2⟩ : S27)⟩ : S30)] : List (S30)))).bind fun bt445 => (some (bt445.1, bt445.2.1, bt445.2.2.1, bt445.2.2.2)))) = some (r1, r2, r3, r4) := H
 have A3 := Aside0.mk A30
 clear A30
 replace H := Option.bind_eq_some_iff.mp H
 obtain ⟨⟨t434, t435, t436, t439⟩, A40, H⟩ := H
 replace H : ((json_Made.f (([(⟨(⟨#[115, 116, 97, 114, 116]⟩ : ByteArray), (⟨t426, t427, t428, t431⟩ : S27)⟩ : S30), (⟨(⟨#[101, 110, 100]⟩ : ByteArray), (⟨t434, t435, t436, t439⟩ : S27)⟩ : S30)] : List (S30)))).bind fun bt445 => (some (bt445.1, bt445.2.1, bt445.2.2.1, bt445.2.2.2))) = some (r1, r2, r3, r4) := H
 have A4 := Aside0.mk A40
 clear A40
 obtain ⟨y442, hy442⟩ : ∃ y_ : List (S30), y_ = (([(⟨(⟨#[115, 116, 97, 114, 116]⟩ : ByteArray), (⟨t426, t427, t428, t431⟩ : S27)⟩ : S30), (⟨(⟨#[101, 110, 100]⟩ : ByteArray), (⟨t434, t435, t436, t439⟩ : S27)⟩ : S30)] : List (S30))) := ⟨_, rfl⟩
 replace H : ((json_Made.f y442).bind fun bt445 => (some (bt445.1, bt445.2.1, bt445.2.2.1, bt445.2.2.2))) = some (r1, r2, r3, r4) := by first | (rw [hy442]; with_reducible exact H) | (have H2_ := (Option.bind_some _ _).symm.trans H; rw [hy442]; with_reducible exact H2_) | (have H2_ := (Option.bind_some _ _).symm.trans H; with_reducible exact H2_) | with_reducible exact H | (rw [hy442]; exact H) | exact H
 have Ny442 := Aside0.mk hy442
 clear hy442
 replace H := Option.bind_eq_some_iff.mp H
 obtain ⟨⟨t445, t446, t447, t450⟩, A50, H⟩ := H
 replace H : (some (t445, t446, t447, t450)) = some (r1, r2, r3, r4) := H
 have A5 := Aside0.mk A50
 clear A50
 simp only [Option.some.injEq, Prod.mk.injEq] at H
 obtain ⟨rfl, rfl, rfl, rfl⟩ := H
 go_enter Tryd.func38, Tryd.ntmps38
 try go_wp2_with (first | ((with_reducible refine gate_dst (N := 2) rfl ?_); refine box_event ?hg (N := 2) ?hd (cs := #[.int .i64 a0_0, .int .i64 a0_1]) (t := 57) ?hr ?_; (case hd => rfl); (case hg => rfl); (case hr => first | (go_simp; done) | (go_simp; rfl)); intro gb423 hg w6 hbox hb; have n0_ := Aside0.mk (below_step (by repeat (first | (with_reducible first | exact HB.out | apply below_alloc | apply pw_below_drewN | apply below_drew1) | exact HB.out)) hb); have n1_ := Aside0.mk (hbox); have n2_ := Aside0.mk ((by rw [hg]; exact (below_size (by repeat (first | (with_reducible first | exact HB.out | apply below_alloc | apply pw_below_drewN | apply below_drew1) | exact HB.out))) : w.heap.size ≤ gb423)); have n3_ := Aside0.mk ((by rw [hg]; exact (below_size (by repeat (first | (with_reducible first | exact HB.out | apply below_alloc | apply pw_below_drewN | apply below_drew1) | exact HB.out))) : w.heap.size ≤ gb423)); clear HB; have HB := n0_; have BK423 := n1_; have GW423 := n2_; have GE423 := n3_; clear n0_ n1_ n2_ n3_; clear hb hbox hg) | ((with_reducible refine gate_dst (N := 3) rfl ?_); refine box_event ?hg (N := 3) ?hd (cs := #[.int .i64 a1_0, .int .i64 a1_1]) (t := 57) ?hr ?_; (case hd => rfl); (case hg => rfl); (case hr => first | (go_simp; done) | (go_simp; rfl)); intro gb424 hg w7 hbox hb; have n0_ := Aside0.mk (blk_below (g := gb423) (o := .cells #[.int .i64 a0_0, .int .i64 a0_1] 57 (0, 0)) (by (with_reducible repeat (first | refine blk_drewN ?_ _ | refine blk_drew ?_ | refine blk_alloc ?_ _)); exact BK423.out) hb); have n1_ := Aside0.mk (below_step (by repeat (first | (with_reducible first | exact HB.out | apply below_alloc | apply pw_below_drewN | apply below_drew1 | refine below_set ?_ GE423.out) | exact HB.out)) hb); have n2_ := Aside0.mk (hbox); have n3_ := Aside0.mk ((by rw [hg]; exact (below_size (by repeat (first | (with_reducible first | exact HB.out | apply below_alloc | apply pw_below_drewN | apply below_drew1 | refine below_set ?_ GE423.out) | exact HB.out))) : w.heap.size ≤ gb424)); have n4_ := Aside0.mk ((by rw [hg]; exact (below_size (by repeat (first | (with_reducible first | exact HB.out | apply below_alloc | apply pw_below_drewN | apply below_drew1 | refine below_set ?_ GE423.out) | exact HB.out))) : w.heap.size ≤ gb424)); have n5_ := Aside0.mk ((by rw [hg]; exact Nat.ne_of_lt (blk_lt (g := gb423) (o := .cells #[.int .i64 a0_0, .int .i64 a0_1] 57 (0, 0)) (by (with_reducible repeat (first | refine blk_drewN ?_ _ | refine blk_drew ?_ | refine blk_alloc ?_ _)); exact BK423.out)) : gb423 ≠ gb424)); have n6_ := Aside0.mk ((by rw [hg]; exact Nat.ne_of_gt (blk_lt (g := gb423) (o := .cells #[.int .i64 a0_0, .int .i64 a0_1] 57 (0, 0)) (by (with_reducible repeat (first | refine blk_drewN ?_ _ | refine blk_drew ?_ | refine blk_alloc ?_ _)); exact BK423.out)) : gb424 ≠ gb423)); clear BK423; clear HB; have BK423 := n0_; have HB := n1_; have BK424 := n2_; have GW424 := n3_; have GE424 := n4_; have NB423_424 := n5_; have NB424_423 := n6_; clear n0_ n1_ n2_ n3_ n4_ n5_ n6_; clear hb hbox hg) | ((with_reducible refine gate_dst (N := 4) rfl ?_); refine box_event ?hg (N := 4) ?hd (cs := #[.int .i64 0, .string (⟨#[]⟩ : ByteArray), .slice none 0 0, .slice none 0 0]) (t := 27) ?hr ?_; (case hd => rfl); (case hg => rfl); (case hr => first | (go_simp; done) | (go_simp; rfl)); intro gb425 hg w8 hbox hb; have n0_ := Aside0.mk (blk_below (g := gb423) (o := .cells #[.int .i64 a0_0, .int .i64 a0_1] 57 (0, 0)) (by (with_reducible repeat (first | refine blk_drewN ?_ _ | refine blk_drew ?_ | refine blk_alloc ?_ _)); exact BK423.out) hb); have n1_ := Aside0.mk (blk_below (g := gb424) (o := .cells #[.int .i64 a1_0, .int .i64 a1_1] 57 (0, 0)) (by (with_reducible repeat (first | refine blk_drewN ?_ _ | refine blk_drew ?_ | refine blk_alloc ?_ _)); exact BK424.out) hb); have n2_ := Aside0.mk (below_step (by repeat (first | (with_reducible first | exact HB.out | apply below_alloc | apply pw_below_drewN | apply below_drew1 | refine below_set ?_ GE423.out | refine below_set ?_ GE424.out) | exact HB.out)) hb); have n3_ := Aside0.mk (hbox); have n4_ := Aside0.mk ((by rw [hg]; exact (below_size (by repeat (first | (with_reducible first | exact HB.out | apply below_alloc | apply pw_below_drewN | apply below_drew1 | refine below_set ?_ GE423.out | refine below_set ?_ GE424.out) | exact HB.out))) : w.heap.size ≤ gb425)); have n5_ := Aside0.mk ((by rw [hg]; exact (below_size (by repeat (first | (with_reducible first | exact HB.out | apply below_alloc | apply pw_below_drewN | apply below_drew1 | refine below_set ?_ GE423.out | refine below_set ?_ GE424.out) | exact HB.out))) : w.heap.size ≤ gb425)); have n6_ := Aside0.mk ((by rw [hg]; exact Nat.ne_of_lt (blk_lt (g := gb423) (o := .cells #[.int .i64 a0_0, .int .i64 a0_1] 57 (0, 0)) (by (with_reducible repeat (first | refine blk_drewN ?_ _ | refine blk_drew ?_ | refine blk_alloc ?_ _)); exact BK423.out)) : gb423 ≠ gb425)); have n7_ := Aside0.mk ((by rw [hg]; exact Nat.ne_of_gt (blk_lt (g := gb423) (o := .cells #[.int .i64 a0_0, .int .i64 a0_1] 57 (0, 0)) (by (with_reducible repeat (first | refine blk_drewN ?_ _ | refine blk_drew ?_ | refine blk_alloc ?_ _)); exact BK423.out)) : gb425 ≠ gb423)); have n8_ := Aside0.mk ((by rw [hg]; exact Nat.ne_of_lt (blk_lt (g := gb424) (o := .cells #[.int .i64 a1_0, .int .i64 a1_1] 57 (0, 0)) (by (with_reducible repeat (first | refine blk_drewN ?_ _ | refine blk_drew ?_ | refine blk_alloc ?_ _)); exact BK424.out)) : gb424 ≠ gb425)); have n9_ := Aside0.mk ((by rw [hg]; exact Nat.ne_of_gt (blk_lt (g := gb424) (o := .cells #[.int .i64 a1_0, .int .i64 a1_1] 57 (0, 0)) (by (with_reducible repeat (first | refine blk_drewN ?_ _ | refine blk_drew ?_ | refine blk_alloc ?_ _)); exact BK424.out)) : gb425 ≠ gb424)); clear BK423; clear BK424; clear HB; have BK423 := n0_; have BK424 := n1_; have HB := n2_; have BK425 := n3_; have GW425 := n4_; have GE425 := n5_; have NB423_425 := n6_; have NB425_423 := n7_; have NB424_425 := n8_; have NB425_424 := n9_; clear n0_ n1_ n2_ n3_ n4_ n5_ n6_ n7_ n8_ n9_; clear hb hbox hg))
 have n0_ := Aside0.mk (blk_drew BK423.out)
 have n1_ := Aside0.mk (blk_drew BK424.out)
 have n2_ := Aside0.mk (blk_drew BK425.out)
 have n3_ := Aside0.mk (below_drew1 HB.out)
 clear BK423
 clear BK424
 clear BK425
 clear HB
 have BK423 := n0_
 have BK424 := n1_
 have BK425 := n2_
 have HB := n3_
 clear n0_ n1_ n2_ n3_
 refine start_ (n := 9) (S := fun w' => w'.cell? ⟨gb423, 0, none⟩ = some (.int .i64 a0_0) ∧ w'.cell? ⟨gb423, 1, none⟩ = some (.int .i64 a0_1) ∧ w'.cell? ⟨gb424, 0, none⟩ = some (.int .i64 a1_0) ∧ w'.cell? ⟨gb424, 1, none⟩ = some (.int .i64 a1_1)) (ds := []) #[false, false, false, false, false, false, false, false, false] (by kernel_rfl) rfl rfl ⟨(blk_cell BK423.out 0).trans rfl, (blk_cell BK423.out 1).trans rfl, (blk_cell BK424.out 0).trans rfl, (blk_cell BK424.out 1).trans rfl⟩ (fun hHeld => ?_); refine with_tabW rpc_FromRange.tab1 rpc_FromRange.bits1 (fun HT_ HW_ => ?_)
 generalize w8.drew = w9 at BK423 BK424 BK425 HB hHeld ⊢
 refine take_ (i := 0) (N := some 5) (v := ?_) (a' := ?_) #[true, false, false, false, false, false, false, false, false] rfl rfl (take_ofW HT_.out HW_.out (by kernel_rfl)) (fun _ _ _ h => h) (Or.inl ⟨by rfl, ?_⟩) hHeld ?_ ?_
 rotate_left
 ·rintro w' ⟨s0, s1, s2, s3⟩
  go_simp
  with_reducible rfl
 rotate_left
 ·simp only [Act.put, List.setIfInBounds_toArray, List.set_cons_zero, List.set_cons_succ, i64_w, i32_w]
  rfl
 refine take_ (i := 3) (N := some 8) (v := ?_) (a' := ?_) #[true, false, false, true, false, false, false, false, false] rfl rfl (take_ofW HT_.out HW_.out (by kernel_rfl)) (fun _ _ _ h => h) (Or.inl ⟨by rfl, ?_⟩) hHeld ?_ ?_
 rotate_left
 ·rintro w' ⟨s0, s1, s2, s3⟩
  go_simp
  with_reducible rfl
 rotate_left
 ·simp only [Act.put, List.setIfInBounds_toArray, List.set_cons_zero, List.set_cons_succ, i64_w, i32_w]
  rfl
 refine one_ (i := 1) (N := some 6) #[true, true, false, true, false, false, false, false, false] rfl rfl (one_of HT_.out (by kernel_rfl)) (by decide) (fun K hK => ?_)
 refine goes_ Tryd.func37 (by kernel_rfl) rfl #[.agg #[.int .i64 a0_0, .int .i64 a0_1]] (by rfl) rfl rfl (by (try simp only [List.map_toArray, List.map_cons, List.map_nil]); first | done | rfl | (simp only [List.length_drop, List.length_take]; rfl)) ?_
 with_reducible refine (rpc_FromPos.calls a0_0 a0_1 t426 t427 t428 t431 _ A3.out ?sideT).mono ?_
 (case sideT => exact hT.below (by repeat (first | (with_reducible first | exact HB.out | apply below_alloc | apply pw_below_drewN | apply below_drew1 | refine below_set ?_ GE423.out | refine below_set ?_ GE424.out | refine below_set ?_ GE425.out) | exact HB.out)))
 rintro e w10 ⟨v429, v432, rfl, ho0, ho1, hb⟩
 refine ⟨_, rfl, ?_⟩
 have n0_ := Aside0.mk (Kd.V_lower (Kd.V_mono (ok' := fun k_ => (w.heap.size ≤ k_) ∧ k_ ≠ gb423 ∧ k_ ≠ gb424 ∧ k_ ≠ gb425) ho0 (fun k_ hk_ => ⟨(Nat.le_trans (below_size (by repeat (first | (with_reducible first | exact HB.out | apply below_alloc | apply pw_below_drewN | apply below_drew1 | refine below_set ?_ GE423.out | refine below_set ?_ GE424.out | refine below_set ?_ GE425.out) | exact HB.out))) hk_), (Kd.freshB (g := gb423) (o := .cells #[.int .i64 a0_0, .int .i64 a0_1] 57 (0, 0)) (by (with_reducible repeat (first | refine blk_drewN ?_ _ | refine blk_drew ?_ | refine blk_alloc ?_ _)); exact BK423.out) k_ hk_), (Kd.freshB (g := gb424) (o := .cells #[.int .i64 a1_0, .int .i64 a1_1] 57 (0, 0)) (by (with_reducible repeat (first | refine blk_drewN ?_ _ | refine blk_drew ?_ | refine blk_alloc ?_ _)); exact BK424.out) k_ hk_), (Kd.freshB (g := gb425) (o := .cells #[.int .i64 0, .string (⟨#[]⟩ : ByteArray), .slice none 0 0, .slice none 0 0] 27 (0, 0)) (by (with_reducible repeat (first | refine blk_drewN ?_ _ | refine blk_drew ?_ | refine blk_alloc ?_ _)); exact BK425.out) k_ hk_)⟩)) (below_size (by repeat (first | (with_reducible first | exact HB.out | apply below_alloc | apply pw_below_drewN | apply below_drew1 | refine below_set ?_ GE423.out | refine below_set ?_ GE424.out | refine below_set ?_ GE425.out) | exact HB.out))))
 have n1_ := Aside0.mk (Kd.V_lower (Kd.V_mono (ok' := fun k_ => (w.heap.size ≤ k_) ∧ k_ ≠ gb423 ∧ k_ ≠ gb424 ∧ k_ ≠ gb425) ho1 (fun k_ hk_ => ⟨(Nat.le_trans (below_size (by repeat (first | (with_reducible first | exact HB.out | apply below_alloc | apply pw_below_drewN | apply below_drew1 | refine below_set ?_ GE423.out | refine below_set ?_ GE424.out | refine below_set ?_ GE425.out) | exact HB.out))) hk_), (Kd.freshB (g := gb423) (o := .cells #[.int .i64 a0_0, .int .i64 a0_1] 57 (0, 0)) (by (with_reducible repeat (first | refine blk_drewN ?_ _ | refine blk_drew ?_ | refine blk_alloc ?_ _)); exact BK423.out) k_ hk_), (Kd.freshB (g := gb424) (o := .cells #[.int .i64 a1_0, .int .i64 a1_1] 57 (0, 0)) (by (with_reducible repeat (first | refine blk_drewN ?_ _ | refine blk_drew ?_ | refine blk_alloc ?_ _)); exact BK424.out) k_ hk_), (Kd.freshB (g := gb425) (o := .cells #[.int .i64 0, .string (⟨#[]⟩ : ByteArray), .slice none 0 0, .slice none 0 0] 27 (0, 0)) (by (with_reducible repeat (first | refine blk_drewN ?_ _ | refine blk_drew ?_ | refine blk_alloc ?_ _)); exact BK425.out) k_ hk_)⟩)) (below_size (by repeat (first | (with_reducible first | exact HB.out | apply below_alloc | apply pw_below_drewN | apply below_drew1 | refine below_set ?_ GE423.out | refine below_set ?_ GE424.out | refine below_set ?_ GE425.out) | exact HB.out))))
 have n2_ := Aside0.mk (blk_below (g := gb423) (o := .cells #[.int .i64 a0_0, .int .i64 a0_1] 57 (0, 0)) (by (with_reducible repeat (first | refine blk_drewN ?_ _ | refine blk_drew ?_ | refine blk_alloc ?_ _)); exact BK423.out) hb)
 have n3_ := Aside0.mk (blk_below (g := gb424) (o := .cells #[.int .i64 a1_0, .int .i64 a1_1] 57 (0, 0)) (by (with_reducible repeat (first | refine blk_drewN ?_ _ | refine blk_drew ?_ | refine blk_alloc ?_ _)); exact BK424.out) hb)
 have n4_ := Aside0.mk (blk_below (g := gb425) (o := .cells #[.int .i64 0, .string (⟨#[]⟩ : ByteArray), .slice none 0 0, .slice none 0 0] 27 (0, 0)) (by (with_reducible repeat (first | refine blk_drewN ?_ _ | refine blk_drew ?_ | refine blk_alloc ?_ _)); exact BK425.out) hb)
 have n5_ := Aside0.mk (below_step (by repeat (first | (with_reducible first | exact HB.out | apply below_alloc | apply pw_below_drewN | apply below_drew1 | refine below_set ?_ GE423.out | refine below_set ?_ GE424.out | refine below_set ?_ GE425.out) | exact HB.out)) hb)
 clear BK423
 clear BK424
 clear BK425
 clear HB
 have HO430 := n0_
 have HO433 := n1_
 have BK423 := n2_
 have BK424 := n3_
 have BK425 := n4_
 have HB := n5_
 clear n0_ n1_ n2_ n3_ n4_ n5_
 (try clear hb)
 (try clear hb2)
 (try clear hk)
 (try clear hi)
 (try clear ho0)
 (try clear ho1)
 obtain ⟨Ao11, co11, eo11⟩ := Kd.V_slice HO433.out
 (first | subst eo11 | (injection eo11 with f1_ f2_ f3_; have f4_ := f1_.symm; have f5_ := f3_.symm; clear f1_ f2_ f3_; subst f4_; subst f5_))
 obtain ⟨Ao12, co12, eo12⟩ := Kd.V_slice HO430.out
 (first | subst eo12 | (injection eo12 with f1_ f2_ f3_; have f4_ := f1_.symm; have f5_ := f3_.symm; clear f1_ f2_ f3_; subst f4_; subst f5_))
 refine hK.out _ _ ⟨(blk_cell BK423.out 0).trans rfl, (blk_cell BK423.out 1).trans rfl, (blk_cell BK424.out 0).trans rfl, (blk_cell BK424.out 1).trans rfl⟩ (fun hHeld => ?_)
 clear hK K
 refine norm_ (a' := ?_) ?_ ?_
 rotate_left
 ·show Act.put _ (some 6) _ = _
  simp only [Act.put, List.setIfInBounds_toArray, List.set_cons_zero, List.set_cons_succ, i64_w, i32_w]
  rfl
 refine pure_ (i := 2) (N := some 7) (v := ?_) (a' := ?_) #[true, true, true, true, false, false, false, false, false] rfl rfl (any_of HT_.out (by kernel_rfl)) (fun _ _ _ h => h) (Or.inl ⟨by rfl, ?_⟩) ?_ ?_
 rotate_left
 ·intro w'
  go_simp
  with_reducible rfl
 rotate_left
 ·simp only [Act.put, List.setIfInBounds_toArray, List.set_cons_zero, List.set_cons_succ, i64_w, i32_w]
  rfl
 refine one_ (i := 4) (N := some 9) #[true, true, true, true, true, false, false, false, false] rfl rfl (one_of HT_.out (by kernel_rfl)) (by decide) (fun K hK => ?_)
 refine goes_ Tryd.func37 (by kernel_rfl) rfl #[.agg #[.int .i64 a1_0, .int .i64 a1_1]] (by rfl) rfl rfl (by (try simp only [List.map_toArray, List.map_cons, List.map_nil]); first | done | rfl | (simp only [List.length_drop, List.length_take]; rfl)) ?_
 with_reducible refine (rpc_FromPos.calls a1_0 a1_1 t434 t435 t436 t439 _ A4.out ?sideT).mono ?_
 (case sideT => exact hT.below (by repeat (first | (with_reducible first | exact HB.out | apply below_alloc | apply pw_below_drewN | apply below_drew1 | refine below_set ?_ GE423.out | refine below_set ?_ GE424.out | refine below_set ?_ GE425.out) | exact HB.out)))
 rintro e w13 ⟨v437, v440, rfl, ho0, ho1, hb⟩
 refine ⟨_, rfl, ?_⟩
 have n0_ := Aside0.mk (Kd.V_below (by (with_reducible repeat (first | apply Kd.V_alloc | apply Kd.V_drewN | apply Kd.V_drew)); exact HO430.out) hb)
 have n1_ := Aside0.mk (Kd.V_below (by (with_reducible repeat (first | apply Kd.V_alloc | apply Kd.V_drewN | apply Kd.V_drew)); exact HO433.out) hb)
 have n2_ := Aside0.mk (Kd.V_lower (Kd.V_mono (ok' := fun k_ => (w.heap.size ≤ k_) ∧ k_ ≠ gb423 ∧ k_ ≠ gb424 ∧ k_ ≠ gb425) ho0 (fun k_ hk_ => ⟨(Nat.le_trans (below_size (by repeat (first | (with_reducible first | exact HB.out | apply below_alloc | apply pw_below_drewN | apply below_drew1 | refine below_set ?_ GE423.out | refine below_set ?_ GE424.out | refine below_set ?_ GE425.out) | exact HB.out))) hk_), (Kd.freshB (g := gb423) (o := .cells #[.int .i64 a0_0, .int .i64 a0_1] 57 (0, 0)) (by (with_reducible repeat (first | refine blk_drewN ?_ _ | refine blk_drew ?_ | refine blk_alloc ?_ _)); exact BK423.out) k_ hk_), (Kd.freshB (g := gb424) (o := .cells #[.int .i64 a1_0, .int .i64 a1_1] 57 (0, 0)) (by (with_reducible repeat (first | refine blk_drewN ?_ _ | refine blk_drew ?_ | refine blk_alloc ?_ _)); exact BK424.out) k_ hk_), (Kd.freshB (g := gb425) (o := .cells #[.int .i64 0, .string (⟨#[]⟩ : ByteArray), .slice none 0 0, .slice none 0 0] 27 (0, 0)) (by (with_reducible repeat (first | refine blk_drewN ?_ _ | refine blk_drew ?_ | refine blk_alloc ?_ _)); exact BK425.out) k_ hk_)⟩)) (below_size (by repeat (first | (with_reducible first | exact HB.out | apply below_alloc | apply pw_below_drewN | apply below_drew1 | refine below_set ?_ GE423.out | refine below_set ?_ GE424.out | refine below_set ?_ GE425.out) | exact HB.out))))
 have n3_ := Aside0.mk (Kd.V_lower (Kd.V_mono (ok' := fun k_ => (w.heap.size ≤ k_) ∧ k_ ≠ gb423 ∧ k_ ≠ gb424 ∧ k_ ≠ gb425) ho1 (fun k_ hk_ => ⟨(Nat.le_trans (below_size (by repeat (first | (with_reducible first | exact HB.out | apply below_alloc | apply pw_below_drewN | apply below_drew1 | refine below_set ?_ GE423.out | refine below_set ?_ GE424.out | refine below_set ?_ GE425.out) | exact HB.out))) hk_), (Kd.freshB (g := gb423) (o := .cells #[.int .i64 a0_0, .int .i64 a0_1] 57 (0, 0)) (by (with_reducible repeat (first | refine blk_drewN ?_ _ | refine blk_drew ?_ | refine blk_alloc ?_ _)); exact BK423.out) k_ hk_), (Kd.freshB (g := gb424) (o := .cells #[.int .i64 a1_0, .int .i64 a1_1] 57 (0, 0)) (by (with_reducible repeat (first | refine blk_drewN ?_ _ | refine blk_drew ?_ | refine blk_alloc ?_ _)); exact BK424.out) k_ hk_), (Kd.freshB (g := gb425) (o := .cells #[.int .i64 0, .string (⟨#[]⟩ : ByteArray), .slice none 0 0, .slice none 0 0] 27 (0, 0)) (by (with_reducible repeat (first | refine blk_drewN ?_ _ | refine blk_drew ?_ | refine blk_alloc ?_ _)); exact BK425.out) k_ hk_)⟩)) (below_size (by repeat (first | (with_reducible first | exact HB.out | apply below_alloc | apply pw_below_drewN | apply below_drew1 | refine below_set ?_ GE423.out | refine below_set ?_ GE424.out | refine below_set ?_ GE425.out) | exact HB.out))))
 have n4_ := Aside0.mk (blk_below (g := gb423) (o := .cells #[.int .i64 a0_0, .int .i64 a0_1] 57 (0, 0)) (by (with_reducible repeat (first | refine blk_drewN ?_ _ | refine blk_drew ?_ | refine blk_alloc ?_ _)); exact BK423.out) hb)
 have n5_ := Aside0.mk (blk_below (g := gb424) (o := .cells #[.int .i64 a1_0, .int .i64 a1_1] 57 (0, 0)) (by (with_reducible repeat (first | refine blk_drewN ?_ _ | refine blk_drew ?_ | refine blk_alloc ?_ _)); exact BK424.out) hb)
 have n6_ := Aside0.mk (blk_below (g := gb425) (o := .cells #[.int .i64 0, .string (⟨#[]⟩ : ByteArray), .slice none 0 0, .slice none 0 0] 27 (0, 0)) (by (with_reducible repeat (first | refine blk_drewN ?_ _ | refine blk_drew ?_ | refine blk_alloc ?_ _)); exact BK425.out) hb)
 have n7_ := Aside0.mk (below_step (by repeat (first | (with_reducible first | exact HB.out | apply below_alloc | apply pw_below_drewN | apply below_drew1 | refine below_set ?_ GE423.out | refine below_set ?_ GE424.out | refine below_set ?_ GE425.out) | exact HB.out)) hb)
 clear HO430
 clear HO433
 clear BK423
 clear BK424
 clear BK425
 clear HB
 have HO430 := n0_
 have HO433 := n1_
 have HO438 := n2_
 have HO441 := n3_
 have BK423 := n4_
 have BK424 := n5_
 have BK425 := n6_
 have HB := n7_
 clear n0_ n1_ n2_ n3_ n4_ n5_ n6_ n7_
 (try clear hb)
 (try clear hb2)
 (try clear hk)
 (try clear hi)
 (try clear ho0)
 (try clear ho1)
 obtain ⟨Ao14, co14, eo14⟩ := Kd.V_slice HO441.out
 (first | subst eo14 | (injection eo14 with f1_ f2_ f3_; have f4_ := f1_.symm; have f5_ := f3_.symm; clear f1_ f2_ f3_; subst f4_; subst f5_))
 obtain ⟨Ao15, co15, eo15⟩ := Kd.V_slice HO438.out
 (first | subst eo15 | (injection eo15 with f1_ f2_ f3_; have f4_ := f1_.symm; have f5_ := f3_.symm; clear f1_ f2_ f3_; subst f4_; subst f5_))
 refine hK.out _ _ ⟨(blk_cell BK423.out 0).trans rfl, (blk_cell BK423.out 1).trans rfl, (blk_cell BK424.out 0).trans rfl, (blk_cell BK424.out 1).trans rfl⟩ (fun hHeld => ?_)
 clear hK K
 refine norm_ (a' := ?_) ?_ ?_
 rotate_left
 ·show Act.put _ (some 9) _ = _
  simp only [Act.put, List.setIfInBounds_toArray, List.set_cons_zero, List.set_cons_succ, i64_w, i32_w]
  rfl
 refine pure_ (i := 5) (N := some 10) (v := ?_) (a' := ?_) #[true, true, true, true, true, true, false, false, false] rfl rfl (any_of HT_.out (by kernel_rfl)) (fun _ _ _ h => h) (Or.inl ⟨by rfl, ?_⟩) ?_ ?_
 rotate_left
 ·intro w'
  go_simp
  with_reducible rfl
 rotate_left
 ·simp only [Act.put, List.setIfInBounds_toArray, List.set_cons_zero, List.set_cons_succ, i64_w, i32_w]
  rfl
 refine one_ (i := 6) (N := some 11) #[true, true, true, true, true, true, true, false, false] rfl rfl (one_of HT_.out (by kernel_rfl)) (by decide) (fun K hK => ?_)
 refine Kd.N_lit_step k30 _ 30 ?hg (N' := 11) ?hd (xs := ([(⟨(⟨#[115, 116, 97, 114, 116]⟩ : ByteArray), (⟨t426, t427, t428, t431⟩ : S27)⟩ : S30), (⟨(⟨#[101, 110, 100]⟩ : ByteArray), (⟨t434, t435, t436, t439⟩ : S27)⟩ : S30)] : List (S30))) (inner := [.string (⟨#[115, 116, 97, 114, 116]⟩ : ByteArray), .int .i64 t426, .string t427, .slice Ao12 t428.length co12, .slice Ao11 t431.length co11, .string (⟨#[101, 110, 100]⟩ : ByteArray), .int .i64 t434, .string t435, .slice Ao15 t436.length co15, .slice Ao14 t439.length co14]) (ok := (fun k_ => (w.heap.size ≤ k_) ∧ k_ ≠ gb423 ∧ k_ ≠ gb424 ∧ k_ ≠ gb425)) (okp := (fun k_ => (w.heap.size ≤ k_) ∧ k_ ≠ gb423 ∧ k_ ≠ gb424 ∧ k_ ≠ gb425)) ?hr ?hp (fun _ hk => hk) ((show ∀ k_, w13.heap.size ≤ k_ → (fun k_ => (w.heap.size ≤ k_) ∧ k_ ≠ gb423 ∧ k_ ≠ gb424 ∧ k_ ≠ gb425) k_ from fun k_ hk => ⟨(Nat.le_trans (below_size (by repeat (first | (with_reducible first | exact HB.out | apply below_alloc | apply pw_below_drewN | apply below_drew1 | refine below_set ?_ GE423.out | refine below_set ?_ GE424.out | refine below_set ?_ GE425.out) | exact HB.out))) hk), Kd.freshB (g := gb423) (o := .cells #[.int .i64 a0_0, .int .i64 a0_1] 57 (0, 0)) (by (with_reducible repeat (first | refine blk_drewN ?_ _ | refine blk_drew ?_ | refine blk_alloc ?_ _)); exact BK423.out) k_ hk, Kd.freshB (g := gb424) (o := .cells #[.int .i64 a1_0, .int .i64 a1_1] 57 (0, 0)) (by (with_reducible repeat (first | refine blk_drewN ?_ _ | refine blk_drew ?_ | refine blk_alloc ?_ _)); exact BK424.out) k_ hk, Kd.freshB (g := gb425) (o := .cells #[.int .i64 0, .string (⟨#[]⟩ : ByteArray), .slice none 0 0, .slice none 0 0] 27 (0, 0)) (by (with_reducible repeat (first | refine blk_drewN ?_ _ | refine blk_drew ?_ | refine blk_alloc ?_ _)); exact BK425.out) k_ hk⟩) _ (Nat.le_refl _)) (Below.refl _ _) (Nat.le_refl _) (by simp) ?_; (case hd => rfl); (case hg => rfl); (case hr => first | (go_simp; done) | (go_simp; rfl)); (case hp => exact (Reps.c5 (show Kd.FK k30 _ _ (⟨(⟨#[115, 116, 97, 114, 116]⟩ : ByteArray), (⟨t426, t427, t428, t431⟩ : S27)⟩ : S30) [.string (⟨#[115, 116, 97, 114, 116]⟩ : ByteArray), .int .i64 t426, .string t427, .slice Ao12 t428.length co12, .slice Ao11 t431.length co11] from (k30_mkF _ _ (⟨(⟨#[115, 116, 97, 114, 116]⟩ : ByteArray), (⟨t426, t427, t428, t431⟩ : S27)⟩ : S30) (Kd.V_reads' (Kd.V_mono (ok' := (fun k_ => (w.heap.size ≤ k_) ∧ k_ ≠ gb423 ∧ k_ ≠ gb424 ∧ k_ ≠ gb425)) (HO430.out) (fun k_ hk => ⟨hk.1, ⟨hk.2.1, ⟨hk.2.2.1, hk.2.2.2⟩⟩⟩))).2.1 (Kd.V_F (Kd.V_mono (ok' := (fun k_ => (w.heap.size ≤ k_) ∧ k_ ≠ gb423 ∧ k_ ≠ gb424 ∧ k_ ≠ gb425)) (HO430.out) (fun k_ hk => ⟨hk.1, ⟨hk.2.1, ⟨hk.2.2.1, hk.2.2.2⟩⟩⟩))) (Kd.V_reads' (Kd.V_mono (ok' := (fun k_ => (w.heap.size ≤ k_) ∧ k_ ≠ gb423 ∧ k_ ≠ gb424 ∧ k_ ≠ gb425)) (HO433.out) (fun k_ hk => ⟨hk.1, ⟨hk.2.1, ⟨hk.2.2.1, hk.2.2.2⟩⟩⟩))).2.1 (Kd.V_F (Kd.V_mono (ok' := (fun k_ => (w.heap.size ≤ k_) ∧ k_ ≠ gb423 ∧ k_ ≠ gb424 ∧ k_ ≠ gb425)) (HO433.out) (fun k_ hk => ⟨hk.1, ⟨hk.2.1, ⟨hk.2.2.1, hk.2.2.2⟩⟩⟩))))) (Reps.c5 (show Kd.FK k30 _ _ (⟨(⟨#[101, 110, 100]⟩ : ByteArray), (⟨t434, t435, t436, t439⟩ : S27)⟩ : S30) [.string (⟨#[101, 110, 100]⟩ : ByteArray), .int .i64 t434, .string t435, .slice Ao15 t436.length co15, .slice Ao14 t439.length co14] from (k30_mkF _ _ (⟨(⟨#[101, 110, 100]⟩ : ByteArray), (⟨t434, t435, t436, t439⟩ : S27)⟩ : S30) (Kd.V_reads' (Kd.V_mono (ok' := (fun k_ => (w.heap.size ≤ k_) ∧ k_ ≠ gb423 ∧ k_ ≠ gb424 ∧ k_ ≠ gb425)) (HO438.out) (fun k_ hk => ⟨hk.1, ⟨hk.2.1, ⟨hk.2.2.1, hk.2.2.2⟩⟩⟩))).2.1 (Kd.V_F (Kd.V_mono (ok' := (fun k_ => (w.heap.size ≤ k_) ∧ k_ ≠ gb423 ∧ k_ ≠ gb424 ∧ k_ ≠ gb425)) (HO438.out) (fun k_ hk => ⟨hk.1, ⟨hk.2.1, ⟨hk.2.2.1, hk.2.2.2⟩⟩⟩))) (Kd.V_reads' (Kd.V_mono (ok' := (fun k_ => (w.heap.size ≤ k_) ∧ k_ ≠ gb423 ∧ k_ ≠ gb424 ∧ k_ ≠ gb425)) (HO441.out) (fun k_ hk => ⟨hk.1, ⟨hk.2.1, ⟨hk.2.2.1, hk.2.2.2⟩⟩⟩))).2.1 (Kd.V_F (Kd.V_mono (ok' := (fun k_ => (w.heap.size ≤ k_) ∧ k_ ≠ gb423 ∧ k_ ≠ gb424 ∧ k_ ≠ gb425)) (HO441.out) (fun k_ hk => ⟨hk.1, ⟨hk.2.1, ⟨hk.2.2.1, hk.2.2.2⟩⟩⟩))))) (Reps.none _ _))))
 intro v443 w16 ho17 hb hg_ hnew_
 clear hg_ hnew_
 (first | rw [← Ny442.out] at ho17 | (simp only [Int.reduceToNat] at ho17; rw [← Ny442.out] at ho17))
 have n0_ := Aside0.mk (Kd.V_elder' (by (with_reducible repeat (first | apply Kd.V_alloc | apply Kd.V_drewN | apply Kd.V_drew)); exact HO430.out) (Kd.N_base ho17) hb)
 have n1_ := Aside0.mk (Kd.V_elder' (by (with_reducible repeat (first | apply Kd.V_alloc | apply Kd.V_drewN | apply Kd.V_drew)); exact HO433.out) (Kd.N_base ho17) hb)
 have n2_ := Aside0.mk (Kd.V_elder' (by (with_reducible repeat (first | apply Kd.V_alloc | apply Kd.V_drewN | apply Kd.V_drew)); exact HO438.out) (Kd.N_base ho17) hb)
 have n3_ := Aside0.mk (Kd.V_elder' (by (with_reducible repeat (first | apply Kd.V_alloc | apply Kd.V_drewN | apply Kd.V_drew)); exact HO441.out) (Kd.N_base ho17) hb)
 have n4_ := Aside0.mk (Kd.N_lower ho17 (below_size (by repeat (first | (with_reducible first | exact HB.out | apply below_alloc | apply pw_below_drewN | apply below_drew1 | refine below_set ?_ GE423.out | refine below_set ?_ GE424.out | refine below_set ?_ GE425.out) | exact HB.out))))
 have n5_ := Aside0.mk (blk_below (g := gb423) (o := .cells #[.int .i64 a0_0, .int .i64 a0_1] 57 (0, 0)) (by (with_reducible repeat (first | refine blk_drewN ?_ _ | refine blk_drew ?_ | refine blk_alloc ?_ _)); exact BK423.out) hb)
 have n6_ := Aside0.mk (blk_below (g := gb424) (o := .cells #[.int .i64 a1_0, .int .i64 a1_1] 57 (0, 0)) (by (with_reducible repeat (first | refine blk_drewN ?_ _ | refine blk_drew ?_ | refine blk_alloc ?_ _)); exact BK424.out) hb)
 have n7_ := Aside0.mk (blk_below (g := gb425) (o := .cells #[.int .i64 0, .string (⟨#[]⟩ : ByteArray), .slice none 0 0, .slice none 0 0] 27 (0, 0)) (by (with_reducible repeat (first | refine blk_drewN ?_ _ | refine blk_drew ?_ | refine blk_alloc ?_ _)); exact BK425.out) hb)
 have n8_ := Aside0.mk (below_step (by repeat (first | (with_reducible first | exact HB.out | apply below_alloc | apply pw_below_drewN | apply below_drew1 | refine below_set ?_ GE423.out | refine below_set ?_ GE424.out | refine below_set ?_ GE425.out) | exact HB.out)) hb)
 clear HO430
 clear HO433
 clear HO438
 clear HO441
 clear BK423
 clear BK424
 clear BK425
 clear HB
 have HO430 := n0_
 have HO433 := n1_
 have HO438 := n2_
 have HO441 := n3_
 have HO444 := n4_
 have BK423 := n5_
 have BK424 := n6_
 have BK425 := n7_
 have HB := n8_
 clear n0_ n1_ n2_ n3_ n4_ n5_ n6_ n7_ n8_
 clear hb ho17
 obtain ⟨Ao18, co18, eo18⟩ := Kd.N_slice HO444.out
 (first | subst eo18 | (injection eo18 with f1_ f2_ f3_; have f4_ := f1_.symm; have f5_ := f3_.symm; clear f1_ f2_ f3_; subst f4_; subst f5_))
 refine hK.out _ _ ⟨(blk_cell BK423.out 0).trans rfl, (blk_cell BK423.out 1).trans rfl, (blk_cell BK424.out 0).trans rfl, (blk_cell BK424.out 1).trans rfl⟩ (fun hHeld => ?_)
 clear hK K
 refine norm_ (a' := ?_) ?_ ?_
 rotate_left
 ·show Act.put _ (some 11) _ = _
  simp only [Act.put, List.setIfInBounds_toArray, List.set_cons_zero, List.set_cons_succ, i64_w, i32_w]
  rfl
 refine one_ (i := 7) (N := some 12) #[true, true, true, true, true, true, true, true, false] rfl rfl (one_of HT_.out (by kernel_rfl)) (by decide) (fun K hK => ?_)
 refine goes_ Tryd.func11 (by kernel_rfl) rfl #[.slice Ao18 y442.length co18] (by rfl) rfl rfl (by (try simp only [List.map_toArray, List.map_cons, List.map_nil]); first | done | rfl | (simp only [List.length_drop, List.length_take]; rfl)) ?_
 with_reducible refine (json_Made.calls (fun k_ => ((w.heap.size ≤ k_) ∧ (k_ ≠ gb423 ∧ (k_ ≠ gb424 ∧ k_ ≠ gb425)))) _ _ y442 t445 t446 t447 t450 _ ?side1 A5.out).mono ?_
 (case side1 => exact Kd.N_V (HO444.out))
 rintro e w19 ⟨v448, v451, rfl, ho0, ho1, hb⟩
 refine ⟨_, rfl, ?_⟩
 have n0_ := Aside0.mk (Kd.V_below (by (with_reducible repeat (first | apply Kd.V_alloc | apply Kd.V_drewN | apply Kd.V_drew)); exact HO430.out) hb)
 have n1_ := Aside0.mk (Kd.V_below (by (with_reducible repeat (first | apply Kd.V_alloc | apply Kd.V_drewN | apply Kd.V_drew)); exact HO433.out) hb)
 have n2_ := Aside0.mk (Kd.V_below (by (with_reducible repeat (first | apply Kd.V_alloc | apply Kd.V_drewN | apply Kd.V_drew)); exact HO438.out) hb)
 have n3_ := Aside0.mk (Kd.V_below (by (with_reducible repeat (first | apply Kd.V_alloc | apply Kd.V_drewN | apply Kd.V_drew)); exact HO441.out) hb)
 have n4_ := Aside0.mk (Kd.N_below (by (with_reducible repeat (first | apply Kd.N_alloc | apply Kd.N_drewN | apply Kd.N_drew)); exact HO444.out) hb)
 have n5_ := Aside0.mk (Kd.V_lower (Kd.V_mono (ok' := fun k_ => (w.heap.size ≤ k_) ∧ k_ ≠ gb423 ∧ k_ ≠ gb424 ∧ k_ ≠ gb425) ho0 (fun k_ hk_ => ⟨Or.elim hk_ (fun hs_ => hs_.1) (fun hn_ => (Nat.le_trans (below_size (by repeat (first | (with_reducible first | exact HB.out | apply below_alloc | apply pw_below_drewN | apply below_drew1 | refine below_set ?_ GE423.out | refine below_set ?_ GE424.out | refine below_set ?_ GE425.out) | exact HB.out))) hn_)), Or.elim hk_ (fun hs_ => hs_.2.1) (fun hn_ => (Kd.freshB (g := gb423) (o := .cells #[.int .i64 a0_0, .int .i64 a0_1] 57 (0, 0)) (by (with_reducible repeat (first | refine blk_drewN ?_ _ | refine blk_drew ?_ | refine blk_alloc ?_ _)); exact BK423.out) k_ hn_)), Or.elim hk_ (fun hs_ => hs_.2.2.1) (fun hn_ => (Kd.freshB (g := gb424) (o := .cells #[.int .i64 a1_0, .int .i64 a1_1] 57 (0, 0)) (by (with_reducible repeat (first | refine blk_drewN ?_ _ | refine blk_drew ?_ | refine blk_alloc ?_ _)); exact BK424.out) k_ hn_)), Or.elim hk_ (fun hs_ => hs_.2.2.2) (fun hn_ => (Kd.freshB (g := gb425) (o := .cells #[.int .i64 0, .string (⟨#[]⟩ : ByteArray), .slice none 0 0, .slice none 0 0] 27 (0, 0)) (by (with_reducible repeat (first | refine blk_drewN ?_ _ | refine blk_drew ?_ | refine blk_alloc ?_ _)); exact BK425.out) k_ hn_))⟩)) (below_size (by repeat (first | (with_reducible first | exact HB.out | apply below_alloc | apply pw_below_drewN | apply below_drew1 | refine below_set ?_ GE423.out | refine below_set ?_ GE424.out | refine below_set ?_ GE425.out) | exact HB.out))))
 have n6_ := Aside0.mk (Kd.V_lower (Kd.V_mono (ok' := fun k_ => (w.heap.size ≤ k_) ∧ k_ ≠ gb423 ∧ k_ ≠ gb424 ∧ k_ ≠ gb425) ho1 (fun k_ hk_ => ⟨Or.elim hk_ (fun hs_ => hs_.1) (fun hn_ => (Nat.le_trans (below_size (by repeat (first | (with_reducible first | exact HB.out | apply below_alloc | apply pw_below_drewN | apply below_drew1 | refine below_set ?_ GE423.out | refine below_set ?_ GE424.out | refine below_set ?_ GE425.out) | exact HB.out))) hn_)), Or.elim hk_ (fun hs_ => hs_.2.1) (fun hn_ => (Kd.freshB (g := gb423) (o := .cells #[.int .i64 a0_0, .int .i64 a0_1] 57 (0, 0)) (by (with_reducible repeat (first | refine blk_drewN ?_ _ | refine blk_drew ?_ | refine blk_alloc ?_ _)); exact BK423.out) k_ hn_)), Or.elim hk_ (fun hs_ => hs_.2.2.1) (fun hn_ => (Kd.freshB (g := gb424) (o := .cells #[.int .i64 a1_0, .int .i64 a1_1] 57 (0, 0)) (by (with_reducible repeat (first | refine blk_drewN ?_ _ | refine blk_drew ?_ | refine blk_alloc ?_ _)); exact BK424.out) k_ hn_)), Or.elim hk_ (fun hs_ => hs_.2.2.2) (fun hn_ => (Kd.freshB (g := gb425) (o := .cells #[.int .i64 0, .string (⟨#[]⟩ : ByteArray), .slice none 0 0, .slice none 0 0] 27 (0, 0)) (by (with_reducible repeat (first | refine blk_drewN ?_ _ | refine blk_drew ?_ | refine blk_alloc ?_ _)); exact BK425.out) k_ hn_))⟩)) (below_size (by repeat (first | (with_reducible first | exact HB.out | apply below_alloc | apply pw_below_drewN | apply below_drew1 | refine below_set ?_ GE423.out | refine below_set ?_ GE424.out | refine below_set ?_ GE425.out) | exact HB.out))))
 have n7_ := Aside0.mk (blk_below (g := gb423) (o := .cells #[.int .i64 a0_0, .int .i64 a0_1] 57 (0, 0)) (by (with_reducible repeat (first | refine blk_drewN ?_ _ | refine blk_drew ?_ | refine blk_alloc ?_ _)); exact BK423.out) hb)
 have n8_ := Aside0.mk (blk_below (g := gb424) (o := .cells #[.int .i64 a1_0, .int .i64 a1_1] 57 (0, 0)) (by (with_reducible repeat (first | refine blk_drewN ?_ _ | refine blk_drew ?_ | refine blk_alloc ?_ _)); exact BK424.out) hb)
 have n9_ := Aside0.mk (blk_below (g := gb425) (o := .cells #[.int .i64 0, .string (⟨#[]⟩ : ByteArray), .slice none 0 0, .slice none 0 0] 27 (0, 0)) (by (with_reducible repeat (first | refine blk_drewN ?_ _ | refine blk_drew ?_ | refine blk_alloc ?_ _)); exact BK425.out) hb)
 have n10_ := Aside0.mk (below_step (by repeat (first | (with_reducible first | exact HB.out | apply below_alloc | apply pw_below_drewN | apply below_drew1 | refine below_set ?_ GE423.out | refine below_set ?_ GE424.out | refine below_set ?_ GE425.out) | exact HB.out)) hb)
 clear HO430
 clear HO433
 clear HO438
 clear HO441
 clear HO444
 clear BK423
 clear BK424
 clear BK425
 clear HB
 have HO430 := n0_
 have HO433 := n1_
 have HO438 := n2_
 have HO441 := n3_
 have HO444 := n4_
 have HO449 := n5_
 have HO452 := n6_
 have BK423 := n7_
 have BK424 := n8_
 have BK425 := n9_
 have HB := n10_
 clear n0_ n1_ n2_ n3_ n4_ n5_ n6_ n7_ n8_ n9_ n10_
 (try clear hb)
 (try clear hb2)
 (try clear hk)
 (try clear hi)
 (try clear ho0)
 (try clear ho1)
 obtain ⟨Ao22, co22, eo22⟩ := Kd.V_slice HO449.out
 (first | subst eo22 | (injection eo22 with f1_ f2_ f3_; have f4_ := f1_.symm; have f5_ := f3_.symm; clear f1_ f2_ f3_; subst f4_; subst f5_))
 obtain ⟨Ao24, co24, eo24⟩ := Kd.V_slice HO452.out
 (first | subst eo24 | (injection eo24 with f1_ f2_ f3_; have f4_ := f1_.symm; have f5_ := f3_.symm; clear f1_ f2_ f3_; subst f4_; subst f5_))
 refine hK.out _ _ ⟨(blk_cell BK423.out 0).trans rfl, (blk_cell BK423.out 1).trans rfl, (blk_cell BK424.out 0).trans rfl, (blk_cell BK424.out 1).trans rfl⟩ (fun hHeld => ?_)
 clear hK K
 refine norm_ (a' := ?_) ?_ ?_
 rotate_left
 ·show Act.put _ (some 12) _ = _
  simp only [Act.put, List.setIfInBounds_toArray, List.set_cons_zero, List.set_cons_succ, i64_w, i32_w]
  rfl
 refine one_ (i := 8) (N := none) #[true, true, true, true, true, true, true, true, true] rfl rfl (one_of HT_.out (by kernel_rfl)) (by decide) (fun K hK => ?_)
 have hs20 : w19.cell? ⟨gb425, 0, none⟩ = some (.int .i64 0) := (blk_cell BK425.out 0).trans rfl
 have hfs20 := blk_frozen BK425.out 0
 have hns20_0 := NB423_425.out
 have hns20_1 := NB424_425.out
 have hms20_0 := NB425_423.out
 have hms20_1 := NB425_424.out
 have hs21 : w19.cell? ⟨gb425, 1, none⟩ = some (.string (⟨#[]⟩ : ByteArray)) := (blk_cell BK425.out 1).trans rfl
 have hfs21 := blk_frozen BK425.out 1
 have hns21_0 := NB423_425.out
 have hns21_1 := NB424_425.out
 have hms21_0 := NB425_423.out
 have hms21_1 := NB425_424.out
 have hs23 : w19.cell? ⟨gb425, 2, none⟩ = some (.slice none 0 0) := (blk_cell BK425.out 2).trans rfl
 have hfs23 := blk_frozen BK425.out 2
 have hns23_0 := NB423_425.out
 have hns23_1 := NB424_425.out
 have hms23_0 := NB425_423.out
 have hms23_1 := NB425_424.out
 have hs25 : w19.cell? ⟨gb425, 3, none⟩ = some (.slice none 0 0) := (blk_cell BK425.out 3).trans rfl
 have hfs25 := blk_frozen BK425.out 3
 have hns25_0 := NB423_425.out
 have hns25_1 := NB424_425.out
 have hms25_0 := NB425_423.out
 have hms25_1 := NB425_424.out
 refine skip_ (w1 := ?_) (by rfl) rfl ?_ ?_
 rotate_left
 ·go_simp
  rfl
 refine hK.out _ _ ⟨((cell_far (p := ⟨gb425, _, none⟩) NB423_425.out _).trans (((cell_far (p := ⟨gb425, _, none⟩) NB423_425.out _).trans (((cell_far (p := ⟨gb425, _, none⟩) NB423_425.out _).trans (((cell_far (p := ⟨gb425, _, none⟩) NB423_425.out _).trans (hHeld.1)))))))), ((cell_far (p := ⟨gb425, _, none⟩) NB423_425.out _).trans (((cell_far (p := ⟨gb425, _, none⟩) NB423_425.out _).trans (((cell_far (p := ⟨gb425, _, none⟩) NB423_425.out _).trans (((cell_far (p := ⟨gb425, _, none⟩) NB423_425.out _).trans (hHeld.2.1)))))))), ((cell_far (p := ⟨gb425, _, none⟩) NB424_425.out _).trans (((cell_far (p := ⟨gb425, _, none⟩) NB424_425.out _).trans (((cell_far (p := ⟨gb425, _, none⟩) NB424_425.out _).trans (((cell_far (p := ⟨gb425, _, none⟩) NB424_425.out _).trans (hHeld.2.2.1)))))))), ((cell_far (p := ⟨gb425, _, none⟩) NB424_425.out _).trans (((cell_far (p := ⟨gb425, _, none⟩) NB424_425.out _).trans (((cell_far (p := ⟨gb425, _, none⟩) NB424_425.out _).trans (((cell_far (p := ⟨gb425, _, none⟩) NB424_425.out _).trans (hHeld.2.2.2))))))))⟩ (fun hHeld => ?_)
 clear hK K
 refine done_ (done_of HT_.out (by kernel_rfl)) ?_
 try go_wp2
 refine bodyPost_ret (results_cell_row rfl _ _ gb425 27 #[.int .i64 t445, .string t446, .slice Ao22 t447.length co22, .slice Ao24 t450.length co24] (0, 0) _ rfl (by (with_reducible repeat (first | refine blk_drewN ?_ _ | refine blk_drew ?_ | refine blk_alloc ?_ _)); refine blk_put (cs := #[.int .i64 t445, .string t446, .slice Ao22 t447.length co22, .slice none 0 0]) ?_ 3 _ rfl; (with_reducible repeat (first | refine blk_drewN ?_ _ | refine blk_drew ?_ | refine blk_alloc ?_ _)); refine blk_put (cs := #[.int .i64 t445, .string t446, .slice none 0 0, .slice none 0 0]) ?_ 2 _ rfl; (with_reducible repeat (first | refine blk_drewN ?_ _ | refine blk_drew ?_ | refine blk_alloc ?_ _)); refine blk_put (cs := #[.int .i64 t445, .string (⟨#[]⟩ : ByteArray), .slice none 0 0, .slice none 0 0]) ?_ 1 _ rfl; (with_reducible repeat (first | refine blk_drewN ?_ _ | refine blk_drew ?_ | refine blk_alloc ?_ _)); refine blk_put (cs := #[.int .i64 0, .string (⟨#[]⟩ : ByteArray), .slice none 0 0, .slice none 0 0]) ?_ 0 _ rfl; (with_reducible repeat (first | refine blk_drewN ?_ _ | refine blk_drew ?_ | refine blk_alloc ?_ _)); exact BK425.out) Tryd.underlying27 rfl (by kernel_rfl)) rfl ?_
 exact ⟨_, _, by first | rfl | (simp [errW_none, errW_some] <;> rfl) | (simp [*, errW_none, errW_some] <;> rfl), by (with_reducible repeat (first | apply Kd.V_alloc | apply Kd.V_drewN | apply Kd.V_drew)); exact Kd.V_mono (Kd.V_far (p := ⟨gb425, 3, none⟩) (Kd.V_far (p := ⟨gb425, 2, none⟩) (Kd.V_far (p := ⟨gb425, 1, none⟩) (Kd.V_far (p := ⟨gb425, 0, none⟩) (Kd.V_mono HO449.out (fun k_ hk => (⟨hk, hk.2.2.2⟩ : _ ∧ k_ ≠ gb425))) (fun _ hk => hk.2) (.int .i64 t445)) (fun _ hk => hk.2) (.string t446)) (fun _ hk => hk.2) (.slice Ao22 t447.length co22)) (fun _ hk => hk.2) (.slice Ao24 t450.length co24)) (fun _ hk => hk.1.1), by (with_reducible repeat (first | apply Kd.V_alloc | apply Kd.V_drewN | apply Kd.V_drew)); exact Kd.V_mono (Kd.V_far (p := ⟨gb425, 3, none⟩) (Kd.V_far (p := ⟨gb425, 2, none⟩) (Kd.V_far (p := ⟨gb425, 1, none⟩) (Kd.V_far (p := ⟨gb425, 0, none⟩) (Kd.V_mono HO452.out (fun k_ hk => (⟨hk, hk.2.2.2⟩ : _ ∧ k_ ≠ gb425))) (fun _ hk => hk.2) (.int .i64 t445)) (fun _ hk => hk.2) (.string t446)) (fun _ hk => hk.2) (.slice Ao22 t447.length co22)) (fun _ hk => hk.2) (.slice Ao24 t450.length co24)) (fun _ hk => hk.1.1), by repeat (first | (with_reducible first | exact HB.out | apply below_alloc | apply pw_below_drewN | apply below_drew1 | refine below_set ?_ GE423.out | refine below_set ?_ GE424.out | refine below_set ?_ GE425.out) | exact HB.out)⟩
end Go.Proofs.YteighppcdpaekaaDoor.P
end
