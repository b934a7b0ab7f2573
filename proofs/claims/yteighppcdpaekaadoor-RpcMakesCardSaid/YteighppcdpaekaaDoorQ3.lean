/- Walks and words of this session, put together by a program of this session (pack.py). Conditions: as each text says. -/
import Derived.Lib.Hide
import Derived.Test.YteighppcdpaekaaDoorQ2
set_option linter.unusedVariables false
set_option linter.unusedSimpArgs false
section
namespace Go.Proofs.YteighppcdpaekaaDoor.P
open Go.RowKit Go.Proofs.YteighppcdpaekaaDoorW.PrintWords
section
variable {P : Program} {ops : Array Oper} {Q : Exit → Act → World → Prop} {a0 : Act} {C : World → Prop} {G : Nat → World → Prop} {R : Nat → Option Nat → Value → World → Prop} {p : Nat} {Z : Obj}
def FX (ops : Array Oper) (a0 : Act) (C : World → Prop) (G : Nat → World → Prop) (p : Nat) (R : Nat → Option Nat → Value → World → Prop) (l : Array Bool) (a : Act) (w : World) : Prop :=
 l.size = ops.size ∧ Closed ops l ∧ C w ∧ ∃ e o, a = fill (dsts ops) 0 e (lf l) a0 ∧ (∀ g, o = some g → lf l p = true ∧ e p = .pointer (some ⟨g, 0, none⟩) ∧ G g w) ∧ (o = none → lf l p = false) ∧ ∀ j, lf l j = true → j ≠ p → R j o (e j) w
def StepX (P : Program) (ops : Array Oper) (Q : Exit → Act → World → Prop) (a0 : Act) (C : World → Prop) (G : Nat → World → Prop) (p : Nat) (R : Nat → Option Nat → Value → World → Prop) (i : Nat) : Prop :=
 ∀ o, ops[i]? = some o → ∀ (b : Option Nat) (e : Nat → Value) (a : Act) (w : World), C w → (∀ g, b = some g → G g w) → (∀ x ∈ o.after, Region.binds .any x = true → (x.on ≠ p → R x.on b (e x.on) w) ∧ ∀ t, (ops[x.on]?).bind (·.dst) = some t → a.tmps[t]? = some (e x.on)) →
  (∀ t, some t ∉ dsts ops → a.tmps[t]? = a0.tmps[t]?) → ∀ K : Act → World → Prop, (∀ v w', Below w.heap.size w w' → R i b v w' → K (a.put o.dst v) w') →
  if Region.wanted o (yielded ops a.tmps) = true then Oper.wp P o a w K Q else K (a.put o.dst undef) w
def StepP (P : Program) (ops : Array Oper) (Q : Exit → Act → World → Prop) (C : World → Prop) (G : Nat → World → Prop) (p : Nat) (Z : Obj) : Prop :=
 ∀ o, ops[p]? = some o → ∀ (a : Act) (w : World), C w → G w.heap.size (w.alloc Z) ∧ ∀ K : Act → World → Prop, K (a.put o.dst (.pointer (some ⟨w.heap.size, 0, none⟩))) (w.alloc Z) →
  if Region.wanted o (yielded ops a.tmps) = true then Oper.wp P o a w K Q else K (a.put o.dst undef) w
theorem closed_set {l : Array Bool} {i : Nat} {o : Oper} (hc : Closed ops l) (hisz : i < l.size) (ho : ops[i]? = some o) (hw : ∀ x ∈ o.after, Region.binds .any x = true → lf l x.on = true) : Closed ops (l.setIfInBounds i true) := by
 intro k hk x hx;rw [lf_set hisz] at hk ⊢
 dsimp only at hk ⊢
 by_cases hxi : x = i
 ·rw [if_pos hxi]
 ·rw [if_neg hxi]
  by_cases hki : k = i
  ·subst hki
   obtain ⟨o', ho', y, hy, hyb, rfl⟩ := waits_mem hx;obtain rfl := Option.some.inj (ho.symm.trans ho');exact hw y hy hyb
  ·rw [if_neg hki] at hk
   exact hc k hk x hx
theorem fx_step (hA : apart (dsts ops) = true) (hT : ∀ t, some t ∈ dsts ops → t < a0.tmps.size) (hC : ∀ w w', C w → Below w.heap.size w w' → C w') (hGb : ∀ g w w', G g w → Below w.heap.size w w' → G g w') (hR : ∀ j b v w w', R j b v w → Below w.heap.size w w' → R j b v w') (hRG : ∀ j v w, R j none v w → R j (some w.heap.size) v (w.alloc Z))
  {l : Array Bool} {a : Act} {w : World} {i : Nat} (hI : FX ops a0 C G p R l a w) (hi : i ∈ Region.ready .any ops l) (hS : i ≠ p → StepX P ops Q a0 C G p R i) (hP : StepP P ops Q C G p Z) {K : Act → World → Prop} (hK : ∀ a' w', FX ops a0 C G p R (l.setIfInBounds i true) a' w' → K a' w') : wpOp P ops Q i K a w := by
 obtain ⟨hs, hc, hCw, e, b, rfl, hb1, hb2, hr⟩ := hI;obtain ⟨o, ho, hli, hisz, hw⟩ := ready_mem hi hs;have hcl := closed_set hc hisz ho hw
 have hfill : ∀ v, (fill (dsts ops) 0 e (lf l) a0).put o.dst v = fill (dsts ops) 0 (fun j => if j = i then v else e j) (lf (l.setIfInBounds i true)) a0 := fun v => by
  rw [lf_set hisz];have := fill_set (e := e) (l := lf l) (v := v) (dsts ops) 0 i a0 o.dst hA (dst_at ho) (by rw [Nat.zero_add]; exact hli)
  simpa using this
 refine wpOp_step ho (fun K' hK' => ?_);by_cases hip : i = p
 ·subst hip
  have hbn : b = none := by
   cases b with
   | none => rfl
   | some g => rw [hli] at hb1; exact absurd (hb1 g rfl).1 (by simp)
  subst hbn;obtain ⟨hG, hP⟩ := hP o ho (fill (dsts ops) 0 e (lf l) a0) w hCw;refine hP K' (hK' _ _ (hK _ _ ⟨by simp [hs], hcl, hC _ _ hCw (bal (Below.refl _ _) _), _, some w.heap.size, hfill _, fun g hg => ?_, fun h => by simp at h, fun j hj hjp => ?_⟩))
  ·obtain rfl := Option.some.inj hg
   rw [lf_set hisz];exact ⟨by simp, by simp, hG⟩
  ·rw [lf_set hisz] at hj
   dsimp only at hj ⊢
   rw [if_neg hjp] at hj ⊢;exact hRG _ _ _ (hr j hj hjp)
 ·refine hS hip o ho b e _ w hCw (fun g hg => (hb1 g hg).2.2) (fun x hx hbx => ⟨fun hxp => hr _ (hw x hx hbx) hxp, fun t ht => ?_⟩) (fun t ht => fill_other _ 0 a0 ht) K' (fun v w' hbw hv => hK' _ _ (hK _ _ ⟨by simp [hs], hcl, hC _ _ hCw hbw, _, b, hfill v, fun g hg => ?_, fun h => ?_, fun j hj hjp => ?_⟩))
  ·cases hox : ops[x.on]? with
   | none => rw [hox] at ht; simp at ht
   | some y =>
    rw [hox] at ht;have hd := dst_at hox;rw [show y.dst = some t from ht] at hd;have := fill_at (e := e) (l := lf l) (dsts ops) 0 x.on a0 hA hd (by rw [Nat.zero_add]; exact hw x hx hbx) (hT t (List.mem_of_getElem? hd));rw [Nat.zero_add] at this;exact this
  ·obtain ⟨h1, h2, h3⟩ := hb1 g hg
   rw [lf_set hisz]
   dsimp only
   rw [if_neg (Ne.symm hip), if_neg (Ne.symm hip)];exact ⟨h1, h2, hGb _ _ _ h3 hbw⟩
  ·rw [lf_set hisz]
   dsimp only
   rw [if_neg (Ne.symm hip)];exact hb2 h
  ·rw [lf_set hisz] at hj
   dsimp only at hj ⊢
   by_cases hji : j = i
   ·subst hji; simpa using hv
   ·rw [if_neg hji] at hj ⊢
    exact hR _ _ _ _ _ (hr j hj hjp) hbw
theorem flow_butX {m : Nat} (hpm : p < m) (hm : ops.size = m + 1) (hM : (List.range m).all (marks ops m (waits ops m)).contains = true) (hE : early ops = true) (hA : apart (dsts ops) = true) (hT : ∀ t, some t ∈ dsts ops → t < a0.tmps.size) (hC : ∀ w w', C w → Below w.heap.size w w' → C w') (hGb : ∀ g w w', G g w → Below w.heap.size w w' → G g w') (hR : ∀ j b v w w', R j b v w → Below w.heap.size w w' → R j b v w') (hRG : ∀ j v w, R j none v w → R j (some w.heap.size) v (w.alloc Z))
  (hS : ∀ i, i < m → i ≠ p → StepX P ops Q a0 C G p R i) (hP : StepP P ops Q C G p Z) (hQ : ∀ o, ops[m]? = some o → ∀ e w g, C w → e p = .pointer (some ⟨g, 0, none⟩) → G g w → (∀ j, j < m → j ≠ p → R j (some g) (e j) w) → ∀ a, a = fill (dsts ops) 0 e (fun j => decide (j < m)) a0 → ∀ K : Act → World → Prop, (∀ a' w', Q .normal a' w' → K a' w') → if Region.wanted o (yielded ops a.tmps) = true then Oper.wp P o a w K Q else K (a.put o.dst undef) w) :
  ∀ fuel l a w, FX ops a0 C G p R l a w → lf l m = false → cnt (lf l) ops.size ≤ fuel → wpAny P .any ops Q fuel l a w
 | 0, l, a, w, hI, hl, hn => by
  have := cnt_set hl ops.size (by omega)
  omega
 | fuel + 1, l, a, w, hI, hl, hn => by
  refine ⟨fun hr => ?_, fun i hi => ?_⟩
  ·have := ready_nil hr hE hI.1 m (by omega)
   rw [hl] at this;cases this
  ·obtain ⟨o, ho, hli, hisz, hw⟩ := ready_mem hi hI.1
   have hnx := cnt_next hi hI.1;have hilt := (Array.getElem?_eq_some_iff.1 ho).1;by_cases him : i = m
   ·subst him
    obtain ⟨hs, hc, hCw, e, b, rfl, hb1, hb2, hr⟩ := hI
    have hall : ∀ j, j < i → lf l j = true := fun j hj => by
     have h1 := List.all_eq_true.1 hM j (List.mem_range.2 hj);refine marks_listed hc i _ (fun x hx => ?_) j (by simpa using h1);obtain ⟨o', ho', y, hy, hyb, rfl⟩ := waits_mem hx;obtain rfl := Option.some.inj (ho.symm.trans ho');exact hw y hy hyb
    have hnil : Region.ready .any ops (l.setIfInBounds i true) = [] := by
     refine ready_zero (by simp [hs]) ?_
     have hz : ∀ n, (∀ j, j < n → lf (l.setIfInBounds i true) j = true) → cnt (lf (l.setIfInBounds i true)) n = 0 := fun n => by
      induction n with
      | zero => intro _; rfl
      | succ n ih => intro h; simp only [cnt]; rw [ih (fun j hj => h j (by omega)), if_pos (h n (by omega))]
     refine hz _ (fun j hj => ?_);rw [lf_set hisz]
     dsimp only
     by_cases hji : j = i
     ·rw [if_pos hji]
     ·rw [if_neg hji]; exact hall j (by omega)
    obtain ⟨g, rfl⟩ : ∃ g, b = some g := by
     cases b with
     | none => have := hb2 rfl; rw [hall p hpm] at this; cases this
     | some g => exact ⟨g, rfl⟩
    obtain ⟨_, hep, hG⟩ := hb1 g rfl;refine wpOp_step ho (fun K' hK' => ?_);refine hQ o ho e w g hCw hep hG (fun j hj hjp => hr j (hall j hj) hjp) _ (fill_congr _ 0 a0 (fun j _ hj => ?_)) K' (fun a' w' hq => hK' _ _ ?_)
    ·have hj2 : j < ops.size := by simpa [dsts] using hj
     refine ⟨?_, fun _ => rfl⟩;by_cases hji : j < i
     ·rw [hall j hji]; simp [hji]
     ·obtain rfl : j = i := by omega
      rw [hl]; simp
    ·cases fuel with
     | zero => exact ⟨hnil, hq⟩
     | succ fuel => exact ⟨fun _ => hq, by rw [hnil]; intro _ h; cases h⟩
   ·refine fx_step hA hT hC hGb hR hRG hI hi (fun hip => hS i (by omega) hip) hP (fun a' w' hI' => flow_butX hpm hm hM hE hA hT hC hGb hR hRG hS hP hQ fuel _ a' w' hI' ?_ (by omega))
    rw [lf_set hisz]
    dsimp only
    rw [if_neg (Ne.symm him)];exact hl
theorem fx_start {w0 : World} (h : C w0) : FX ops a0 C G p R (Array.replicate ops.size false) a0 w0 := by
 obtain ⟨h1, h2, h3, e, h4, h5⟩ := fi_start (ops := ops) (a0 := a0) (C := C) (R := fun _ _ _ => False) h
 have hl : ∀ j, lf (Array.replicate ops.size false) j = false := fun j => by
  unfold lf;rw [Array.getD_eq_getD_getElem?, Array.getElem?_replicate]
  split <;> rfl
 exact ⟨h1, h2, h3, e, none, h4, (fun g hg => by cases hg), fun _ => hl p, (fun j hj => by rw [hl] at hj; cases hj)⟩
def AtX (P : Program) (ops : Array Oper) (Q : Exit → Act → World → Prop) (D : List (Option Tmp)) (W : List (List Nat)) (a0 : Act) (C : World → Prop) (G : Nat → World → Prop) (p : Nat) (R : Nat → Option Nat → Value → World → Prop) (i : Nat) : Prop :=
 i ≠ p → ∀ (b : Option Nat) (e : Nat → Value) (a : Act) (w : World), C w → (∀ g, b = some g → G g w) → (∀ j, j ∈ W.getD i [] → (j ≠ p → R j b (e j) w) ∧ ∀ t, D[j]? = some (some t) → a.tmps[t]? = some (e j)) → (∀ t, some t ∉ D → a.tmps[t]? = a0.tmps[t]?) →
  ∀ K : Act → World → Prop, Sdq (∀ v w', Below w.heap.size w w' → R i b v w' → K (a.put (D.getD i none) v) w') →
  match ops[i]? with
  | some o => if Region.wanted o (yielded ops a.tmps) = true then Oper.wp P o a w K Q else K (a.put (D.getD i none) undef) w
  | none => True
theorem AtX.of {D : List (Option Tmp)} {W : List (List Nat)} {i : Nat} (o : Oper) (ho : ops[i]? = some o) (h : ∀ (b : Option Nat) (e : Nat → Value) (a : Act) (w : World), C w → (∀ g, b = some g → G g w) → (∀ j, j ∈ W.getD i [] → (j ≠ p → R j b (e j) w) ∧ ∀ t, D[j]? = some (some t) → a.tmps[t]? = some (e j)) → (∀ t, some t ∉ D → a.tmps[t]? = a0.tmps[t]?) →
  ∀ K : Act → World → Prop, Sdq (∀ v w', Below w.heap.size w w' → R i b v w' → K (a.put (D.getD i none) v) w') → if Region.wanted o (yielded ops a.tmps) = true then Oper.wp P o a w K Q else K (a.put (D.getD i none) undef) w) : AtX P ops Q D W a0 C G p R i := by
 intro _ b e a w h1 h1' h2 h3 K h4;rw [ho];exact h b e a w h1 h1' h2 h3 K h4
theorem stepx_at {D : List (Option Tmp)} {W : List (List Nat)} (h : tabOf ops = (D, W)) {i : Nat} (hip : i ≠ p) (hs : AtX P ops Q D W a0 C G p R i) : StepX P ops Q a0 C G p R i := by
 intro o ho b e a w hC hG hd hb K hK;have hD : dsts ops = D := congrArg Prod.fst h;have hi := (Array.getElem?_eq_some_iff.1 ho).1;have := hs hip b e a w hC hG (fun j hj => ?_) (fun t ht => hb t (by rw [hD]; exact ht)) K ⟨fun v w' h1 h2 => by rw [dst_tab h ho]; exact hK v w' h1 h2⟩
 ·rw [ho, dst_tab h ho] at this
  exact this
 ·rw [waits_tab h i hi] at hj
  obtain ⟨o', ho', y, hy, hyb, rfl⟩ := waits_mem hj;obtain rfl := Option.some.inj (ho.symm.trans ho');obtain ⟨h1, h2⟩ := hd y hy hyb;refine ⟨h1, fun t ht => h2 t ?_⟩
  cases hy2 : ops[y.on]? with
  | none =>
   rw [← hD] at ht;unfold dsts at ht;rw [List.getElem?_map, Array.getElem?_toList, hy2] at ht
   simp at ht
  | some oy =>
   have := dst_at hy2;rw [hD, ht] at this
   simpa using (Option.some.inj this).symm
theorem flowX {id m p : Nat} {Z : Obj} {w0 : World} {D : List (Option Tmp)} {W : List (List Nat)} (h : tabOf ops = (D, W)) (hn : ops.size = m + 1) (C : World → Prop) (G : Nat → World → Prop) (R : Nat → Option Nat → Value → World → Prop) (hm : P.follows .mixedOrders = true) (hc : (earlyW W && apart D && D.all (fun d => (d.map fun t => decide (t < a0.tmps.size)).getD true) && (List.range m).all (marksW W m (W.getD m [])).contains && decide (p < m)) = true)
  (hC : ∀ w w', C w → Below w.heap.size w w' → C w') (hGb : ∀ g w w', G g w → Below w.heap.size w w' → G g w') (hR : ∀ j b v w w', R j b v w → Below w.heap.size w w' → R j b v w') (hRG : ∀ j v w, R j none v w → R j (some w.heap.size) v (w.alloc Z)) (h0 : C w0)
  (hS : Steps (AtX P ops Q D W a0 C G p R) m) (hP : StepP P ops Q C G p Z) (o : Oper) (ho : ops[m]? = some o) (hQ : ∀ e w g, C w → e p = .pointer (some ⟨g, 0, none⟩) → G g w → Steps (fun j => j ≠ p → R j (some g) (e j) w) m → ∀ a, a = fill D 0 e (fun j => decide (j < m)) a0 → ∀ K : Act → World → Prop, Sdq (∀ a' w', Q .normal a' w' → K a' w') → if Region.wanted o (yielded ops a.tmps) = true then Oper.wp P o a w K Q else K (a.put o.dst undef) w) : (Code.region id ops true).wp P Q a0 w0 := by
 simp only [Bool.and_eq_true, decide_eq_true_eq] at hc;have hD : dsts ops = D := congrArg Prod.fst h
 have hT : ∀ t, some t ∈ dsts ops → t < a0.tmps.size := fun t ht => by rw [hD] at ht; have := List.all_eq_true.1 hc.1.1.2 _ ht; simpa using this
 refine wp_region_any hm (flow_butX hc.2 hn (by rw [marks_tab h m _ (by omega), ← waits_tab h m (by omega)]; exact hc.1.2) (early_tab h hc.1.1.1.1) (by rw [hD]; exact hc.1.1.1.2) hT hC hGb hR hRG (fun i hi hip => stepx_at h hip (hS.all i hi)) hP (fun o' ho' e w g hCw hep hG hr a ha K hK => ?_) _ _ _ _ (fx_start (hC _ _ h0 (below_drew (Below.refl _ _)))) (by unfold lf; rw [Array.getD_eq_getD_getElem?, Array.getElem?_replicate]; split <;> rfl) (cnt_le _));obtain rfl := Option.some.inj (ho.symm.trans ho');rw [hD] at ha;refine hQ e w g hCw hep hG ?_ a ha K ⟨hK⟩
 have hall : ∀ n, n ≤ m → Steps (fun j => j ≠ p → R j (some g) (e j) w) n := fun n => by
  induction n with
  | zero => intro _; trivial
  | succ n ih => intro hn; exact ⟨ih (by omega), hr n (by omega)⟩
 exact hall _ (Nat.le_refl _)
end
structure UpX where
 p : (Nat → Prop) → Value → World → Prop
 up : ∀ O v w w', p O v w → Below w.heap.size w w' → p O v w'
 bd : ∀ (O O' : Nat → Prop) v w, p O v w → (∀ k, O k → k < w.heap.size → O' k) → p O' v w
def Rx (l : List UpX) (O : Nat → Prop) (j : Nat) (b : Option Nat) (v : Value) (w : World) : Prop := match l[j]? with
 | some u => u.p (fun k => O k ∧ b ≠ some k) v w
 | none => True
theorem Rx.up (l : List UpX) (O : Nat → Prop) (j : Nat) (b : Option Nat) (v : Value) (w w' : World) (h : Rx l O j b v w) (hb : Below w.heap.size w w') : Rx l O j b v w' := by
 unfold Rx at *
 split
 ·rename_i u hu
  rw [hu] at h;exact u.up _ v w w' h hb
 ·trivial
theorem Rx.laid (l : List UpX) (O : Nat → Prop) (Z : Obj) (j : Nat) (v : Value) (w : World) (h : Rx l O j none v w) : Rx l O j (some w.heap.size) v (w.alloc Z) := by
 unfold Rx at *
 split
 ·rename_i u hu
  rw [hu] at h;exact u.up _ v w _ (u.bd _ _ v w h (fun k hk hlt => ⟨hk.1, fun e => by have := Option.some.inj e; omega⟩)) (bal (Below.refl _ _) _)
 ·trivial
def xEq (c : Value) : UpX := ⟨fun _ v _ => v = c, fun _ _ _ _ h _ => h, fun _ _ _ _ h _ => h⟩
end Go.Proofs.YteighppcdpaekaaDoor.P
end
section
namespace Go.Proofs.YteighppcdpaekaaDoor.P
open Go.RowKit Go.Proofs.YteighppcdpaekaaDoorW.PrintWords Go.Proofs.YteighppcdpaekaaDoorW.PrintLast Go.Proofs.YteighppcdpaekaaDoorW.PrintMore
set_option linter.unusedVariables false
set_option linter.unusedSimpArgs false
theorem absP0 {P : Program} {c : Code} {Q : Exit → Act → World → Prop} {a : Act} {W : World} (p : World → Prop) (h : p W) (hk : ∀ W', p W' → c.wp P Q a W') : c.wp P Q a W := hk W h
theorem hdBq {w w' : World} {p : Addr} {x : Value} (hb : Below w.heap.size w w') (h : w.cell? p = some x) : w'.cell? p = some x := (hb.cell (World.block_lt_of_cell? _ _ h)).trans h
theorem held_alloc {w : World} {o : Obj} {p : Addr} {x : Value} (h : w.cell? p = some x) : (w.alloc o).cell? p = some x := (World.cell?_alloc_lt _ _ _ (World.block_lt_of_cell? _ _ h)).trans h
def toLF (V : S44 → Option S27) : List S44 → List S27 → Option (List S27)
 | [], l => some l
 | x :: r, l => if l.length < 1000000 then (V x).bind fun y => toLF V r (l ++ [y]) else none
def toF : Nat → S44 → Option S27
 | 0, _ => none
 | k + 1, v => (toLF (toF k) v.f3 []).map fun l => ⟨v.f0, v.f1, v.f2, l⟩
def TPost (w : World) (m : Nat → Prop) (r : S27) (e : Ending) (w' : World) : Prop :=
 ∃ v2 v3 : Value, e = .returned (.agg #[.int .i64 r.f0, .string r.f1, v2, v3]) ∧ Kd.V Kd.string 9 w' 0 (fun k => (m k ∨ w.heap.size ≤ k) ∧ some k ≠ v3.ownBlock) v2 r.f2 ∧ Kd.N k27 27 w' w.heap.size (fun k => m k ∨ w.heap.size ≤ k) v3 r.f3 ∧ Below w.heap.size w w'
def TS (m : Nat → Prop) (w : World) (t0 : Int) (t1 : ByteArray) (v2 v3 : Value) (W : World) (lv : Value) (l : List S27) : Prop :=
 Ctx [uBlk (w.heap.size + 2) [.int .i64 t0, .string t1, v2, lv] 27, uBlk (w.heap.size + 1) [.int .i64 0, .string ⟨#[]⟩, .slice none 0 0, .slice none 0 0] 27, uBlk w.heap.size [.int .i64 t0, .string t1, v2, v3] 44, uB w] W ∧
 Kd.N k27 27 W (w.heap.size + 3) (fun k => m k ∨ w.heap.size + 3 ≤ k) lv l
theorem TS.start {m : Nat → Prop} {w : World} {t0 : Int} {t1 : ByteArray} {v2 v3 : Value} : TS m w t0 t1 v2 v3 (((w.alloc (.cells #[.int .i64 t0, .string t1, v2, v3] 44 (0, 0))).alloc (.cells #[.int .i64 0, .string ⟨#[]⟩, .slice none 0 0, .slice none 0 0] 27 (0, 0))).alloc (.cells #[.int .i64 t0, .string t1, v2, .slice none 0 0] 27 (0, 0))) (.slice none 0 0) [] := by
 refine ⟨?_, Kd.N_nil _ _ _ _ _⟩;have e := Ctx.new (cs := [.int .i64 t0, .string t1, v2, .slice none 0 0]) (t := 27) (Ctx.new (cs := [.int .i64 0, .string ⟨#[]⟩, .slice none 0 0, .slice none 0 0]) (t := 27) (Ctx.new (cs := [.int .i64 t0, .string t1, v2, v3]) (t := 44) (Ctx.cons (uB w) (Below.refl _ _) (Ctx.nil))))
 simpa using e
section
variable {m : Nat → Prop} {w W W' : World} {t0 : Int} {t1 : ByteArray} {v2 v3 lv v : Value} {l l' : List S27}
theorem TS.below (h : TS m w t0 t1 v2 v3 W lv l) (hb : Below W.heap.size W W') : TS m w t0 t1 v2 v3 W' lv l := ⟨h.1.below hb, Kd.N_below h.2 hb⟩
theorem TS.drew (h : TS m w t0 t1 v2 v3 W lv l) : TS m w t0 t1 v2 v3 W.drew lv l := h.below (below_drew (Below.refl _ _))
theorem TS.alloc (h : TS m w t0 t1 v2 v3 W lv l) (x : Obj) : TS m w t0 t1 v2 v3 (W.alloc x) lv l := h.below (bal (Below.refl _ _) x)
theorem TS.cells (h : TS m w t0 t1 v2 v3 W lv l) :
  (W.cell? ⟨w.heap.size, 0, none⟩ = some (.int .i64 t0) ∧ W.cell? ⟨w.heap.size, 1, none⟩ = some (.string t1) ∧ W.cell? ⟨w.heap.size, 2, none⟩ = some v2 ∧ W.cell? ⟨w.heap.size, 3, none⟩ = some v3) ∧
  (W.cell? ⟨w.heap.size + 1, 0, none⟩ = some (.int .i64 0) ∧ W.cell? ⟨w.heap.size + 1, 1, none⟩ = some (.string ⟨#[]⟩) ∧ W.cell? ⟨w.heap.size + 1, 2, none⟩ = some (.slice none 0 0) ∧ W.cell? ⟨w.heap.size + 1, 3, none⟩ = some (.slice none 0 0)) ∧
  (W.cell? ⟨w.heap.size + 2, 0, none⟩ = some (.int .i64 t0) ∧ W.cell? ⟨w.heap.size + 2, 1, none⟩ = some (.string t1) ∧ W.cell? ⟨w.heap.size + 2, 2, none⟩ = some v2 ∧ W.cell? ⟨w.heap.size + 2, 3, none⟩ = some lv) ∧
  (W.frozen? ⟨w.heap.size + 1, 0, none⟩ = false ∧ W.frozen? ⟨w.heap.size + 1, 1, none⟩ = false ∧ W.frozen? ⟨w.heap.size + 1, 2, none⟩ = false ∧ W.frozen? ⟨w.heap.size + 1, 3, none⟩ = false) ∧ W.frozen? ⟨w.heap.size + 2, 3, none⟩ = false := by
 obtain ⟨⟨b3, b2, b1, hB, _⟩, _⟩ := h;exact ⟨⟨Ctx.blk b1 0 rfl, Ctx.blk b1 1 rfl, Ctx.blk b1 2 rfl, Ctx.blk b1 3 rfl⟩, ⟨Ctx.blk b2 0 rfl, Ctx.blk b2 1 rfl, Ctx.blk b2 2 rfl, Ctx.blk b2 3 rfl⟩, ⟨Ctx.blk b3 0 rfl, Ctx.blk b3 1 rfl, Ctx.blk b3 2 rfl, Ctx.blk b3 3 rfl⟩, ⟨Ctx.frz b2 0, Ctx.frz b2 1, Ctx.frz b2 2, Ctx.frz b2 3⟩, Ctx.frz b3 3⟩
theorem TS.grown (h : TS m w t0 t1 v2 v3 W lv l) (hg : W.grownBy W' lv.ownBlock) : Ctx [uBlk (w.heap.size + 2) [.int .i64 t0, .string t1, v2, lv] 27, uBlk (w.heap.size + 1) [.int .i64 0, .string ⟨#[]⟩, .slice none 0 0, .slice none 0 0] 27, uBlk w.heap.size [.int .i64 t0, .string t1, v2, v3] 44, uB w] W' := by
 obtain ⟨⟨b3, b2, b1, hB, _⟩, hN⟩ := h;have hb := Kd.N_base hN
 have hne : ∀ i, i < w.heap.size + 3 → some i ≠ lv.ownBlock := fun i hi e => by have := hb _ e.symm; omega
 exact ⟨blk_grown b3 hg (hne _ (by omega)), blk_grown b2 hg (hne _ (by omega)), blk_grown b1 hg (hne _ (by omega)), Below.grown hB hg (Below.size hB) (fun k hk => by have := hb k hk; omega), trivial⟩
theorem TS.put (h : Ctx [uBlk (w.heap.size + 2) [.int .i64 t0, .string t1, v2, lv] 27, uBlk (w.heap.size + 1) [.int .i64 0, .string ⟨#[]⟩, .slice none 0 0, .slice none 0 0] 27, uBlk w.heap.size [.int .i64 t0, .string t1, v2, v3] 44, uB w] W) (hm : ∀ k, m k → k < w.heap.size) (hN : Kd.N k27 27 W (w.heap.size + 3) (fun k => m k ∨ w.heap.size + 3 ≤ k) v l') : TS m w t0 t1 v2 v3 (W.setCell ⟨w.heap.size + 2, 3, none⟩ v) v l' := by
 obtain ⟨b3, b2, b1, hB, _⟩ := h;refine ⟨⟨Ctx.put b3 3 v, Ctx.far b2 3 v (by omega), Ctx.far b1 3 v (by omega), bstq hB (by show w.heap.size ≤ w.heap.size + 2; omega), trivial⟩, Kd.N_far hN (fun k hk => ?_) v⟩
 show k ≠ w.heap.size + 2
 rcases hk with hk | hk
 ·have := hm k hk; omega
 ·omega
theorem TS.fin (h : TS m w t0 t1 v2 v3 W lv l) (hm : ∀ k, m k → k < w.heap.size) {t2 : List ByteArray} (hV : Kd.V Kd.string 9 W 0 m v2 t2) (wf : World) (hw : wf = (((W.setCell ⟨w.heap.size + 1, 0, none⟩ (.int .i64 t0)).setCell ⟨w.heap.size + 1, 1, none⟩ (.string t1)).setCell ⟨w.heap.size + 1, 2, none⟩ v2).setCell ⟨w.heap.size + 1, 3, none⟩ lv) :
  TPost w m ⟨t0, t1, t2, l⟩ (.returned (.agg #[.int .i64 t0, .string t1, v2, lv])) wf ∧ wf.cell? ⟨w.heap.size + 1, 0, none⟩ = some (.int .i64 t0) ∧ wf.cell? ⟨w.heap.size + 1, 1, none⟩ = some (.string t1) ∧ wf.cell? ⟨w.heap.size + 1, 2, none⟩ = some v2 ∧ wf.cell? ⟨w.heap.size + 1, 3, none⟩ = some lv := by
 subst hw;obtain ⟨⟨b3, b2, b1, hB, _⟩, hN⟩ := h;have hp := Ctx.put (Ctx.put (Ctx.put (Ctx.put b2 0 (.int .i64 t0)) 1 (.string t1)) 2 v2) 3 lv;have hg := Nat.le_succ w.heap.size
 have hne : ∀ k, m k ∨ w.heap.size + 3 ≤ k → k ≠ w.heap.size + 1 := fun k hk => by
  rcases hk with hk | hk
  ·have := hm k hk; omega
  ·omega
 have hne2 : ∀ k, m k → k ≠ w.heap.size + 1 := fun k hk => by have := hm k hk; omega
 refine ⟨⟨v2, lv, rfl, ?_, ?_, bstq (bstq (bstq (bstq hB hg) hg) hg) hg⟩, Ctx.blk hp 0 rfl, Ctx.blk hp 1 rfl, Ctx.blk hp 2 rfl, Ctx.blk hp 3 rfl⟩
 ·exact Kd.V_mono (Kd.V_far (p := ⟨w.heap.size + 1, 3, none⟩) (Kd.V_far (p := ⟨w.heap.size + 1, 2, none⟩) (Kd.V_far (p := ⟨w.heap.size + 1, 1, none⟩) (Kd.V_far (p := ⟨w.heap.size + 1, 0, none⟩) hV hne2 _) hne2 _) hne2 _) hne2 _) (fun k hk => ⟨.inl hk, fun e => by have := Kd.N_base hN k e.symm; have := hm k hk; omega⟩)
 ·exact Kd.N_lower (Kd.N_mono (Kd.N_far (p := ⟨w.heap.size + 1, 3, none⟩) (Kd.N_far (p := ⟨w.heap.size + 1, 2, none⟩) (Kd.N_far (p := ⟨w.heap.size + 1, 1, none⟩) (Kd.N_far (p := ⟨w.heap.size + 1, 0, none⟩) hN hne _) hne _) hne _) hne _) (fun k hk => hk.imp id (fun h => by omega))) (by omega)
end
def to06.T5 : Bool × List (List Nat × List Nat) := (true, [([], []), ([0], [0]), ([], []), ([2], [2]), ([], []), ([3, 4], [3, 4]), ([5], [5]), ([6], [6]), ([7], [7]), ([1, 8, 7], [1, 8]), ([0, 1, 2, 3, 4, 5, 6, 7, 8, 9], []), ([10, 9, 9, 0, 1, 2, 3, 4, 5, 6, 7, 8, 9], [9, 10])])
theorem to06.tab5 : rtab .any (opsOf Tryd.f21 5) = to06.T5 := by kernel_rfl
theorem to06.bits5 : waitsOk to06.T5.2 [0, 1, 0, 4, 0, 28, 60, 124, 252, 511, 1023, 2047] = true := by kernel_rfl
set_option maxRecDepth 100000 in
set_option maxHeartbeats 6400000 in
theorem to06_calls : ∀ (k : Nat) (v : S44) (A2 : Option Addr) (c2 : Nat) (A3 : Option Addr) (c3 : Nat) (m : Nat → Prop) (r : S27) (w : World), (∀ k, m k → k < w.heap.size) → Kd.V Kd.string 9 w 0 m (.slice A2 v.f2.length c2) v.f2 → Kd.V k44 44 w 0 m (.slice A3 v.f3.length c3) v.f3 → toF k v = some r →
  Calls Tryd.prog 21 #[.agg #[.int .i64 v.f0, .string v.f1, .slice A2 v.f2.length c2, .slice A3 v.f3.length c3]] w (TPost w m r)
 | 0, v, A2, c2, A3, c3, m, r, w, hm, h2, h3, h => absurd h (by simp [toF])
 | k + 1, ⟨t0, t1, t2, t3⟩, A2, c2, A3, c3, m, r, w, hm, h2, h3, h => by
  simp only [toF, Option.map_eq_some_iff] at h;obtain ⟨l3, hl, rfl⟩ := h
  dsimp only at h2 h3 ⊢
  have HL := Sdq.mk hl;have H2 := Sdq.mk h2;have H3 := Sdq.mk h3;have N0 := Sdq.mk (show TS m w t0 t1 (.slice A2 t2.length c2) (.slice A3 t3.length c3) _ (.slice none 0 0) [] from TS.start);clear hl h2 h3;go_enter Tryd.func21, Tryd.ntmps21
  go_upto_region 2 with fail
  refine absP0 (fun W => TS m w t0 t1 (.slice A2 t2.length c2) (.slice A3 t3.length c3) W (.slice none 0 0) []) N0.out ?_;clear N0;intro w1 N1;have N1 := Sdq.mk N1
  go_wp2_with fail
  go_loopg [4] t3.length (fun kq s4 wc => ∃ (i : Nat) (lv : Value) (l : List S27), s4 = .int .i64 (i : Int) ∧ kq + i = t3.length ∧ Sdq (toLF (toF k) (t3.drop i) l = some l3) ∧ Sdq (TS m w t0 t1 (.slice A2 t2.length c2) (.slice A3 t3.length c3) wc lv l))
  case atStart => exact ⟨0, _, _, rfl, by omega, HL, N1⟩
  case round =>
   clear HL N1;obtain ⟨i, lv, l, rfl, hi, H, N⟩ := hrel
   obtain ⟨A1, n1, q1, rfl⟩ : ∃ A n c, lv = .slice A n c := by
    obtain ⟨A, c, e⟩ := Kd.N_slice N.out.2;exact ⟨_, _, _, e⟩
   obtain ⟨⟨x0, x1, x2, x3⟩, ⟨y0, y1, y2, y3⟩, ⟨z0, z1, z2, z3⟩, ⟨f0, f1, f2, f3⟩, f4⟩ := N.out.cells;have hlen := Sdq.mk (Kd.V_reads' H3.out).2.2.2.1
   cases gk with
   | succ gk =>
    have hlt : i < t3.length := by omega
    have h := H.out;clear H;rw [List.drop_eq_getElem_cons hlt] at h;simp only [toLF] at h
    have hl1 : l.length < 1000000 := Classical.byContradiction fun hc => by
     rw [if_neg hc] at h
     simp at h
    rw [if_pos hl1] at h;obtain ⟨⟨u0, u1, u2, u3⟩, hv, h⟩ := Option.bind_eq_some_iff.mp h;have H := Sdq.mk h;have HV := Sdq.mk hv;have HL1 := Sdq.mk hl1;have hW := N.out.1.2.2.2.1;have V3 := Kd.V_below H3.out hW
    have q0 : (0 : Int) ≤ (i : Int) := by omega
    have q9 : (i : Int) < (t3.length : Int) := by omega
    obtain ⟨ad, B2, d2, B3, d3, rfl, g0, g1, g2, g3, -, -, -, -⟩ := at_T44 (Kd.V_reads' V3).2.2 (i : Int) q0 q9;obtain ⟨ce, -, hF, hcc⟩ := Kd.V_get V3 z44 (i : Int) q0 q9;obtain ⟨C2, e2, C3, e3, rfl, k2, F2, k3, F3⟩ := k44_openF hF;have j2 := hcc 2 _ rfl;have j3 := hcc 3 _ rfl;rw [add_field _ _ 2 (by omega)] at j2;rw [add_field _ _ 3 (by omega)] at j3
    injection Option.some.inj (j2.symm.trans g2) with a1 _ a2
    injection Option.some.inj (j3.symm.trans g3) with a3 _ a4
    subst a1 a2 a3 a4;clear hcc j2 j3 V3 hF
    have hx : rd_T44 t3 (i : Int) = t3[i] := by simp [rd_T44, hlt]
    rw [show t3.getD (i : Int).toNat z44 = t3[i] by simp [hlt]] at k2 F2 k3 F3;rw [hx, Int.toNat_natCast] at g0 g1 g2 g3;generalize t3[i] = x at HV k2 F2 k3 F3 g0 g1 g2 g3;clear hx h hv hl1;have E2 := Sdq.mk (show Kd.V Kd.string 9 wr 0 m (.slice C2 x.f2.length e2) x.f2 from Kd.V_mk k2 F2);have E3 := Sdq.mk (show Kd.V k44 44 wr 0 m (.slice C3 x.f3.length e3) x.f3 from Kd.V_mk k3 F3);clear k2 F2 k3 F3 hW;have q9' := eq_true q9;go_wp2;refine start_ (n := 12) (S := fun w' => w'.cell? ⟨w.heap.size + 2, 3, none⟩ = some (.slice A1 n1 q1) ∧ w'.cell? ⟨w.heap.size, 3, none⟩ = some (.slice (some ad) t3.length c3) ∧ w'.cell? (ad.add (i * 4)) = some (.int .i64 x.f0) ∧ w'.cell? ⟨(ad.add (i * 4)).block, (ad.add (i * 4)).off + 1, none⟩ = some (.string x.f1) ∧ w'.cell? ⟨(ad.add (i * 4)).block, (ad.add (i * 4)).off + 2, none⟩ = some (.slice C2 x.f2.length e2) ∧ w'.cell? ⟨(ad.add (i * 4)).block, (ad.add (i * 4)).off + 3, none⟩ = some (.slice C3 x.f3.length e3)) (ds := [9, 11]) #[false, false, false, false, false, false, false, false, false, false, false, false] (by kernel_rfl) rfl rfl ⟨z3, x3, g0, g1, g2, g3⟩ (fun hHeld => ?_);refine with_tabW to06.tab5 to06.bits5 (fun HT_ HW_ => ?_);have N := Sdq.mk N.out.drew;have E2 := Sdq.mk (Kd.V_drew E2.out);have E3 := Sdq.mk (Kd.V_drew E3.out);clear x0 x1 x2 x3 y0 y1 y2 y3 z0 z1 z2 z3 f0 f1 f2 f3 f4 g0 g1 g2 g3;generalize wr.drew = w3 at *;refine pure_ (i := 0) (N := some 19) (v := ?_) (a' := ?_) #[true, false, false, false, false, false, false, false, false, false, false, false] rfl rfl (any_of HT_.out (by kernel_rfl)) (fun _ _ _ h => h) (Or.inl ⟨by rfl, ?_⟩) ?_ ?_
    rotate_left
    ·intro w'
     go_simp
     with_reducible rfl
    rotate_left
    ·simp only [Act.put, List.setIfInBounds_toArray, List.set_cons_zero, List.set_cons_succ, i64_w, i32_w]
     rfl
    refine pure_ (i := 2) (N := some 21) (v := ?_) (a' := ?_) #[true, false, true, false, false, false, false, false, false, false, false, false] rfl rfl (any_of HT_.out (by kernel_rfl)) (fun _ _ _ h => h) (Or.inl ⟨by rfl, ?_⟩) ?_ ?_
    rotate_left
    ·intro w'
     go_simp
     with_reducible rfl
    rotate_left
    ·simp only [Act.put, List.setIfInBounds_toArray, List.set_cons_zero, List.set_cons_succ, i64_w, i32_w]
     rfl
    refine pure_ (i := 4) (N := some 23) (v := ?_) (a' := ?_) #[true, false, true, false, true, false, false, false, false, false, false, false] rfl rfl (any_of HT_.out (by kernel_rfl)) (fun _ _ _ h => h) (Or.inl ⟨by rfl, ?_⟩) ?_ ?_
    rotate_left
    ·intro w'
     go_simp
     with_reducible rfl
    rotate_left
    ·simp only [Act.put, List.setIfInBounds_toArray, List.set_cons_zero, List.set_cons_succ, i64_w, i32_w]
     rfl
    refine take_ (i := 1) (N := some 20) (v := ?_) (a' := ?_) #[true, true, true, false, true, false, false, false, false, false, false, false] rfl rfl (take_ofW HT_.out HW_.out (by kernel_rfl)) (fun _ _ _ h => h) (Or.inl ⟨by rfl, ?_⟩) hHeld ?_ ?_
    rotate_left
    ·rintro w' ⟨s0, s1, s2, s3, s4, s5⟩
     go_simp
     with_reducible rfl
    rotate_left
    ·simp only [Act.put, List.setIfInBounds_toArray, List.set_cons_zero, List.set_cons_succ, i64_w, i32_w]
     rfl
    refine take_ (i := 3) (N := some 22) (v := ?_) (a' := ?_) #[true, true, true, true, true, false, false, false, false, false, false, false] rfl rfl (take_ofW HT_.out HW_.out (by kernel_rfl)) (fun _ _ _ h => h) (Or.inl ⟨by rfl, ?_⟩) hHeld ?_ ?_
    rotate_left
    ·rintro w' ⟨s0, s1, s2, s3, s4, s5⟩
     go_simp
     with_reducible rfl
    rotate_left
    ·simp only [Act.put, List.setIfInBounds_toArray, List.set_cons_zero, List.set_cons_succ, i64_w, i32_w]
     rfl
    refine pure_ (i := 5) (N := some 24) (v := ?_) (a' := ?_) #[true, true, true, true, true, true, false, false, false, false, false, false] rfl rfl (any_of HT_.out (by kernel_rfl)) (fun _ _ _ h => h) (Or.inl ⟨by rfl, ?_⟩) ?_ ?_
    rotate_left
    ·intro w'
     go_simp
     with_reducible rfl
    rotate_left
    ·simp only [Act.put, List.setIfInBounds_toArray, List.set_cons_zero, List.set_cons_succ, i64_w, i32_w]
     rfl
    refine take_ (i := 6) (N := some 25) (v := ?_) (a' := ?_) #[true, true, true, true, true, true, true, false, false, false, false, false] rfl rfl (take_ofW HT_.out HW_.out (by kernel_rfl)) (fun _ _ _ h => h) (Or.inl ⟨by rfl, ?_⟩) hHeld ?_ ?_
    rotate_left
    ·rintro w' ⟨s0, s1, s2, s3, s4, s5⟩
     go_simp
     with_reducible rfl
    rotate_left
    ·simp only [Act.put, List.setIfInBounds_toArray, List.set_cons_zero, List.set_cons_succ, i64_w, i32_w]
     rfl
    refine one_ (i := 7) (N := some 26) #[true, true, true, true, true, true, true, true, false, false, false, false] rfl rfl (one_of HT_.out (by kernel_rfl)) (by decide) (fun K hK => ?_);refine goes_ Tryd.func21 (by kernel_rfl) rfl #[.agg #[.int .i64 x.f0, .string x.f1, .slice C2 x.f2.length e2, .slice C3 x.f3.length e3]] (by rfl) rfl rfl (by (try simp only [List.map_toArray, List.map_cons, List.map_nil]); first | done | rfl) ?_;have hws : w.heap.size ≤ w3.heap.size := Below.size N.out.1.2.2.2.1;have hms : w.heap.size + 3 ≤ w3.heap.size := Nat.succ_le_of_lt (blk_lt N.out.1.1);refine (to06_calls k x C2 e2 C3 e3 m ⟨u0, u1, u2, u3⟩ w3 (fun k hk => Nat.lt_of_lt_of_le (hm k hk) hws) E2.out E3.out HV.out).mono ?_;rintro e w4 ⟨v2, v3, rfl, r2, r3, hb⟩
    have hS := (show w4.cell? ⟨w.heap.size + 2, 3, none⟩ = _ ∧ w4.cell? ⟨w.heap.size, 3, none⟩ = _ ∧ w4.cell? (ad.add (i * 4)) = _ ∧ w4.cell? ⟨(ad.add (i * 4)).block, (ad.add (i * 4)).off + 1, none⟩ = _ ∧ w4.cell? ⟨(ad.add (i * 4)).block, (ad.add (i * 4)).off + 2, none⟩ = _ ∧ w4.cell? ⟨(ad.add (i * 4)).block, (ad.add (i * 4)).off + 3, none⟩ = _ from ⟨hdBq hb hHeld.1, hdBq hb hHeld.2.1, hdBq hb hHeld.2.2.1, hdBq hb hHeld.2.2.2.1, hdBq hb hHeld.2.2.2.2.1, hdBq hb hHeld.2.2.2.2.2⟩)
    refine ⟨_, rfl, ?_⟩;obtain ⟨D2, o2, rfl⟩ := Kd.V_slice r2;obtain ⟨D3, o3, rfl⟩ := Kd.N_slice r3;have hlw : ∀ k, (Value.slice A1 n1 q1).ownBlock = some k → k < w3.heap.size := Kd.N_lt N.out.2;have hlb : ∀ k, (Value.slice A1 n1 q1).ownBlock = some k → w.heap.size + 3 ≤ k := Kd.N_base N.out.2;have N4 := Sdq.mk (N.out.below hb);have hs4 := hb.size;have r2 := Sdq.mk (Kd.V_mono (ok' := fun k => (m k ∨ w.heap.size + 3 ≤ k) ∧ some k ≠ (Value.slice A1 n1 q1).ownBlock) r2 (fun k hk => ⟨hk.1.imp id (fun h => by omega), fun e => by have := hlw k e.symm; have := hlb k e.symm; exact hk.1.elim (fun h => by have := hm k h; omega) (fun h => by omega)⟩));have r3 := Sdq.mk (Kd.N_mono (ok' := fun k => (m k ∨ w.heap.size + 3 ≤ k) ∧ some k ≠ (Value.slice A1 n1 q1).ownBlock) r3 (fun k hk => ⟨hk.imp id (fun h => by omega), fun e => by have := hlw k e.symm; have := hlb k e.symm; exact hk.elim (fun h => by have := hm k h; omega) (fun h => by omega)⟩));clear N hb E2 E3 HV hlw hlb;refine hK.out _ _ hS (fun hHeld => ?_);clear hS;clear hK K;refine norm_ (a' := ?_) ?_ ?_
    rotate_left
    ·show Act.put _ (some 26) _ = _
     simp only [Act.put, List.setIfInBounds_toArray, List.set_cons_zero, List.set_cons_succ, i64_w, i32_w]
     rfl
    refine one_ (i := 8) (N := some 27) #[true, true, true, true, true, true, true, true, true, false, false, false] rfl rfl (one_of HT_.out (by kernel_rfl)) (by decide) (fun K hK => ?_);refine value_ (w1 := ?_) (v := ?_) (by rfl) rfl ?_ ?_
    rotate_left 2
    ·go_simp
     constructor
     ·rfl
     ·rfl
    refine hK.out _ _ ⟨held_alloc hHeld.1, held_alloc hHeld.2.1, held_alloc hHeld.2.2.1, held_alloc hHeld.2.2.2.1, held_alloc hHeld.2.2.2.2.1, held_alloc hHeld.2.2.2.2.2⟩ (fun hHeld => ?_);clear hK K;refine norm_ (a' := ?_) ?_ ?_
    rotate_left
    ·show Act.put _ (some 27) _ = _
     simp only [Act.put, List.setIfInBounds_toArray, List.set_cons_zero, List.set_cons_succ, i64_w, i32_w]
     rfl
    refine last_ (i := 9) (N := some 28) #[true, true, true, true, true, true, true, true, true, true, false, false] rfl rfl (one_of HT_.out (by kernel_rfl)) (by decide) (fun K hK => ?_);refine Kd.N_append_step k27 (w0 := w4) (w.heap.size + 3) (by rfl) (.tmp 20) (.tmp 27) 25 27 (.agg #[(.int .i64 0), (.string ⟨#[]⟩), (.slice none 0 0), (.slice none 0 0)]) 72 rfl Tryd.underlying25 info27 rfl (by decide) (by omega) (.slice A1 n1 q1) l (⟨u0, u1, u2, u3⟩ : S27) [.int .i64 u0, .string u1, .slice D2 u2.length o2, .slice D3 u3.length o3] (fun k => m k ∨ w.heap.size + 3 ≤ k) (fun k => (m k ∨ w.heap.size + 3 ≤ k) ∧ some k ≠ (Value.slice A1 n1 q1).ownBlock) rfl rfl ?aP (fun _ hk => hk) (fun k hk => .inr (by omega)) N4.out.2 (Below.refl _ _) (by omega) (by have := HL1.out; omega) ?_
    (case aP => exact (k27_mkF _ _ (⟨u0, u1, u2, u3⟩ : S27) (Kd.V_reads' r2.out).2.1 (Kd.V_F r2.out) (Kd.N_reads' r3.out).2.1 (Kd.N_F r3.out)))
    intro v5 w5 ho _ hg _;obtain ⟨D5, o5, rfl⟩ := Kd.N_slice ho;have NG := Sdq.mk (N4.out.grown hg);have NF := Sdq.mk (TS.put NG.out hm ho);clear N4 r2 r3 ho hg
    obtain ⟨z3, f4⟩ : w5.cell? ⟨w.heap.size + 2, 3, none⟩ = some (.slice A1 n1 q1) ∧ w5.frozen? ⟨w.heap.size + 2, 3, none⟩ = false := ⟨Ctx.blk NG.out.1 3 rfl, Ctx.frz NG.out.1 3⟩
    clear NG;refine hK.out _ _ ?_;clear hK K;refine norm_ (a' := ?_) ?_ ?_
    rotate_left
    ·show Act.put _ (some 28) _ = _
     simp only [Act.put, List.setIfInBounds_toArray, List.set_cons_zero, List.set_cons_succ, i64_w, i32_w]
     rfl
    refine pure_ (i := 10) (N := some 29) (v := ?_) (a' := ?_) #[true, true, true, true, true, true, true, true, true, true, true, false] rfl rfl (any_of HT_.out (by kernel_rfl)) (fun _ _ _ h => h) (Or.inl ⟨by rfl, ?_⟩) ?_ ?_
    rotate_left
    ·intro w'
     go_simp
     with_reducible rfl
    rotate_left
    ·simp only [Act.put, List.setIfInBounds_toArray, List.set_cons_zero, List.set_cons_succ, i64_w, i32_w]
     rfl
    refine last_ (i := 11) (N := none) #[true, true, true, true, true, true, true, true, true, true, true, true] rfl rfl (one_of HT_.out (by kernel_rfl)) (by decide) (fun K hK => ?_);refine skip_ (w1 := ?_) (by rfl) rfl ?_ ?_
    rotate_left
    ·go_simp
     rfl
    refine hK.out _ _ ?_;clear hK K;refine done_ (done_of HT_.out (by kernel_rfl)) ?_;go_wp2
    go_roundg gk
    case measure => omega
    exact ⟨i + 1, .slice D5 (l.length + 1) o5, _, by rw [show wrap64 ((i : Int) + 1) = ((i + 1 : Nat) : Int) by have := hlen.out; unfold wrap64; omega], by omega, H, by have e := NF.out; rw [List.length_append] at e; exact ⟨e⟩⟩
   | zero =>
    have hge : t3.length ≤ i := by omega
    have h := H.out;rw [List.drop_eq_nil_of_le hge] at h;obtain rfl := Option.some.inj (show some l = some l3 from h);clear H h;have V2 := Sdq.mk (Kd.V_below H2.out N.out.1.2.2.2.1)
    go_wp2_with fail
    have F := N.out.fin hm V2.out _ rfl;clear N x0 x1 x2 x3 y0 y1 y2 y3 z0 z1 z2 z3 f0 f1 f2 f3 f4;generalize World.setCell _ _ _ = wf at F ⊢;obtain ⟨fP, d0, d1, d2, d3⟩ := F;exact bodyPost_ret (v := .agg #[.int .i64 t0, .string t1, .slice A2 t2.length c2, .slice A1 n1 q1]) (by simp [results, Tryd.results21, go_sem, d0, d1, d2, d3]) rfl fP
end Go.Proofs.YteighppcdpaekaaDoor.P
end
section
namespace Go.Proofs.YteighppcdpaekaaDoor.P
open Go.RowKit Go.Proofs.YteighppcdpaekaaDoorW.PrintWords Go.Proofs.YteighppcdpaekaaDoorW.PrintLast Go.Proofs.YteighppcdpaekaaDoorW.PrintMore
set_option linter.unusedVariables false
set_option linter.unusedSimpArgs false
def ofLF (V : S27 → Option S44) : List S27 → List S44 → Option (List S44)
 | [], l => some l
 | x :: r, l => if l.length < 1000000 then (V x).bind fun y => ofLF V r (l ++ [y]) else none
def ofF : Nat → S27 → Option S44
 | 0, _ => none
 | k + 1, v => (ofLF (ofF k) v.f3 []).map fun l => ⟨v.f0, v.f1, v.f2, l⟩
def OPost (w : World) (m : Nat → Prop) (r : S44) (e : Ending) (w' : World) : Prop :=
 ∃ v2 v3 : Value, e = .returned (.agg #[.int .i64 r.f0, .string r.f1, v2, v3]) ∧ Kd.V Kd.string 9 w' 0 (fun k => (m k ∨ w.heap.size ≤ k) ∧ some k ≠ v3.ownBlock) v2 r.f2 ∧ Kd.N k44 44 w' w.heap.size (fun k => m k ∨ w.heap.size ≤ k) v3 r.f3 ∧ Below w.heap.size w w'
def OS (m : Nat → Prop) (w : World) (t0 : Int) (t1 : ByteArray) (v2 v3 : Value) (W : World) (lv : Value) (l : List S44) : Prop :=
 Ctx [uBlk (w.heap.size + 2) [.int .i64 t0, .string t1, v2, lv] 44, uBlk (w.heap.size + 1) [.int .i64 0, .string ⟨#[]⟩, .slice none 0 0, .slice none 0 0] 44, uBlk w.heap.size [.int .i64 t0, .string t1, v2, v3] 27, uB w] W ∧
 Kd.N k44 44 W (w.heap.size + 3) (fun k => m k ∨ w.heap.size + 3 ≤ k) lv l
theorem OS.start {m : Nat → Prop} {w : World} {t0 : Int} {t1 : ByteArray} {v2 v3 : Value} : OS m w t0 t1 v2 v3 (((w.alloc (.cells #[.int .i64 t0, .string t1, v2, v3] 27 (0, 0))).alloc (.cells #[.int .i64 0, .string ⟨#[]⟩, .slice none 0 0, .slice none 0 0] 44 (0, 0))).alloc (.cells #[.int .i64 t0, .string t1, v2, .slice none 0 0] 44 (0, 0))) (.slice none 0 0) [] := by
 refine ⟨?_, Kd.N_nil _ _ _ _ _⟩;have e := Ctx.new (cs := [.int .i64 t0, .string t1, v2, .slice none 0 0]) (t := 44) (Ctx.new (cs := [.int .i64 0, .string ⟨#[]⟩, .slice none 0 0, .slice none 0 0]) (t := 44) (Ctx.new (cs := [.int .i64 t0, .string t1, v2, v3]) (t := 27) (Ctx.cons (uB w) (Below.refl _ _) (Ctx.nil))))
 simpa using e
section
variable {m : Nat → Prop} {w W W' : World} {t0 : Int} {t1 : ByteArray} {v2 v3 lv v : Value} {l l' : List S44}
theorem OS.below (h : OS m w t0 t1 v2 v3 W lv l) (hb : Below W.heap.size W W') : OS m w t0 t1 v2 v3 W' lv l := ⟨h.1.below hb, Kd.N_below h.2 hb⟩
theorem OS.drew (h : OS m w t0 t1 v2 v3 W lv l) : OS m w t0 t1 v2 v3 W.drew lv l := h.below (below_drew (Below.refl _ _))
theorem OS.alloc (h : OS m w t0 t1 v2 v3 W lv l) (x : Obj) : OS m w t0 t1 v2 v3 (W.alloc x) lv l := h.below (bal (Below.refl _ _) x)
theorem OS.cells (h : OS m w t0 t1 v2 v3 W lv l) :
  (W.cell? ⟨w.heap.size, 0, none⟩ = some (.int .i64 t0) ∧ W.cell? ⟨w.heap.size, 1, none⟩ = some (.string t1) ∧ W.cell? ⟨w.heap.size, 2, none⟩ = some v2 ∧ W.cell? ⟨w.heap.size, 3, none⟩ = some v3) ∧
  (W.cell? ⟨w.heap.size + 1, 0, none⟩ = some (.int .i64 0) ∧ W.cell? ⟨w.heap.size + 1, 1, none⟩ = some (.string ⟨#[]⟩) ∧ W.cell? ⟨w.heap.size + 1, 2, none⟩ = some (.slice none 0 0) ∧ W.cell? ⟨w.heap.size + 1, 3, none⟩ = some (.slice none 0 0)) ∧
  (W.cell? ⟨w.heap.size + 2, 0, none⟩ = some (.int .i64 t0) ∧ W.cell? ⟨w.heap.size + 2, 1, none⟩ = some (.string t1) ∧ W.cell? ⟨w.heap.size + 2, 2, none⟩ = some v2 ∧ W.cell? ⟨w.heap.size + 2, 3, none⟩ = some lv) ∧
  (W.frozen? ⟨w.heap.size + 1, 0, none⟩ = false ∧ W.frozen? ⟨w.heap.size + 1, 1, none⟩ = false ∧ W.frozen? ⟨w.heap.size + 1, 2, none⟩ = false ∧ W.frozen? ⟨w.heap.size + 1, 3, none⟩ = false) ∧ W.frozen? ⟨w.heap.size + 2, 3, none⟩ = false := by
 obtain ⟨⟨b3, b2, b1, hB, _⟩, _⟩ := h;exact ⟨⟨Ctx.blk b1 0 rfl, Ctx.blk b1 1 rfl, Ctx.blk b1 2 rfl, Ctx.blk b1 3 rfl⟩, ⟨Ctx.blk b2 0 rfl, Ctx.blk b2 1 rfl, Ctx.blk b2 2 rfl, Ctx.blk b2 3 rfl⟩, ⟨Ctx.blk b3 0 rfl, Ctx.blk b3 1 rfl, Ctx.blk b3 2 rfl, Ctx.blk b3 3 rfl⟩, ⟨Ctx.frz b2 0, Ctx.frz b2 1, Ctx.frz b2 2, Ctx.frz b2 3⟩, Ctx.frz b3 3⟩
theorem OS.grown (h : OS m w t0 t1 v2 v3 W lv l) (hg : W.grownBy W' lv.ownBlock) : Ctx [uBlk (w.heap.size + 2) [.int .i64 t0, .string t1, v2, lv] 44, uBlk (w.heap.size + 1) [.int .i64 0, .string ⟨#[]⟩, .slice none 0 0, .slice none 0 0] 44, uBlk w.heap.size [.int .i64 t0, .string t1, v2, v3] 27, uB w] W' := by
 obtain ⟨⟨b3, b2, b1, hB, _⟩, hN⟩ := h;have hb := Kd.N_base hN
 have hne : ∀ i, i < w.heap.size + 3 → some i ≠ lv.ownBlock := fun i hi e => by have := hb _ e.symm; omega
 exact ⟨blk_grown b3 hg (hne _ (by omega)), blk_grown b2 hg (hne _ (by omega)), blk_grown b1 hg (hne _ (by omega)), Below.grown hB hg (Below.size hB) (fun k hk => by have := hb k hk; omega), trivial⟩
theorem OS.put (h : Ctx [uBlk (w.heap.size + 2) [.int .i64 t0, .string t1, v2, lv] 44, uBlk (w.heap.size + 1) [.int .i64 0, .string ⟨#[]⟩, .slice none 0 0, .slice none 0 0] 44, uBlk w.heap.size [.int .i64 t0, .string t1, v2, v3] 27, uB w] W) (hm : ∀ k, m k → k < w.heap.size) (hN : Kd.N k44 44 W (w.heap.size + 3) (fun k => m k ∨ w.heap.size + 3 ≤ k) v l') : OS m w t0 t1 v2 v3 (W.setCell ⟨w.heap.size + 2, 3, none⟩ v) v l' := by
 obtain ⟨b3, b2, b1, hB, _⟩ := h;refine ⟨⟨Ctx.put b3 3 v, Ctx.far b2 3 v (by omega), Ctx.far b1 3 v (by omega), bstq hB (by show w.heap.size ≤ w.heap.size + 2; omega), trivial⟩, Kd.N_far hN (fun k hk => ?_) v⟩
 show k ≠ w.heap.size + 2
 rcases hk with hk | hk
 ·have := hm k hk; omega
 ·omega
theorem OS.fin (h : OS m w t0 t1 v2 v3 W lv l) (hm : ∀ k, m k → k < w.heap.size) {t2 : List ByteArray} (hV : Kd.V Kd.string 9 W 0 m v2 t2) (wf : World) (hw : wf = (((W.setCell ⟨w.heap.size + 1, 0, none⟩ (.int .i64 t0)).setCell ⟨w.heap.size + 1, 1, none⟩ (.string t1)).setCell ⟨w.heap.size + 1, 2, none⟩ v2).setCell ⟨w.heap.size + 1, 3, none⟩ lv) :
  OPost w m ⟨t0, t1, t2, l⟩ (.returned (.agg #[.int .i64 t0, .string t1, v2, lv])) wf ∧ wf.cell? ⟨w.heap.size + 1, 0, none⟩ = some (.int .i64 t0) ∧ wf.cell? ⟨w.heap.size + 1, 1, none⟩ = some (.string t1) ∧ wf.cell? ⟨w.heap.size + 1, 2, none⟩ = some v2 ∧ wf.cell? ⟨w.heap.size + 1, 3, none⟩ = some lv := by
 subst hw;obtain ⟨⟨b3, b2, b1, hB, _⟩, hN⟩ := h;have hp := Ctx.put (Ctx.put (Ctx.put (Ctx.put b2 0 (.int .i64 t0)) 1 (.string t1)) 2 v2) 3 lv;have hg := Nat.le_succ w.heap.size
 have hne : ∀ k, m k ∨ w.heap.size + 3 ≤ k → k ≠ w.heap.size + 1 := fun k hk => by
  rcases hk with hk | hk
  ·have := hm k hk; omega
  ·omega
 have hne2 : ∀ k, m k → k ≠ w.heap.size + 1 := fun k hk => by have := hm k hk; omega
 refine ⟨⟨v2, lv, rfl, ?_, ?_, bstq (bstq (bstq (bstq hB hg) hg) hg) hg⟩, Ctx.blk hp 0 rfl, Ctx.blk hp 1 rfl, Ctx.blk hp 2 rfl, Ctx.blk hp 3 rfl⟩
 ·exact Kd.V_mono (Kd.V_far (p := ⟨w.heap.size + 1, 3, none⟩) (Kd.V_far (p := ⟨w.heap.size + 1, 2, none⟩) (Kd.V_far (p := ⟨w.heap.size + 1, 1, none⟩) (Kd.V_far (p := ⟨w.heap.size + 1, 0, none⟩) hV hne2 _) hne2 _) hne2 _) hne2 _) (fun k hk => ⟨.inl hk, fun e => by have := Kd.N_base hN k e.symm; have := hm k hk; omega⟩)
 ·exact Kd.N_lower (Kd.N_mono (Kd.N_far (p := ⟨w.heap.size + 1, 3, none⟩) (Kd.N_far (p := ⟨w.heap.size + 1, 2, none⟩) (Kd.N_far (p := ⟨w.heap.size + 1, 1, none⟩) (Kd.N_far (p := ⟨w.heap.size + 1, 0, none⟩) hN hne _) hne _) hne _) hne _) (fun k hk => hk.imp id (fun h => by omega))) (by omega)
end
def of06.T5 : Bool × List (List Nat × List Nat) := (true, [([], []), ([0], [0]), ([], []), ([2], [2]), ([], []), ([3, 4], [3, 4]), ([5], [5]), ([6], [6]), ([7], [7]), ([1, 8, 7], [1, 8]), ([0, 1, 2, 3, 4, 5, 6, 7, 8, 9], []), ([10, 9, 9, 0, 1, 2, 3, 4, 5, 6, 7, 8, 9], [9, 10])])
theorem of06.tab5 : rtab .any (opsOf Tryd.f18 5) = of06.T5 := by kernel_rfl
theorem of06.bits5 : waitsOk of06.T5.2 [0, 1, 0, 4, 0, 28, 60, 124, 252, 511, 1023, 2047] = true := by kernel_rfl
set_option maxRecDepth 100000 in
set_option maxHeartbeats 6400000 in
theorem of06_calls : ∀ (k : Nat) (v : S27) (A2 : Option Addr) (c2 : Nat) (A3 : Option Addr) (c3 : Nat) (m : Nat → Prop) (r : S44) (w : World), (∀ k, m k → k < w.heap.size) → Kd.V Kd.string 9 w 0 m (.slice A2 v.f2.length c2) v.f2 → Kd.V k27 27 w 0 m (.slice A3 v.f3.length c3) v.f3 → ofF k v = some r →
  Calls Tryd.prog 18 #[.agg #[.int .i64 v.f0, .string v.f1, .slice A2 v.f2.length c2, .slice A3 v.f3.length c3]] w (OPost w m r)
 | 0, v, A2, c2, A3, c3, m, r, w, hm, h2, h3, h => absurd h (by simp [ofF])
 | k + 1, ⟨t0, t1, t2, t3⟩, A2, c2, A3, c3, m, r, w, hm, h2, h3, h => by
  simp only [ofF, Option.map_eq_some_iff] at h;obtain ⟨l3, hl, rfl⟩ := h
  dsimp only at h2 h3 ⊢
  have HL := Sdq.mk hl;have H2 := Sdq.mk h2;have H3 := Sdq.mk h3;have N0 := Sdq.mk (show OS m w t0 t1 (.slice A2 t2.length c2) (.slice A3 t3.length c3) _ (.slice none 0 0) [] from OS.start);clear hl h2 h3;go_enter Tryd.func18, Tryd.ntmps18
  go_upto_region 2 with fail
  refine absP0 (fun W => OS m w t0 t1 (.slice A2 t2.length c2) (.slice A3 t3.length c3) W (.slice none 0 0) []) N0.out ?_;clear N0;intro w1 N1;have N1 := Sdq.mk N1
  go_wp2_with fail
  go_loopg [4] t3.length (fun kq s4 wc => ∃ (i : Nat) (lv : Value) (l : List S44), s4 = .int .i64 (i : Int) ∧ kq + i = t3.length ∧ Sdq (ofLF (ofF k) (t3.drop i) l = some l3) ∧ Sdq (OS m w t0 t1 (.slice A2 t2.length c2) (.slice A3 t3.length c3) wc lv l))
  case atStart => exact ⟨0, _, _, rfl, by omega, HL, N1⟩
  case round =>
   clear HL N1;obtain ⟨i, lv, l, rfl, hi, H, N⟩ := hrel
   obtain ⟨A1, n1, q1, rfl⟩ : ∃ A n c, lv = .slice A n c := by
    obtain ⟨A, c, e⟩ := Kd.N_slice N.out.2;exact ⟨_, _, _, e⟩
   obtain ⟨⟨x0, x1, x2, x3⟩, ⟨y0, y1, y2, y3⟩, ⟨z0, z1, z2, z3⟩, ⟨f0, f1, f2, f3⟩, f4⟩ := N.out.cells;have hlen := Sdq.mk (Kd.V_reads' H3.out).2.2.2.1
   cases gk with
   | succ gk =>
    have hlt : i < t3.length := by omega
    have h := H.out;clear H;rw [List.drop_eq_getElem_cons hlt] at h;simp only [ofLF] at h
    have hl1 : l.length < 1000000 := Classical.byContradiction fun hc => by
     rw [if_neg hc] at h
     simp at h
    rw [if_pos hl1] at h;obtain ⟨⟨u0, u1, u2, u3⟩, hv, h⟩ := Option.bind_eq_some_iff.mp h;have H := Sdq.mk h;have HV := Sdq.mk hv;have HL1 := Sdq.mk hl1;have hW := N.out.1.2.2.2.1;have V3 := Kd.V_below H3.out hW
    have q0 : (0 : Int) ≤ (i : Int) := by omega
    have q9 : (i : Int) < (t3.length : Int) := by omega
    obtain ⟨ad, B2, d2, B3, d3, rfl, g0, g1, g2, g3, -, -, -, -⟩ := at_T27 (Kd.V_reads' V3).2.2 (i : Int) q0 q9;obtain ⟨ce, -, hF, hcc⟩ := Kd.V_get V3 z27 (i : Int) q0 q9;obtain ⟨C2, e2, C3, e3, rfl, k2, F2, k3, F3⟩ := k27_openF hF;have j2 := hcc 2 _ rfl;have j3 := hcc 3 _ rfl;rw [add_field _ _ 2 (by omega)] at j2;rw [add_field _ _ 3 (by omega)] at j3
    injection Option.some.inj (j2.symm.trans g2) with a1 _ a2
    injection Option.some.inj (j3.symm.trans g3) with a3 _ a4
    subst a1 a2 a3 a4;clear hcc j2 j3 V3 hF
    have hx : rd_T27 t3 (i : Int) = t3[i] := by simp [rd_T27, hlt]
    rw [show t3.getD (i : Int).toNat z27 = t3[i] by simp [hlt]] at k2 F2 k3 F3;rw [hx, Int.toNat_natCast] at g0 g1 g2 g3;generalize t3[i] = x at HV k2 F2 k3 F3 g0 g1 g2 g3;clear hx h hv hl1;have E2 := Sdq.mk (show Kd.V Kd.string 9 wr 0 m (.slice C2 x.f2.length e2) x.f2 from Kd.V_mk k2 F2);have E3 := Sdq.mk (show Kd.V k27 27 wr 0 m (.slice C3 x.f3.length e3) x.f3 from Kd.V_mk k3 F3);clear k2 F2 k3 F3 hW;have q9' := eq_true q9;go_wp2;refine start_ (n := 12) (S := fun w' => w'.cell? ⟨w.heap.size + 2, 3, none⟩ = some (.slice A1 n1 q1) ∧ w'.cell? ⟨w.heap.size, 3, none⟩ = some (.slice (some ad) t3.length c3) ∧ w'.cell? (ad.add (i * 4)) = some (.int .i64 x.f0) ∧ w'.cell? ⟨(ad.add (i * 4)).block, (ad.add (i * 4)).off + 1, none⟩ = some (.string x.f1) ∧ w'.cell? ⟨(ad.add (i * 4)).block, (ad.add (i * 4)).off + 2, none⟩ = some (.slice C2 x.f2.length e2) ∧ w'.cell? ⟨(ad.add (i * 4)).block, (ad.add (i * 4)).off + 3, none⟩ = some (.slice C3 x.f3.length e3)) (ds := [9, 11]) #[false, false, false, false, false, false, false, false, false, false, false, false] (by kernel_rfl) rfl rfl ⟨z3, x3, g0, g1, g2, g3⟩ (fun hHeld => ?_);refine with_tabW of06.tab5 of06.bits5 (fun HT_ HW_ => ?_);have N := Sdq.mk N.out.drew;have E2 := Sdq.mk (Kd.V_drew E2.out);have E3 := Sdq.mk (Kd.V_drew E3.out);clear x0 x1 x2 x3 y0 y1 y2 y3 z0 z1 z2 z3 f0 f1 f2 f3 f4 g0 g1 g2 g3;generalize wr.drew = w3 at *;refine pure_ (i := 0) (N := some 19) (v := ?_) (a' := ?_) #[true, false, false, false, false, false, false, false, false, false, false, false] rfl rfl (any_of HT_.out (by kernel_rfl)) (fun _ _ _ h => h) (Or.inl ⟨by rfl, ?_⟩) ?_ ?_
    rotate_left
    ·intro w'
     go_simp
     with_reducible rfl
    rotate_left
    ·simp only [Act.put, List.setIfInBounds_toArray, List.set_cons_zero, List.set_cons_succ, i64_w, i32_w]
     rfl
    refine pure_ (i := 2) (N := some 21) (v := ?_) (a' := ?_) #[true, false, true, false, false, false, false, false, false, false, false, false] rfl rfl (any_of HT_.out (by kernel_rfl)) (fun _ _ _ h => h) (Or.inl ⟨by rfl, ?_⟩) ?_ ?_
    rotate_left
    ·intro w'
     go_simp
     with_reducible rfl
    rotate_left
    ·simp only [Act.put, List.setIfInBounds_toArray, List.set_cons_zero, List.set_cons_succ, i64_w, i32_w]
     rfl
    refine pure_ (i := 4) (N := some 23) (v := ?_) (a' := ?_) #[true, false, true, false, true, false, false, false, false, false, false, false] rfl rfl (any_of HT_.out (by kernel_rfl)) (fun _ _ _ h => h) (Or.inl ⟨by rfl, ?_⟩) ?_ ?_
    rotate_left
    ·intro w'
     go_simp
     with_reducible rfl
    rotate_left
    ·simp only [Act.put, List.setIfInBounds_toArray, List.set_cons_zero, List.set_cons_succ, i64_w, i32_w]
     rfl
    refine take_ (i := 1) (N := some 20) (v := ?_) (a' := ?_) #[true, true, true, false, true, false, false, false, false, false, false, false] rfl rfl (take_ofW HT_.out HW_.out (by kernel_rfl)) (fun _ _ _ h => h) (Or.inl ⟨by rfl, ?_⟩) hHeld ?_ ?_
    rotate_left
    ·rintro w' ⟨s0, s1, s2, s3, s4, s5⟩
     go_simp
     with_reducible rfl
    rotate_left
    ·simp only [Act.put, List.setIfInBounds_toArray, List.set_cons_zero, List.set_cons_succ, i64_w, i32_w]
     rfl
    refine take_ (i := 3) (N := some 22) (v := ?_) (a' := ?_) #[true, true, true, true, true, false, false, false, false, false, false, false] rfl rfl (take_ofW HT_.out HW_.out (by kernel_rfl)) (fun _ _ _ h => h) (Or.inl ⟨by rfl, ?_⟩) hHeld ?_ ?_
    rotate_left
    ·rintro w' ⟨s0, s1, s2, s3, s4, s5⟩
     go_simp
     with_reducible rfl
    rotate_left
    ·simp only [Act.put, List.setIfInBounds_toArray, List.set_cons_zero, List.set_cons_succ, i64_w, i32_w]
     rfl
    refine pure_ (i := 5) (N := some 24) (v := ?_) (a' := ?_) #[true, true, true, true, true, true, false, false, false, false, false, false] rfl rfl (any_of HT_.out (by kernel_rfl)) (fun _ _ _ h => h) (Or.inl ⟨by rfl, ?_⟩) ?_ ?_
    rotate_left
    ·intro w'
     go_simp
     with_reducible rfl
    rotate_left
    ·simp only [Act.put, List.setIfInBounds_toArray, List.set_cons_zero, List.set_cons_succ, i64_w, i32_w]
     rfl
    refine take_ (i := 6) (N := some 25) (v := ?_) (a' := ?_) #[true, true, true, true, true, true, true, false, false, false, false, false] rfl rfl (take_ofW HT_.out HW_.out (by kernel_rfl)) (fun _ _ _ h => h) (Or.inl ⟨by rfl, ?_⟩) hHeld ?_ ?_
    rotate_left
    ·rintro w' ⟨s0, s1, s2, s3, s4, s5⟩
     go_simp
     with_reducible rfl
    rotate_left
    ·simp only [Act.put, List.setIfInBounds_toArray, List.set_cons_zero, List.set_cons_succ, i64_w, i32_w]
     rfl
    refine one_ (i := 7) (N := some 26) #[true, true, true, true, true, true, true, true, false, false, false, false] rfl rfl (one_of HT_.out (by kernel_rfl)) (by decide) (fun K hK => ?_);refine goes_ Tryd.func18 (by kernel_rfl) rfl #[.agg #[.int .i64 x.f0, .string x.f1, .slice C2 x.f2.length e2, .slice C3 x.f3.length e3]] (by rfl) rfl rfl (by (try simp only [List.map_toArray, List.map_cons, List.map_nil]); first | done | rfl) ?_;have hws : w.heap.size ≤ w3.heap.size := Below.size N.out.1.2.2.2.1;have hms : w.heap.size + 3 ≤ w3.heap.size := Nat.succ_le_of_lt (blk_lt N.out.1.1);refine (of06_calls k x C2 e2 C3 e3 m ⟨u0, u1, u2, u3⟩ w3 (fun k hk => Nat.lt_of_lt_of_le (hm k hk) hws) E2.out E3.out HV.out).mono ?_;rintro e w4 ⟨v2, v3, rfl, r2, r3, hb⟩
    have hS := (show w4.cell? ⟨w.heap.size + 2, 3, none⟩ = _ ∧ w4.cell? ⟨w.heap.size, 3, none⟩ = _ ∧ w4.cell? (ad.add (i * 4)) = _ ∧ w4.cell? ⟨(ad.add (i * 4)).block, (ad.add (i * 4)).off + 1, none⟩ = _ ∧ w4.cell? ⟨(ad.add (i * 4)).block, (ad.add (i * 4)).off + 2, none⟩ = _ ∧ w4.cell? ⟨(ad.add (i * 4)).block, (ad.add (i * 4)).off + 3, none⟩ = _ from ⟨hdBq hb hHeld.1, hdBq hb hHeld.2.1, hdBq hb hHeld.2.2.1, hdBq hb hHeld.2.2.2.1, hdBq hb hHeld.2.2.2.2.1, hdBq hb hHeld.2.2.2.2.2⟩)
    refine ⟨_, rfl, ?_⟩;obtain ⟨D2, o2, rfl⟩ := Kd.V_slice r2;obtain ⟨D3, o3, rfl⟩ := Kd.N_slice r3;have hlw : ∀ k, (Value.slice A1 n1 q1).ownBlock = some k → k < w3.heap.size := Kd.N_lt N.out.2;have hlb : ∀ k, (Value.slice A1 n1 q1).ownBlock = some k → w.heap.size + 3 ≤ k := Kd.N_base N.out.2;have N4 := Sdq.mk (N.out.below hb);have hs4 := hb.size;have r2 := Sdq.mk (Kd.V_mono (ok' := fun k => (m k ∨ w.heap.size + 3 ≤ k) ∧ some k ≠ (Value.slice A1 n1 q1).ownBlock) r2 (fun k hk => ⟨hk.1.imp id (fun h => by omega), fun e => by have := hlw k e.symm; have := hlb k e.symm; exact hk.1.elim (fun h => by have := hm k h; omega) (fun h => by omega)⟩));have r3 := Sdq.mk (Kd.N_mono (ok' := fun k => (m k ∨ w.heap.size + 3 ≤ k) ∧ some k ≠ (Value.slice A1 n1 q1).ownBlock) r3 (fun k hk => ⟨hk.imp id (fun h => by omega), fun e => by have := hlw k e.symm; have := hlb k e.symm; exact hk.elim (fun h => by have := hm k h; omega) (fun h => by omega)⟩));clear N hb E2 E3 HV hlw hlb;refine hK.out _ _ hS (fun hHeld => ?_);clear hS;clear hK K;refine norm_ (a' := ?_) ?_ ?_
    rotate_left
    ·show Act.put _ (some 26) _ = _
     simp only [Act.put, List.setIfInBounds_toArray, List.set_cons_zero, List.set_cons_succ, i64_w, i32_w]
     rfl
    refine one_ (i := 8) (N := some 27) #[true, true, true, true, true, true, true, true, true, false, false, false] rfl rfl (one_of HT_.out (by kernel_rfl)) (by decide) (fun K hK => ?_);refine value_ (w1 := ?_) (v := ?_) (by rfl) rfl ?_ ?_
    rotate_left 2
    ·go_simp
     constructor
     ·rfl
     ·rfl
    refine hK.out _ _ ⟨held_alloc hHeld.1, held_alloc hHeld.2.1, held_alloc hHeld.2.2.1, held_alloc hHeld.2.2.2.1, held_alloc hHeld.2.2.2.2.1, held_alloc hHeld.2.2.2.2.2⟩ (fun hHeld => ?_);clear hK K;refine norm_ (a' := ?_) ?_ ?_
    rotate_left
    ·show Act.put _ (some 27) _ = _
     simp only [Act.put, List.setIfInBounds_toArray, List.set_cons_zero, List.set_cons_succ, i64_w, i32_w]
     rfl
    refine last_ (i := 9) (N := some 28) #[true, true, true, true, true, true, true, true, true, true, false, false] rfl rfl (one_of HT_.out (by kernel_rfl)) (by decide) (fun K hK => ?_);refine Kd.N_append_step k44 (w0 := w4) (w.heap.size + 3) (by rfl) (.tmp 20) (.tmp 27) 42 44 (.agg #[(.int .i64 0), (.string ⟨#[]⟩), (.slice none 0 0), (.slice none 0 0)]) 72 rfl Tryd.underlying42 info44 rfl (by decide) (by omega) (.slice A1 n1 q1) l (⟨u0, u1, u2, u3⟩ : S44) [.int .i64 u0, .string u1, .slice D2 u2.length o2, .slice D3 u3.length o3] (fun k => m k ∨ w.heap.size + 3 ≤ k) (fun k => (m k ∨ w.heap.size + 3 ≤ k) ∧ some k ≠ (Value.slice A1 n1 q1).ownBlock) rfl rfl ?aP (fun _ hk => hk) (fun k hk => .inr (by omega)) N4.out.2 (Below.refl _ _) (by omega) (by have := HL1.out; omega) ?_
    (case aP => exact (k44_mkF _ _ (⟨u0, u1, u2, u3⟩ : S44) (Kd.V_reads' r2.out).2.1 (Kd.V_F r2.out) (Kd.N_reads' r3.out).2.1 (Kd.N_F r3.out)))
    intro v5 w5 ho _ hg _;obtain ⟨D5, o5, rfl⟩ := Kd.N_slice ho;have NG := Sdq.mk (N4.out.grown hg);have NF := Sdq.mk (OS.put NG.out hm ho);clear N4 r2 r3 ho hg
    obtain ⟨z3, f4⟩ : w5.cell? ⟨w.heap.size + 2, 3, none⟩ = some (.slice A1 n1 q1) ∧ w5.frozen? ⟨w.heap.size + 2, 3, none⟩ = false := ⟨Ctx.blk NG.out.1 3 rfl, Ctx.frz NG.out.1 3⟩
    clear NG;refine hK.out _ _ ?_;clear hK K;refine norm_ (a' := ?_) ?_ ?_
    rotate_left
    ·show Act.put _ (some 28) _ = _
     simp only [Act.put, List.setIfInBounds_toArray, List.set_cons_zero, List.set_cons_succ, i64_w, i32_w]
     rfl
    refine pure_ (i := 10) (N := some 29) (v := ?_) (a' := ?_) #[true, true, true, true, true, true, true, true, true, true, true, false] rfl rfl (any_of HT_.out (by kernel_rfl)) (fun _ _ _ h => h) (Or.inl ⟨by rfl, ?_⟩) ?_ ?_
    rotate_left
    ·intro w'
     go_simp
     with_reducible rfl
    rotate_left
    ·simp only [Act.put, List.setIfInBounds_toArray, List.set_cons_zero, List.set_cons_succ, i64_w, i32_w]
     rfl
    refine last_ (i := 11) (N := none) #[true, true, true, true, true, true, true, true, true, true, true, true] rfl rfl (one_of HT_.out (by kernel_rfl)) (by decide) (fun K hK => ?_);refine skip_ (w1 := ?_) (by rfl) rfl ?_ ?_
    rotate_left
    ·go_simp
     rfl
    refine hK.out _ _ ?_;clear hK K;refine done_ (done_of HT_.out (by kernel_rfl)) ?_;go_wp2
    go_roundg gk
    case measure => omega
    exact ⟨i + 1, .slice D5 (l.length + 1) o5, _, by rw [show wrap64 ((i : Int) + 1) = ((i + 1 : Nat) : Int) by have := hlen.out; unfold wrap64; omega], by omega, H, by have e := NF.out; rw [List.length_append] at e; exact ⟨e⟩⟩
   | zero =>
    have hge : t3.length ≤ i := by omega
    have h := H.out;rw [List.drop_eq_nil_of_le hge] at h;obtain rfl := Option.some.inj (show some l = some l3 from h);clear H h;have V2 := Sdq.mk (Kd.V_below H2.out N.out.1.2.2.2.1)
    go_wp2_with fail
    have F := N.out.fin hm V2.out _ rfl;clear N x0 x1 x2 x3 y0 y1 y2 y3 z0 z1 z2 z3 f0 f1 f2 f3 f4;generalize World.setCell _ _ _ = wf at F ⊢;obtain ⟨fP, d0, d1, d2, d3⟩ := F;exact bodyPost_ret (v := .agg #[.int .i64 t0, .string t1, .slice A2 t2.length c2, .slice A1 n1 q1]) (by simp [results, Tryd.results18, go_sem, d0, d1, d2, d3]) rfl fP
end Go.Proofs.YteighppcdpaekaaDoor.P
end
section
namespace Go.Proofs.YteighppcdpaekaaDoor.P
open Go.RowKit Go.Proofs.YteighppcdpaekaaDoorW.PrintWords Go.Proofs.YteighppcdpaekaaDoorW.PrintLast Go.Proofs.YteighppcdpaekaaDoorW.PrintMore
attribute [local go_sem] max2_int min2_int max_two min_two max_three min_three max_four min_four
set_option linter.unusedVariables false
set_option linter.unusedSimpArgs false
theorem F_lit {α : Type} {d : Kd α} {W : World} {b : Nat} {c : List Value} {e : Nat} {x : α} {ok : Nat → Prop} (hb : W.heap[b]? = some (.cells c.toArray e (0, 0))) (hK : Kd.FK d W ok x c) : Kd.F d W (fun k => k = b ∨ ok k) (some ⟨b, 0, none⟩) 1 [x] := fun W' hW => by
 refine ⟨rfl, by decide, fun _ => ⟨_, rfl, fun j p hj => ?_⟩⟩
 obtain ⟨rfl, rfl⟩ : j = 0 ∧ p = x := by
  rcases j with _ | j
  ·simp at hj; exact ⟨rfl, hj.symm⟩
  ·simp at hj
 have hK' := hK W' (fun k hk hlt => hW k (.inr hk) hlt);refine ⟨c, d.K_len hK', hK', fun i u hu => ?_⟩;have hblk := (hW b (.inl rfl) (blk_lt hb)).trans hb
 have ha : (⟨b, 0, none⟩ : Addr).add (0 * d.sz + i) = ⟨b, i, none⟩ := by
  rw [Nat.zero_mul, Nat.zero_add];unfold Addr.add
  split
  ·rename_i h0; rw [h0]
  ·simp
 rw [ha, bceq hblk i]
 simpa using hu
structure MS (w : World) (P0_ : Nat → Prop) (wc : World) (kv lv kv1 lv1 : Value) (ks : List ByteArray) (ls : List S27) : Prop where
 bel : Below w.heap.size w wc
 zb : wc.heap[w.heap.size]? = some (.cells #[.int .i64 0, .string ⟨#[]⟩, .slice none 0 0, .slice none 0 0] 27 (0, 0))
 vb : wc.heap[w.heap.size + 1]? = some (.cells #[.int .i64 6, .string ⟨#[]⟩, kv1, lv1] 27 (0, 0))
 own2 : Kd.R Kd.string 9 wc (w.heap.size + 2) (fun _ => True) kv ks
 own : Kd.N k27 27 wc (w.heap.size + 2) (fun k => (P0_ k ∧ k < w.heap.size ∨ w.heap.size + 2 ≤ k) ∧ some k ≠ kv.ownBlock) lv ls
section
variable {w : World} {P0_ : Nat → Prop} {wc w2 : World} {kv lv kv1 lv1 v1 : Value} {ks : List ByteArray} {ls : List S27}
theorem MS.step (h : MS w P0_ wc kv lv kv1 lv1 ks ls) (hb : Below wc.heap.size wc w2) : MS w P0_ w2 kv lv kv1 lv1 ks ls :=
 ⟨below_step h.bel hb, (hb.block _ (blk_lt h.zb)).trans h.zb, (hb.block _ (blk_lt h.vb)).trans h.vb, Kd.R_below h.own2 hb, Kd.N_below h.own hb⟩
theorem MS.alloc (h : MS w P0_ wc kv lv kv1 lv1 ks ls) (x : Obj) : MS w P0_ (wc.alloc x) kv lv kv1 lv1 ks ls := h.step (bal (Below.refl _ _) x)
theorem MS.drew (h : MS w P0_ wc kv lv kv1 lv1 ks ls) : MS w P0_ wc.drew kv lv kv1 lv1 ks ls := h.step (below_drew (Below.refl _ _))
theorem MS.appK (h : MS w P0_ wc kv lv kv1 lv1 ks ls) {key : ByteArray} (hR : Kd.R Kd.string 9 w2 (w.heap.size + 2) (fun _ => True) v1 (ks ++ [key])) (hg : wc.grownBy w2 kv.ownBlock) (hat : v1.ownBlock = kv.ownBlock ∨ ∃ b, v1.ownBlock = some b ∧ wc.heap.size ≤ b) :
  MS w P0_ w2 v1 lv kv1 lv1 (ks ++ [key]) ls := by
 have hne : ∀ i, i < w.heap.size + 2 → some i ≠ kv.ownBlock := fun i hi e => by have := Kd.R_base h.own2 i e.symm; omega
 have h1 := blk_lt h.vb;refine ⟨h.bel.grown hg (by omega) (fun k hk => by have := Kd.R_base h.own2 k hk; omega), blk_grown h.zb hg (hne _ (by omega)), blk_grown h.vb hg (hne _ (by omega)), hR, Kd.N_after h.own hg hat⟩
theorem MS.appL (h : MS w P0_ wc kv lv kv1 lv1 ks ls) {v : S27} (hR : Kd.N k27 27 w2 (w.heap.size + 2) (fun k => (P0_ k ∧ k < w.heap.size ∨ w.heap.size + 2 ≤ k) ∧ some k ≠ kv.ownBlock) v1 (ls ++ [v])) (hg : wc.grownBy w2 lv.ownBlock) :
  MS w P0_ w2 kv v1 kv1 lv1 ks (ls ++ [v]) := by
 have hne : ∀ i, i < w.heap.size + 2 → some i ≠ lv.ownBlock := fun i hi e => by have := Kd.N_base h.own i e.symm; omega
 have h1 := blk_lt h.vb;refine ⟨h.bel.grown hg (by omega) (fun k hk => by have := Kd.N_base h.own k hk; omega), blk_grown h.zb hg (hne _ (by omega)), blk_grown h.vb hg (hne _ (by omega)), ?_, hR⟩;exact Kd.R_mono (Kd.R_grown (Kd.R_tight rfl h.own2) hg (fun k hk e => (h.own.1 k e.symm).2 hk)) (fun _ _ => trivial)
theorem MS.setK (h : MS w P0_ wc kv lv kv1 lv1 ks ls) (x : Value) : MS w P0_ (wc.setCell ⟨w.heap.size + 1, 2, none⟩ x) kv lv x lv1 ks ls := by
 have h1 := blk_lt h.vb;refine ⟨bstq h.bel (Nat.le_succ _), blk_far h.zb (p := ⟨w.heap.size + 1, 2, none⟩) (by show w.heap.size ≠ w.heap.size + 1; omega) x, blk_put h.vb 2 x rfl, ?_, ?_⟩
 ·exact Kd.R_mono (Kd.R_far (p := ⟨w.heap.size + 1, 2, none⟩) (Kd.R_bound h.own2) (fun k hk => by have h2 := hk.2.1; show k ≠ w.heap.size + 1; omega) x) (fun _ _ => trivial)
 ·exact Kd.N_far h.own (p := ⟨w.heap.size + 1, 2, none⟩) (fun k hk => by show k ≠ w.heap.size + 1; omega) x
theorem MS.setL (h : MS w P0_ wc kv lv kv1 lv1 ks ls) (x : Value) : MS w P0_ (wc.setCell ⟨w.heap.size + 1, 3, none⟩ x) kv lv kv1 x ks ls := by
 have h1 := blk_lt h.vb;refine ⟨bstq h.bel (Nat.le_succ _), blk_far h.zb (p := ⟨w.heap.size + 1, 3, none⟩) (by show w.heap.size ≠ w.heap.size + 1; omega) x, blk_put h.vb 3 x rfl, ?_, ?_⟩
 ·exact Kd.R_mono (Kd.R_far (p := ⟨w.heap.size + 1, 3, none⟩) (Kd.R_bound h.own2) (fun k hk => by have h2 := hk.2.1; show k ≠ w.heap.size + 1; omega) x) (fun _ _ => trivial)
 ·exact Kd.N_far h.own (p := ⟨w.heap.size + 1, 3, none⟩) (fun k hk => by show k ≠ w.heap.size + 1; omega) x
end
theorem MS.stored {w : World} {P0_ : Nat → Prop} {wc : World} {kv lv kv1 lv1 : Value} {ks : List ByteArray} {ls : List S27} (h : MS w P0_ wc kv lv kv1 lv1 ks ls) (u0 u1 u2 u3 : Value) :
  let wf := (((wc.setCell ⟨w.heap.size, 0, none⟩ u0).setCell ⟨w.heap.size, 1, none⟩ u1).setCell ⟨w.heap.size, 2, none⟩ u2).setCell ⟨w.heap.size, 3, none⟩ u3
  wf.heap[w.heap.size]? = some (.cells #[u0, u1, u2, u3] 27 (0, 0)) ∧ Below w.heap.size w wf ∧ Kd.V Kd.string 9 wf w.heap.size (fun k => P0_ k ∨ w.heap.size ≤ k) kv ks ∧ Kd.V k27 27 wf w.heap.size (fun k => P0_ k ∨ w.heap.size ≤ k) lv ls := by
 have hst : ∀ (W : World) (j : Nat) (u : Value), Kd.R Kd.string 9 W (w.heap.size + 2) (fun _ => True) kv ks → Kd.R Kd.string 9 (W.setCell ⟨w.heap.size, j, none⟩ u) (w.heap.size + 2) (fun _ => True) kv ks := fun W j u hR =>
  Kd.R_mono (Kd.R_far (p := ⟨w.heap.size, j, none⟩) (Kd.R_bound hR) (fun k hk => by have h2 := hk.2.1; show k ≠ w.heap.size; omega) u) (fun _ _ => trivial)
 have hst2 : ∀ (W : World) (j : Nat) (u : Value), Kd.N k27 27 W (w.heap.size + 2) (fun k => (P0_ k ∧ k < w.heap.size ∨ w.heap.size + 2 ≤ k) ∧ some k ≠ kv.ownBlock) lv ls → Kd.N k27 27 (W.setCell ⟨w.heap.size, j, none⟩ u) (w.heap.size + 2) (fun k => (P0_ k ∧ k < w.heap.size ∨ w.heap.size + 2 ≤ k) ∧ some k ≠ kv.ownBlock) lv ls := fun W j u hN =>
  Kd.N_far hN (p := ⟨w.heap.size, j, none⟩) (fun k hk => by have := hk.1; show k ≠ w.heap.size; omega) u
 refine ⟨blk_put (blk_put (blk_put (blk_put h.zb 0 u0 rfl) 1 u1 rfl) 2 u2 rfl) 3 u3 rfl, bstq (bstq (bstq (bstq h.bel (Nat.le_refl _)) (Nat.le_refl _)) (Nat.le_refl _)) (Nat.le_refl _), ?_, ?_⟩
 ·exact Kd.V_mono (Kd.R_V (Kd.R_mono (Kd.R_bound (hst _ _ _ (hst _ _ _ (hst _ _ _ (hst _ _ _ h.own2))))) (ok' := fun k => w.heap.size + 2 ≤ k) (fun k hk => hk.2.1))) (fun k hk => .inr (by omega))
 ·exact Kd.V_mono (Kd.N_V (hst2 _ _ _ (hst2 _ _ _ (hst2 _ _ _ (hst2 _ _ _ h.own))))) (fun k hk => hk.1.elim (fun h => .inl h.1) (fun h => .inr (by omega)))
structure MT (w : World) (P0_ : Nat → Prop) (pb : Nat) (p0 p1 p2 p3 p4 : Value) (wc : World) (kv lv kv1 lv1 : Value) (ks : List ByteArray) (ls : List S27) : Prop where
 ms : MS w P0_ wc kv lv kv1 lv1 ks ls
 pbk : wc.heap[pb]? = some (.cells #[p0, p1, p2, p3, p4] 30 (0, 0))
 ge : w.heap.size + 2 ≤ pb
section
variable {w : World} {P0_ : Nat → Prop} {pb : Nat} {p0 p1 p2 p3 p4 : Value} {wc w2 : World} {kv lv kv1 lv1 v1 : Value} {ks : List ByteArray} {ls : List S27}
theorem MT.step (h : MT w P0_ pb p0 p1 p2 p3 p4 wc kv lv kv1 lv1 ks ls) (hb : Below wc.heap.size wc w2) : MT w P0_ pb p0 p1 p2 p3 p4 w2 kv lv kv1 lv1 ks ls :=
 ⟨h.ms.step hb, (hb.block _ (blk_lt h.pbk)).trans h.pbk, h.ge⟩
theorem MT.alloc (h : MT w P0_ pb p0 p1 p2 p3 p4 wc kv lv kv1 lv1 ks ls) (x : Obj) : MT w P0_ pb p0 p1 p2 p3 p4 (wc.alloc x) kv lv kv1 lv1 ks ls := h.step (bal (Below.refl _ _) x)
theorem MT.drew (h : MT w P0_ pb p0 p1 p2 p3 p4 wc kv lv kv1 lv1 ks ls) : MT w P0_ pb p0 p1 p2 p3 p4 wc.drew kv lv kv1 lv1 ks ls := h.step (below_drew (Below.refl _ _))
theorem MT.appK (h : MT w P0_ pb p0 p1 p2 p3 p4 wc kv lv kv1 lv1 ks ls) {key : ByteArray} (hR : Kd.R Kd.string 9 w2 (w.heap.size + 2) (fun _ => True) v1 (ks ++ [key])) (hg : wc.grownBy w2 kv.ownBlock) (hat : v1.ownBlock = kv.ownBlock ∨ ∃ b, v1.ownBlock = some b ∧ wc.heap.size ≤ b) :
  MT w P0_ pb p0 p1 p2 p3 p4 w2 v1 lv kv1 lv1 (ks ++ [key]) ls :=
 ⟨h.ms.appK hR hg hat, blk_grown h.pbk hg (Kd.R_ne h.ms.own2 h.pbk (by decide)), h.ge⟩
theorem MT.appL (h : MT w P0_ pb p0 p1 p2 p3 p4 wc kv lv kv1 lv1 ks ls) {v : S27} (hR : Kd.N k27 27 w2 (w.heap.size + 2) (fun k => (P0_ k ∧ k < w.heap.size ∨ w.heap.size + 2 ≤ k) ∧ some k ≠ kv.ownBlock) v1 (ls ++ [v])) (hg : wc.grownBy w2 lv.ownBlock) :
  MT w P0_ pb p0 p1 p2 p3 p4 w2 kv v1 kv1 lv1 ks (ls ++ [v]) :=
 ⟨h.ms.appL hR hg, blk_grown h.pbk hg (Kd.N_ne h.ms.own h.pbk (by decide)), h.ge⟩
theorem MT.setK (h : MT w P0_ pb p0 p1 p2 p3 p4 wc kv lv kv1 lv1 ks ls) (x : Value) : MT w P0_ pb p0 p1 p2 p3 p4 (wc.setCell ⟨w.heap.size + 1, 2, none⟩ x) kv lv x lv1 ks ls :=
 ⟨h.ms.setK x, blk_far h.pbk (p := ⟨w.heap.size + 1, 2, none⟩) (by have := h.ge; show pb ≠ w.heap.size + 1; omega) x, h.ge⟩
theorem MT.setL (h : MT w P0_ pb p0 p1 p2 p3 p4 wc kv lv kv1 lv1 ks ls) (x : Value) : MT w P0_ pb p0 p1 p2 p3 p4 (wc.setCell ⟨w.heap.size + 1, 3, none⟩ x) kv lv kv1 x ks ls :=
 ⟨h.ms.setL x, blk_far h.pbk (p := ⟨w.heap.size + 1, 3, none⟩) (by have := h.ge; show pb ≠ w.heap.size + 1; omega) x, h.ge⟩
theorem MT.cells (h : MT w P0_ pb p0 p1 p2 p3 p4 wc kv lv kv1 lv1 ks ls) :
  (wc.cell? ⟨w.heap.size + 1, 2, none⟩ = some kv1 ∧ wc.cell? ⟨w.heap.size + 1, 3, none⟩ = some lv1) ∧ (wc.frozen? ⟨w.heap.size + 1, 2, none⟩ = false ∧ wc.frozen? ⟨w.heap.size + 1, 3, none⟩ = false) ∧
  (wc.cell? ⟨pb, 0, none⟩ = some p0 ∧ wc.cell? ⟨pb, 1, none⟩ = some p1 ∧ wc.cell? ⟨pb, 2, none⟩ = some p2 ∧ wc.cell? ⟨pb, 3, none⟩ = some p3 ∧ wc.cell? ⟨pb, 4, none⟩ = some p4) :=
 ⟨⟨bceq h.ms.vb 2, bceq h.ms.vb 3⟩, ⟨bfz h.ms.vb 2, bfz h.ms.vb 3⟩, bceq h.pbk 0, bceq h.pbk 1, bceq h.pbk 2, bceq h.pbk 3, bceq h.pbk 4⟩
theorem MT.held (h : MT w P0_ pb p0 p1 p2 p3 p4 wc kv lv kv1 lv1 ks ls) :
  wc.cell? ⟨w.heap.size + 1, 2, none⟩ = some kv1 ∧ wc.cell? ⟨w.heap.size + 1, 3, none⟩ = some lv1 ∧ wc.cell? ⟨pb, 0, none⟩ = some p0 ∧ wc.cell? ⟨pb, 1, none⟩ = some p1 ∧ wc.cell? ⟨pb, 2, none⟩ = some p2 ∧ wc.cell? ⟨pb, 3, none⟩ = some p3 ∧ wc.cell? ⟨pb, 4, none⟩ = some p4 :=
 ⟨h.cells.1.1, h.cells.1.2, h.cells.2.2⟩
theorem MT.ge2 (h : MT w P0_ pb p0 p1 p2 p3 p4 wc kv lv kv1 lv1 ks ls) : w.heap.size + 2 ≤ wc.heap.size := by have := blk_lt h.ms.vb; omega
theorem MT.okp (h : MT w P0_ pb p0 p1 p2 p3 p4 wc kv lv kv1 lv1 ks ls) : ∀ k, (P0_ k ∧ k < w.heap.size) → ((P0_ k ∧ k < w.heap.size ∨ w.heap.size + 2 ≤ k) ∧ some k ≠ kv.ownBlock) ∧ some k ≠ lv.ownBlock :=
 fun k hk => ⟨⟨.inl hk, fun e => by have := Kd.R_base h.ms.own2 k e.symm; omega⟩, fun e => by have := Kd.N_base h.ms.own k e.symm; omega⟩
theorem MT.fresh (h : MT w P0_ pb p0 p1 p2 p3 p4 wc kv lv kv1 lv1 ks ls) : ∀ k, wc.heap.size ≤ k → (P0_ k ∧ k < w.heap.size ∨ w.heap.size + 2 ≤ k) ∧ some k ≠ kv.ownBlock :=
 fun k hk => ⟨.inr (by have := h.ge2; omega), fun e => by have := Kd.R_lt h.ms.own2 k e.symm; omega⟩
theorem MT.okb (h : MT w P0_ pb p0 p1 p2 p3 p4 wc kv lv kv1 lv1 ks ls) {b : Nat} {cells : Array Value} (hb : w.heap.size + 2 ≤ b) (hc : wc.heap[b]? = some (.cells cells 27 (0, 0))) (hl : some b ≠ lv.ownBlock) :
  ∀ k, (k = b ∨ P0_ k ∧ k < w.heap.size) → ((P0_ k ∧ k < w.heap.size ∨ w.heap.size + 2 ≤ k) ∧ some k ≠ kv.ownBlock) ∧ some k ≠ lv.ownBlock := by
 rintro k (rfl | hk)
 ·exact ⟨⟨.inr hb, Kd.R_ne h.ms.own2 hc (by decide)⟩, hl⟩
 ·exact h.okp k hk
end
def json_Made.f (l0 : List S30) : Option (Int × ByteArray × List ByteArray × (List (S27))) := if l0.length ≤ 1000000 then some (6, ⟨#[]⟩, l0.map S30.f0, l0.map S30.f1) else none
set_option linter.unusedSimpArgs false in
set_option maxHeartbeats 3200000 in
set_option maxRecDepth 100000 in
theorem json_Made.calls (P0_ : Nat → Prop) (A0 : Option Addr) (c0 : Nat) (l0 : List S30) (r1 : Int) (r2 : ByteArray) (r3 : List ByteArray) (r4 : List (S27)) (w : World) (hs0 : Kd.V k30 30 w w.heap.size (fun k_ => P0_ k_) (.slice A0 l0.length c0) l0) (h : json_Made.f l0 = some (r1, r2, r3, r4)) :
  Calls Tryd.prog 11 #[.slice A0 l0.length c0] w fun e w' => ∃ v2_ v3_ : Value, e = .returned (.agg #[.int .i64 r1, .string r2, v2_, v3_]) ∧ Kd.V Kd.string 9 w' w.heap.size (fun k_ => (P0_ k_ ∨ w.heap.size ≤ k_)) v2_ r3 ∧ Kd.V k27 27 w' w.heap.size (fun k_ => (P0_ k_ ∨ w.heap.size ≤ k_)) v3_ r4 ∧ Below w.heap.size w w' := by
 unfold json_Made.f at h
 split at h
 case isFalse => cases h
 rename_i hlen
 simp only [Option.some.injEq, Prod.mk.injEq] at h;obtain ⟨rfl, rfl, rfl, rfl⟩ := h
 have hA0 : MS w P0_ ((w.alloc (.cells #[.int .i64 0, .string ⟨#[]⟩, .slice none 0 0, .slice none 0 0] 27)).alloc (.cells #[.int .i64 6, .string ⟨#[]⟩, .slice none 0 0, .slice none 0 0] 27)) (.slice none 0 0) (.slice none 0 0) (.slice none 0 0) (.slice none 0 0) [] [] :=
  ⟨bal (bal (Below.refl _ _) _) _, blk_alloc (blk_new _ _) _, by have := blk_new (w.alloc (.cells #[.int .i64 0, .string ⟨#[]⟩, .slice none 0 0, .slice none 0 0] 27)) (.cells #[.int .i64 6, .string ⟨#[]⟩, .slice none 0 0, .slice none 0 0] 27); simpa using this, Kd.R_nil _ _ _ _ _, Kd.N_nil _ _ _ _ _⟩
 have hA1 := Lib.hid hA0;clear hA0;go_enter Tryd.func11, Tryd.ntmps11
 go_wp2_with fail
 go_loopg [9] l0.length (fun kq v9 wc => ∃ (i : Nat) (kv lv : Value), v9 = .int .i64 i ∧ i + kq = l0.length ∧ MS w P0_ wc kv lv kv lv ((l0.map S30.f0).take i) ((l0.map S30.f1).take i))
 case atStart => exact ⟨0, _, _, rfl, by omega, hA1.out⟩
 case round =>
  obtain ⟨i, kv, lv, rfl, hik, hS⟩ := hrel;clear hA1;by_cases hi : i < l0.length
  ·obtain ⟨kj, rfl⟩ : ∃ kj, gk = kj + 1 := ⟨gk - 1, by omega⟩
   have hV := Kd.V_old hs0 hS.bel
   obtain ⟨ad, rfl⟩ : ∃ ad, A0 = some ad := by
    obtain ⟨ad, _, _, _, _, e, _⟩ := at_T30 (Kd.V_reads' hs0).2.2 (i : Int) (by omega) (by omega);exact ⟨ad, e⟩
   obtain ⟨cs, hcl, hFK, hcc⟩ := Kd.V_get hV z30 (i : Int) (by omega) (by omega);rw [show ((i : Int)).toNat = i from rfl] at hFK hcc;generalize hx : l0.getD i z30 = x at hFK;obtain ⟨A3, c3, A4, c4, rfl, l3, g3, l4, g4⟩ := k30_openF hFK;have hcc2 : ∀ j u, [Value.string x.f0, Value.int IntKind.i64 x.f1.f0, Value.string x.f1.f1, Value.slice A3 x.f1.f2.length c3, Value.slice A4 x.f1.f3.length c4][j]? = some u → wr.cell? (ad.add (i * 5 + j)) = some u := hcc;have hc0 : wr.cell? (ad.add (i * 5)) = some (.string x.f0) := hcc2 0 _ rfl
   have hc1 : wr.cell? ⟨(ad.add (i * 5)).block, (ad.add (i * 5)).off + 1, none⟩ = some (.int .i64 x.f1.f0) := by rw [← add_field _ _ 1 (by omega)]; exact hcc2 1 _ rfl
   have hc2 : wr.cell? ⟨(ad.add (i * 5)).block, (ad.add (i * 5)).off + 2, none⟩ = some (.string x.f1.f1) := by rw [← add_field _ _ 2 (by omega)]; exact hcc2 2 _ rfl
   have hc3 : wr.cell? ⟨(ad.add (i * 5)).block, (ad.add (i * 5)).off + 3, none⟩ = some (.slice A3 x.f1.f2.length c3) := by rw [← add_field _ _ 3 (by omega)]; exact hcc2 3 _ rfl
   have hc4 : wr.cell? ⟨(ad.add (i * 5)).block, (ad.add (i * 5)).off + 4, none⟩ = some (.slice A4 x.f1.f3.length c4) := by rw [← add_field _ _ 4 (by omega)]; exact hcc2 4 _ rfl
   clear hcc hcc2 hcl
   go_wp2_with fail
   have hT0 : MT w P0_ wr.heap.size (.string x.f0) (.int .i64 x.f1.f0) (.string x.f1.f1) (.slice A3 x.f1.f2.length c3) (.slice A4 x.f1.f3.length c4) (wr.alloc (.cells #[.string x.f0, .int .i64 x.f1.f0, .string x.f1.f1, .slice A3 x.f1.f2.length c3, .slice A4 x.f1.f3.length c4] 30)) kv lv kv lv ((l0.map S30.f0).take i) ((l0.map S30.f1).take i) :=
    ⟨hS.alloc _, blk_new _ _, by have := blk_lt hS.vb; omega⟩
   generalize hw3 : wr.alloc (.cells #[.string x.f0, .int .i64 x.f1.f0, .string x.f1.f1, .slice A3 x.f1.f2.length c3, .slice A4 x.f1.f3.length c4] 30) = w3 at hT0 ⊢
   have hb3 : Below wr.heap.size wr w3 := by rw [← hw3]; exact bal (Below.refl _ _) _
   have hlt0 := blk_lt hS.vb
   have hkl : ((l0.map S30.f0).take i).length ≤ 1000000 := by simp; omega
   have hll : ((l0.map S30.f1).take i).length ≤ 1000000 := by simp; omega
   have hkx : (l0.map S30.f0).take (i + 1) = (l0.map S30.f0).take i ++ [x.f0] := by
    rw [List.take_add_one, List.getElem?_map, ← hx, List.getD_eq_getElem?_getD, List.getElem?_eq_getElem hi]; rfl
   have hlx : (l0.map S30.f1).take (i + 1) = (l0.map S30.f1).take i ++ [x.f1] := by
    rw [List.take_add_one, List.getElem?_map, ← hx, List.getD_eq_getElem?_getD, List.getElem?_eq_getElem hi]; rfl
   have hF0 : Kd.FK k27 wr (fun k => P0_ k ∧ k < w.heap.size) x.f1 [.int .i64 x.f1.f0, .string x.f1.f1, .slice A3 x.f1.f2.length c3, .slice A4 x.f1.f3.length c4] := k27_mkF wr _ x.f1 l3 g3 l4 g4;clear hw3 hc0 hc1 hc2 hc3 hc4 hs0 hV hx hFK;have hbd : Below wr.heap.size wr w3.drew := below_drew hb3;have hFd : Kd.FK k27 w3.drew (fun k => P0_ k ∧ k < w.heap.size) x.f1 [.int .i64 x.f1.f0, .string x.f1.f1, .slice A3 x.f1.f2.length c3, .slice A4 x.f1.f3.length c4] := Kd.FK_below hF0 hbd;clear hF0 hb3 hbd;generalize wr.heap.size = pb at hT0 hlt0 ⊢
   obtain ⟨Ak, nk, ck, rfl⟩ : ∃ A n c, kv = .slice A n c := (by obtain ⟨A, c, e⟩ := Kd.R_slice hS.own2; exact ⟨_, _, _, e⟩)
   obtain ⟨Al, nl, cl, rfl⟩ : ∃ A n c, lv = .slice A n c := (by obtain ⟨A, c, e⟩ := Kd.N_slice hS.own; exact ⟨_, _, _, e⟩)
   clear hS;generalize (l0.map S30.f0).take i = ks at hT0 hkl hkx;generalize (l0.map S30.f1).take i = ls at hT0 hll hlx;have hTd := hT0.drew;have hgd := hTd.ge2;refine start_ (n := 16) (S := fun w' => w'.cell? ⟨w.heap.size + 1, 2, none⟩ = some (.slice Ak nk ck) ∧ w'.cell? ⟨w.heap.size + 1, 3, none⟩ = some (.slice Al nl cl) ∧ w'.cell? ⟨pb, 0, none⟩ = some (.string x.f0) ∧ w'.cell? ⟨pb, 1, none⟩ = some (.int .i64 x.f1.f0) ∧ w'.cell? ⟨pb, 2, none⟩ = some (.string x.f1.f1) ∧ w'.cell? ⟨pb, 3, none⟩ = some (.slice A3 x.f1.f2.length c3) ∧ w'.cell? ⟨pb, 4, none⟩ = some (.slice A4 x.f1.f3.length c4)) (ds := [13, 15]) #[false, false, false, false, false, false, false, false, false, false, false, false, false, false, false, false] (by kernel_rfl) rfl rfl hTd.held (fun hHeld => ?_);refine pure_ (i := 0) (N := some 13) (v := ?_) (a' := ?_) #[true, false, false, false, false, false, false, false, false, false, false, false, false, false, false, false] rfl rfl (by kernel_rfl) (fun _ _ _ h => h) (Or.inl ⟨by rfl, ?_⟩) ?_ ?_
   rotate_left
   ·intro w'
    go_simp
    with_reducible rfl
   rotate_left
   ·simp only [Act.put, List.setIfInBounds_toArray, List.set_cons_zero, List.set_cons_succ, i64_w, i32_w]
    rfl
   refine take_ (i := 1) (N := some 14) (v := ?_) (a' := ?_) #[true, true, false, false, false, false, false, false, false, false, false, false, false, false, false, false] rfl rfl (by kernel_rfl) (fun _ _ _ h => h) (Or.inl ⟨by rfl, ?_⟩) hHeld ?_ ?_
   rotate_left
   ·rintro w' ⟨s0, s1, s2, s3, s4, s5, s6⟩
    go_simp
    with_reducible rfl
   rotate_left
   ·simp only [Act.put, List.setIfInBounds_toArray, List.set_cons_zero, List.set_cons_succ, i64_w, i32_w]
    rfl
   refine pure_ (i := 2) (N := some 15) (v := ?_) (a' := ?_) #[true, true, true, false, false, false, false, false, false, false, false, false, false, false, false, false] rfl rfl (by kernel_rfl) (fun _ _ _ h => h) (Or.inl ⟨by rfl, ?_⟩) ?_ ?_
   rotate_left
   ·intro w'
    go_simp
    with_reducible rfl
   rotate_left
   ·simp only [Act.put, List.setIfInBounds_toArray, List.set_cons_zero, List.set_cons_succ, i64_w, i32_w]
    rfl
   refine take_ (i := 3) (N := some 16) (v := ?_) (a' := ?_) #[true, true, true, true, false, false, false, false, false, false, false, false, false, false, false, false] rfl rfl (by kernel_rfl) (fun _ _ _ h => h) (Or.inl ⟨by rfl, ?_⟩) hHeld ?_ ?_
   rotate_left
   ·rintro w' ⟨s0, s1, s2, s3, s4, s5, s6⟩
    go_simp
    with_reducible rfl
   rotate_left
   ·simp only [Act.put, List.setIfInBounds_toArray, List.set_cons_zero, List.set_cons_succ, i64_w, i32_w]
    rfl
   refine pure_ (i := 6) (N := some 19) (v := ?_) (a' := ?_) #[true, true, true, true, false, false, true, false, false, false, false, false, false, false, false, false] rfl rfl (by kernel_rfl) (fun _ _ _ h => h) (Or.inl ⟨by rfl, ?_⟩) ?_ ?_
   rotate_left
   ·intro w'
    go_simp
    with_reducible rfl
   rotate_left
   ·simp only [Act.put, List.setIfInBounds_toArray, List.set_cons_zero, List.set_cons_succ, i64_w, i32_w]
    rfl
   refine take_ (i := 7) (N := some 20) (v := ?_) (a' := ?_) #[true, true, true, true, false, false, true, true, false, false, false, false, false, false, false, false] rfl rfl (by kernel_rfl) (fun _ _ _ h => h) (Or.inl ⟨by rfl, ?_⟩) hHeld ?_ ?_
   rotate_left
   ·rintro w' ⟨s0, s1, s2, s3, s4, s5, s6⟩
    go_simp
    with_reducible rfl
   rotate_left
   ·simp only [Act.put, List.setIfInBounds_toArray, List.set_cons_zero, List.set_cons_succ, i64_w, i32_w]
    rfl
   refine pure_ (i := 8) (N := some 21) (v := ?_) (a' := ?_) #[true, true, true, true, false, false, true, true, true, false, false, false, false, false, false, false] rfl rfl (by kernel_rfl) (fun _ _ _ h => h) (Or.inl ⟨by rfl, ?_⟩) ?_ ?_
   rotate_left
   ·intro w'
    go_simp
    with_reducible rfl
   rotate_left
   ·simp only [Act.put, List.setIfInBounds_toArray, List.set_cons_zero, List.set_cons_succ, i64_w, i32_w]
    rfl
   refine take_ (i := 9) (N := some 22) (v := ?_) (a' := ?_) #[true, true, true, true, false, false, true, true, true, true, false, false, false, false, false, false] rfl rfl (by kernel_rfl) (fun _ _ _ h => h) (Or.inl ⟨by rfl, ?_⟩) hHeld ?_ ?_
   rotate_left
   ·rintro w' ⟨s0, s1, s2, s3, s4, s5, s6⟩
    go_simp
    with_reducible rfl
   rotate_left
   ·simp only [Act.put, List.setIfInBounds_toArray, List.set_cons_zero, List.set_cons_succ, i64_w, i32_w]
    rfl
   refine two_ (i := 4) (j := 10) (Ni := some 17) (Nj := some 23) #[true, true, true, true, true, false, true, true, true, true, false, false, false, false, false, false] #[true, true, true, true, false, false, true, true, true, true, true, false, false, false, false, false] rfl rfl rfl rfl (by kernel_rfl) (by decide) (by decide) (fun K hK => ?_) (fun K hK => ?_)
   ·skip
    refine value_ (w1 := ?_) (v := ?_) (by rfl) rfl ?_ ?_
    rotate_left 2
    ·go_simp
     constructor
     ·rfl
     ·rfl
    refine hK.out _ _ (hTd.alloc _).held (fun hHeld => ?_);clear hK K;refine norm_ (a' := ?_) ?_ ?_
    rotate_left
    ·show Act.put _ (some 17) _ = _
     simp only [Act.put, List.setIfInBounds_toArray, List.set_cons_zero, List.set_cons_succ, i64_w, i32_w]
     rfl
    refine two_ (i := 5) (j := 10) (Ni := some 18) (Nj := some 23) #[true, true, true, true, true, true, true, true, true, true, false, false, false, false, false, false] #[true, true, true, true, true, false, true, true, true, true, true, false, false, false, false, false] rfl rfl rfl rfl (by kernel_rfl) (by decide) (by decide) (fun K hK => ?_) (fun K hK => ?_)
    ·skip
     refine Kd.R_append_step Kd.string (W := w3.drew) (w0 := w3.drew) (w.heap.size + 2) (by rfl) (.tmp 14) (.tmp 17) 22 9 _ 16 rfl Tryd.underlying22 info9 rfl (by decide) (by decide) (.slice Ak nk ck) ks x.f0 [.string x.f0] (fun _ => True) (fun _ => False) (by rfl) (by first | rfl | (simp; done) | (simp; rfl)) rfl (fun k hk => hk.elim) (fun _ _ => trivial) hTd.ms.own2 (Below.refl _ _) hTd.ge2 (by omega) ?_;intro v1 w7 hR7 hB7 hg7 hat7;have hT7 := hTd.appK hR7 hg7 hat7;have hF7 := Kd.FK_grown hFd hg7 (fun k hk e => by have := Kd.R_base hTd.ms.own2 k e.symm; have := hk.2; omega)
     obtain ⟨A2, n2, cp2, rfl⟩ : ∃ A n c, v1 = .slice A n c := (by obtain ⟨A, c, e⟩ := Kd.R_slice hR7; exact ⟨_, _, _, e⟩)
     refine hK.out _ _ hT7.held (fun hHeld => ?_);clear hK K;refine norm_ (a' := ?_) ?_ ?_
     rotate_left
     ·show Act.put _ (some 18) _ = _
      simp only [Act.put, List.setIfInBounds_toArray, List.set_cons_zero, List.set_cons_succ, i64_w, i32_w]
      rfl
     refine pure_ (i := 12) (N := some 25) (v := ?_) (a' := ?_) #[true, true, true, true, true, true, true, true, true, true, false, false, true, false, false, false] rfl rfl (by kernel_rfl) (fun _ _ _ h => h) (Or.inl ⟨by rfl, ?_⟩) ?_ ?_
     rotate_left
     ·intro w'
      go_simp
      with_reducible rfl
     rotate_left
     ·simp only [Act.put, List.setIfInBounds_toArray, List.set_cons_zero, List.set_cons_succ, i64_w, i32_w]
      rfl
     refine one_ (i := 10) (N := some 23) #[true, true, true, true, true, true, true, true, true, true, true, false, true, false, false, false] rfl rfl (by kernel_rfl) (by decide) (fun K hK => ?_);refine value_ (w1 := ?_) (v := ?_) (by rfl) rfl ?_ ?_
     rotate_left 2
     ·go_simp
      constructor
      ·rfl
      ·rfl
     refine hK.out _ _ (hT7.alloc _).held (fun hHeld => ?_);clear hK K;refine norm_ (a' := ?_) ?_ ?_
     rotate_left
     ·show Act.put _ (some 23) _ = _
      simp only [Act.put, List.setIfInBounds_toArray, List.set_cons_zero, List.set_cons_succ, i64_w, i32_w]
      rfl
     refine one_ (i := 11) (N := some 24) #[true, true, true, true, true, true, true, true, true, true, true, true, true, false, false, false] rfl rfl (by kernel_rfl) (by decide) (fun K hK => ?_);refine Kd.N_append_step k27 (W := w7) (w0 := w7) (w.heap.size + 2) (by rfl) (.tmp 20) (.tmp 23) 25 27 _ 72 rfl Tryd.underlying25 info27 rfl (by decide) (by decide) (.slice Al nl cl) ls x.f1 [.int .i64 x.f1.f0, .string x.f1.f1, .slice A3 x.f1.f2.length c3, .slice A4 x.f1.f3.length c4] (fun k => (P0_ k ∧ k < w.heap.size ∨ w.heap.size + 2 ≤ k) ∧ some k ≠ (Value.slice A2 n2 cp2).ownBlock) (fun k => P0_ k ∧ k < w.heap.size) (by rfl) (by first | rfl | (simp; done) | (simp; rfl)) hF7 hT7.okp hT7.fresh hT7.ms.own (Below.refl _ _) hT7.ge2 (by omega) ?_;intro v2 w8 hR8 hB8 hg8 hat8;have hT8 := hT7.appL hR8 hg8
     obtain ⟨A5, n5, cp5, rfl⟩ : ∃ A n c, v2 = .slice A n c := (by obtain ⟨A, c, e⟩ := Kd.N_slice hR8; exact ⟨_, _, _, e⟩)
     refine hK.out _ _ hT8.held (fun hHeld => ?_);clear hK K;refine norm_ (a' := ?_) ?_ ?_
     rotate_left
     ·show Act.put _ (some 24) _ = _
      simp only [Act.put, List.setIfInBounds_toArray, List.set_cons_zero, List.set_cons_succ, i64_w, i32_w]
      rfl
     refine last_ (i := 13) (N := none) #[true, true, true, true, true, true, true, true, true, true, true, true, true, true, false, false] rfl rfl (by kernel_rfl) (by decide) (fun K hK => ?_);have hs13 := hT8.cells.1.1;have hfs13 := hT8.cells.2.1.1;refine skip_ (w1 := ?_) (by rfl) rfl ?_ ?_
     rotate_left
     ·go_simp
      rfl
     refine hK.out _ _ ?_;clear hK K;have hT9 := hT8.setK (.slice A2 n2 cp2);refine pure_ (i := 14) (N := some 26) (v := ?_) (a' := ?_) #[true, true, true, true, true, true, true, true, true, true, true, true, true, true, true, false] rfl rfl (by kernel_rfl) (fun _ _ _ h => h) (Or.inl ⟨by rfl, ?_⟩) ?_ ?_
     rotate_left
     ·intro w'
      go_simp
      with_reducible rfl
     rotate_left
     ·simp only [Act.put, List.setIfInBounds_toArray, List.set_cons_zero, List.set_cons_succ, i64_w, i32_w]
      rfl
     refine last_ (i := 15) (N := none) #[true, true, true, true, true, true, true, true, true, true, true, true, true, true, true, true] rfl rfl (by kernel_rfl) (by decide) (fun K hK => ?_);have hs15 := hT9.cells.1.2;have hfs15 := hT9.cells.2.1.2;refine skip_ (w1 := ?_) (by rfl) rfl ?_ ?_
     rotate_left
     ·go_simp
      rfl
     refine hK.out _ _ ?_;clear hK K;have hTA := hT9.setL (.slice A5 n5 cp5);refine done_ (by kernel_rfl) ?_
     try go_wp2
     go_roundg kj
     case measure => omega
     case rel => exact ⟨i + 1, _, _, rfl, by omega, by rw [hkx, hlx]; exact hTA.ms⟩
    ·skip
     refine value_ (w1 := ?_) (v := ?_) (by rfl) rfl ?_ ?_
     rotate_left 2
     ·go_simp
      constructor
      ·rfl
      ·rfl
     refine hK.out _ _ ((hTd.alloc _).alloc _).held (fun hHeld => ?_);clear hK K;refine norm_ (a' := ?_) ?_ ?_
     rotate_left
     ·show Act.put _ (some 23) _ = _
      simp only [Act.put, List.setIfInBounds_toArray, List.set_cons_zero, List.set_cons_succ, i64_w, i32_w]
      rfl
     refine one_ (i := 5) (N := some 18) #[true, true, true, true, true, true, true, true, true, true, true, false, false, false, false, false] rfl rfl (by kernel_rfl) (by decide) (fun K hK => ?_);have hq9 := blk_alloc (blk_new w3.drew (.cells #[.string x.f0] 9)) (.cells #[.int .i64 x.f1.f0, .string x.f1.f1, .slice A3 x.f1.f2.length c3, .slice A4 x.f1.f3.length c4] 27);have hq27 := blk_new (w3.drew.alloc (.cells #[.string x.f0] 9)) (.cells #[.int .i64 x.f1.f0, .string x.f1.f1, .slice A3 x.f1.f2.length c3, .slice A4 x.f1.f3.length c4] 27);refine Kd.R_append_rows_step Kd.string (W := (w3.drew.alloc (.cells #[.string x.f0] 9)).alloc (.cells #[.int .i64 x.f1.f0, .string x.f1.f1, .slice A3 x.f1.f2.length c3, .slice A4 x.f1.f3.length c4] 27)) (w0 := (w3.drew.alloc (.cells #[.string x.f0] 9)).alloc (.cells #[.int .i64 x.f1.f0, .string x.f1.f1, .slice A3 x.f1.f2.length c3, .slice A4 x.f1.f3.length c4] 27)) (w.heap.size + 2) (by rfl) (.tmp 14) (.tmp 17) 22 9 _ 16 rfl Tryd.underlying22 info9 rfl (by decide) (by decide) (.slice Ak nk ck) ks [x.f0] (some ⟨w3.drew.heap.size, 0, none⟩) 1 1 (fun _ => True) (fun _ => False) (by rfl) (by first | rfl | (simp; done) | (simp; rfl)) ((hTd.alloc _).alloc _).ms.own2 (Kd.F_rows (F_lit (ok := fun _ => True) (c := [.string x.f0]) hq9 (fun _ _ => rfl))) (fun _ _ hk => Kd.FK_now hk) (fun k hk => hk.elim) (fun _ _ => trivial) (Below.refl _ _) ((hTd.alloc _).alloc _).ge2 (by omega) ?_;intro v1 w7 hR7 hB7 hg7 hat7;have hT7 := ((hTd.alloc _).alloc _).appK hR7 hg7 hat7;have hF7 := Kd.FK_grown (Kd.FK_below (Kd.FK_below hFd (bal (Below.refl _ _) _)) (bal (Below.refl _ _) _)) hg7 (fun k hk e => by have := Kd.R_base hTd.ms.own2 k e.symm; have := hk.2; omega)
     obtain ⟨A2, n2, cp2, rfl⟩ : ∃ A n c, v1 = .slice A n c := (by obtain ⟨A, c, e⟩ := Kd.R_slice hR7; exact ⟨_, _, _, e⟩)
     have hbl := blk_grown hq27 hg7 (fun e => Kd.R_ne ((hTd.alloc _).alloc _).ms.own2 hq27 (by decide) e);refine hK.out _ _ hT7.held (fun hHeld => ?_);clear hK K;refine norm_ (a' := ?_) ?_ ?_
     rotate_left
     ·show Act.put _ (some 18) _ = _
      simp only [Act.put, List.setIfInBounds_toArray, List.set_cons_zero, List.set_cons_succ, i64_w, i32_w]
      rfl
     refine pure_ (i := 12) (N := some 25) (v := ?_) (a' := ?_) #[true, true, true, true, true, true, true, true, true, true, true, false, true, false, false, false] rfl rfl (by kernel_rfl) (fun _ _ _ h => h) (Or.inl ⟨by rfl, ?_⟩) ?_ ?_
     rotate_left
     ·intro w'
      go_simp
      with_reducible rfl
     rotate_left
     ·simp only [Act.put, List.setIfInBounds_toArray, List.set_cons_zero, List.set_cons_succ, i64_w, i32_w]
      rfl
     refine one_ (i := 11) (N := some 24) #[true, true, true, true, true, true, true, true, true, true, true, true, true, false, false, false] rfl rfl (by kernel_rfl) (by decide) (fun K hK => ?_);refine Kd.N_append_rows_step k27 (W := w7) (w0 := w7) (w.heap.size + 2) (by rfl) (.tmp 20) (.tmp 23) 25 27 _ 72 rfl Tryd.underlying25 info27 rfl (by decide) (by decide) (.slice Al nl cl) ls [x.f1] (some ⟨(w3.drew.alloc (.cells #[.string x.f0] 9)).heap.size, 0, none⟩) 1 1 (fun k => (P0_ k ∧ k < w.heap.size ∨ w.heap.size + 2 ≤ k) ∧ some k ≠ (Value.slice A2 n2 cp2).ownBlock) (fun k => k = (w3.drew.alloc (.cells #[.string x.f0] 9)).heap.size ∨ (P0_ k ∧ k < w.heap.size)) (by rfl) (by first | rfl | (simp; done) | (simp; rfl)) hT7.ms.own (F_lit (c := [.int .i64 x.f1.f0, .string x.f1.f1, .slice A3 x.f1.f2.length c3, .slice A4 x.f1.f3.length c4]) hbl hF7) (hT7.okb (by have := hT0.ge2; simp; omega) hbl (fun e => by have := Kd.N_lt hTd.ms.own _ e.symm; first | (simp at this; done) | (simp at this; omega))) hT7.fresh (Below.refl _ _) hT7.ge2 (by omega) ?_;intro v2 w8 hR8 hB8 hg8 hat8;have hT8 := hT7.appL hR8 hg8
     obtain ⟨A5, n5, cp5, rfl⟩ : ∃ A n c, v2 = .slice A n c := (by obtain ⟨A, c, e⟩ := Kd.N_slice hR8; exact ⟨_, _, _, e⟩)
     refine hK.out _ _ hT8.held (fun hHeld => ?_);clear hK K;refine norm_ (a' := ?_) ?_ ?_
     rotate_left
     ·show Act.put _ (some 24) _ = _
      simp only [Act.put, List.setIfInBounds_toArray, List.set_cons_zero, List.set_cons_succ, i64_w, i32_w]
      rfl
     refine last_ (i := 13) (N := none) #[true, true, true, true, true, true, true, true, true, true, true, true, true, true, false, false] rfl rfl (by kernel_rfl) (by decide) (fun K hK => ?_);have hs13 := hT8.cells.1.1;have hfs13 := hT8.cells.2.1.1;refine skip_ (w1 := ?_) (by rfl) rfl ?_ ?_
     rotate_left
     ·go_simp
      rfl
     refine hK.out _ _ ?_;clear hK K;have hT9 := hT8.setK (.slice A2 n2 cp2);refine pure_ (i := 14) (N := some 26) (v := ?_) (a' := ?_) #[true, true, true, true, true, true, true, true, true, true, true, true, true, true, true, false] rfl rfl (by kernel_rfl) (fun _ _ _ h => h) (Or.inl ⟨by rfl, ?_⟩) ?_ ?_
     rotate_left
     ·intro w'
      go_simp
      with_reducible rfl
     rotate_left
     ·simp only [Act.put, List.setIfInBounds_toArray, List.set_cons_zero, List.set_cons_succ, i64_w, i32_w]
      rfl
     refine last_ (i := 15) (N := none) #[true, true, true, true, true, true, true, true, true, true, true, true, true, true, true, true] rfl rfl (by kernel_rfl) (by decide) (fun K hK => ?_);have hs15 := hT9.cells.1.2;have hfs15 := hT9.cells.2.1.2;refine skip_ (w1 := ?_) (by rfl) rfl ?_ ?_
     rotate_left
     ·go_simp
      rfl
     refine hK.out _ _ ?_;clear hK K;have hTA := hT9.setL (.slice A5 n5 cp5);refine done_ (by kernel_rfl) ?_
     try go_wp2
     go_roundg kj
     case measure => omega
     case rel => exact ⟨i + 1, _, _, rfl, by omega, by rw [hkx, hlx]; exact hTA.ms⟩
   ·skip
    refine value_ (w1 := ?_) (v := ?_) (by rfl) rfl ?_ ?_
    rotate_left 2
    ·go_simp
     constructor
     ·rfl
     ·rfl
    refine hK.out _ _ (hTd.alloc _).held (fun hHeld => ?_);clear hK K;refine norm_ (a' := ?_) ?_ ?_
    rotate_left
    ·show Act.put _ (some 23) _ = _
     simp only [Act.put, List.setIfInBounds_toArray, List.set_cons_zero, List.set_cons_succ, i64_w, i32_w]
     rfl
    refine one_ (i := 4) (N := some 17) #[true, true, true, true, true, false, true, true, true, true, true, false, false, false, false, false] rfl rfl (by kernel_rfl) (by decide) (fun K hK => ?_);refine value_ (w1 := ?_) (v := ?_) (by rfl) rfl ?_ ?_
    rotate_left 2
    ·go_simp
     constructor
     ·rfl
     ·rfl
    refine hK.out _ _ ((hTd.alloc _).alloc _).held (fun hHeld => ?_);clear hK K;refine norm_ (a' := ?_) ?_ ?_
    rotate_left
    ·show Act.put _ (some 17) _ = _
     simp only [Act.put, List.setIfInBounds_toArray, List.set_cons_zero, List.set_cons_succ, i64_w, i32_w]
     rfl
    refine one_ (i := 5) (N := some 18) #[true, true, true, true, true, true, true, true, true, true, true, false, false, false, false, false] rfl rfl (by kernel_rfl) (by decide) (fun K hK => ?_);have hq27 := blk_new w3.drew (.cells #[.int .i64 x.f1.f0, .string x.f1.f1, .slice A3 x.f1.f2.length c3, .slice A4 x.f1.f3.length c4] 27);refine Kd.R_append_step Kd.string (W := w3.drew.alloc (.cells #[.int .i64 x.f1.f0, .string x.f1.f1, .slice A3 x.f1.f2.length c3, .slice A4 x.f1.f3.length c4] 27)) (w0 := w3.drew.alloc (.cells #[.int .i64 x.f1.f0, .string x.f1.f1, .slice A3 x.f1.f2.length c3, .slice A4 x.f1.f3.length c4] 27)) (w.heap.size + 2) (by rfl) (.tmp 14) (.tmp 17) 22 9 _ 16 rfl Tryd.underlying22 info9 rfl (by decide) (by decide) (.slice Ak nk ck) ks x.f0 [.string x.f0] (fun _ => True) (fun _ => False) (by rfl) (by first | rfl | (simp; done) | (simp; rfl)) rfl (fun k hk => hk.elim) (fun _ _ => trivial) (hTd.alloc _).ms.own2 (Below.refl _ _) (hTd.alloc _).ge2 (by omega) ?_;intro v1 w7 hR7 hB7 hg7 hat7;have hT7 := (hTd.alloc _).appK hR7 hg7 hat7;have hF7 := Kd.FK_grown (Kd.FK_below hFd (bal (Below.refl _ _) _)) hg7 (fun k hk e => by have := Kd.R_base hTd.ms.own2 k e.symm; have := hk.2; omega)
    obtain ⟨A2, n2, cp2, rfl⟩ : ∃ A n c, v1 = .slice A n c := (by obtain ⟨A, c, e⟩ := Kd.R_slice hR7; exact ⟨_, _, _, e⟩)
    have hbl := blk_grown hq27 hg7 (fun e => Kd.R_ne (hTd.alloc _).ms.own2 hq27 (by decide) e);refine hK.out _ _ hT7.held (fun hHeld => ?_);clear hK K;refine norm_ (a' := ?_) ?_ ?_
    rotate_left
    ·show Act.put _ (some 18) _ = _
     simp only [Act.put, List.setIfInBounds_toArray, List.set_cons_zero, List.set_cons_succ, i64_w, i32_w]
     rfl
    refine pure_ (i := 12) (N := some 25) (v := ?_) (a' := ?_) #[true, true, true, true, true, true, true, true, true, true, true, false, true, false, false, false] rfl rfl (by kernel_rfl) (fun _ _ _ h => h) (Or.inl ⟨by rfl, ?_⟩) ?_ ?_
    rotate_left
    ·intro w'
     go_simp
     with_reducible rfl
    rotate_left
    ·simp only [Act.put, List.setIfInBounds_toArray, List.set_cons_zero, List.set_cons_succ, i64_w, i32_w]
     rfl
    refine one_ (i := 11) (N := some 24) #[true, true, true, true, true, true, true, true, true, true, true, true, true, false, false, false] rfl rfl (by kernel_rfl) (by decide) (fun K hK => ?_);refine Kd.N_append_rows_step k27 (W := w7) (w0 := w7) (w.heap.size + 2) (by rfl) (.tmp 20) (.tmp 23) 25 27 _ 72 rfl Tryd.underlying25 info27 rfl (by decide) (by decide) (.slice Al nl cl) ls [x.f1] (some ⟨w3.drew.heap.size, 0, none⟩) 1 1 (fun k => (P0_ k ∧ k < w.heap.size ∨ w.heap.size + 2 ≤ k) ∧ some k ≠ (Value.slice A2 n2 cp2).ownBlock) (fun k => k = w3.drew.heap.size ∨ (P0_ k ∧ k < w.heap.size)) (by rfl) (by first | rfl | (simp; done) | (simp; rfl)) hT7.ms.own (F_lit (c := [.int .i64 x.f1.f0, .string x.f1.f1, .slice A3 x.f1.f2.length c3, .slice A4 x.f1.f3.length c4]) hbl hF7) (hT7.okb (by have := hT0.ge2; simp; omega) hbl (fun e => by have := Kd.N_lt hTd.ms.own _ e.symm; first | (simp at this; done) | (simp at this; omega))) hT7.fresh (Below.refl _ _) hT7.ge2 (by omega) ?_;intro v2 w8 hR8 hB8 hg8 hat8;have hT8 := hT7.appL hR8 hg8
    obtain ⟨A5, n5, cp5, rfl⟩ : ∃ A n c, v2 = .slice A n c := (by obtain ⟨A, c, e⟩ := Kd.N_slice hR8; exact ⟨_, _, _, e⟩)
    refine hK.out _ _ hT8.held (fun hHeld => ?_);clear hK K;refine norm_ (a' := ?_) ?_ ?_
    rotate_left
    ·show Act.put _ (some 24) _ = _
     simp only [Act.put, List.setIfInBounds_toArray, List.set_cons_zero, List.set_cons_succ, i64_w, i32_w]
     rfl
    refine last_ (i := 13) (N := none) #[true, true, true, true, true, true, true, true, true, true, true, true, true, true, false, false] rfl rfl (by kernel_rfl) (by decide) (fun K hK => ?_);have hs13 := hT8.cells.1.1;have hfs13 := hT8.cells.2.1.1;refine skip_ (w1 := ?_) (by rfl) rfl ?_ ?_
    rotate_left
    ·go_simp
     rfl
    refine hK.out _ _ ?_;clear hK K;have hT9 := hT8.setK (.slice A2 n2 cp2);refine pure_ (i := 14) (N := some 26) (v := ?_) (a' := ?_) #[true, true, true, true, true, true, true, true, true, true, true, true, true, true, true, false] rfl rfl (by kernel_rfl) (fun _ _ _ h => h) (Or.inl ⟨by rfl, ?_⟩) ?_ ?_
    rotate_left
    ·intro w'
     go_simp
     with_reducible rfl
    rotate_left
    ·simp only [Act.put, List.setIfInBounds_toArray, List.set_cons_zero, List.set_cons_succ, i64_w, i32_w]
     rfl
    refine last_ (i := 15) (N := none) #[true, true, true, true, true, true, true, true, true, true, true, true, true, true, true, true] rfl rfl (by kernel_rfl) (by decide) (fun K hK => ?_);have hs15 := hT9.cells.1.2;have hfs15 := hT9.cells.2.1.2;refine skip_ (w1 := ?_) (by rfl) rfl ?_ ?_
    rotate_left
    ·go_simp
     rfl
    refine hK.out _ _ ?_;clear hK K;have hTA := hT9.setL (.slice A5 n5 cp5);refine done_ (by kernel_rfl) ?_
    try go_wp2
    go_roundg kj
    case measure => omega
    case rel => exact ⟨i + 1, _, _, rfl, by omega, by rw [hkx, hlx]; exact hTA.ms⟩
  ·obtain rfl : i = l0.length := by omega
   rw [List.take_of_length_le (by simp), List.take_of_length_le (by simp)] at hS
   obtain ⟨Ak, nk, ck, rfl⟩ : ∃ A n c, kv = .slice A n c := (by obtain ⟨A, c, e⟩ := Kd.R_slice hS.own2; exact ⟨_, _, _, e⟩)
   obtain ⟨Al, nl, cl, rfl⟩ : ∃ A n c, lv = .slice A n c := (by obtain ⟨A, c, e⟩ := Kd.N_slice hS.own; exact ⟨_, _, _, e⟩)
   have z0 : wr.cell? ⟨w.heap.size + 1, 0, none⟩ = some (.int .i64 6) := bceq hS.vb 0;have z1 : wr.cell? ⟨w.heap.size + 1, 1, none⟩ = some (.string ⟨#[]⟩) := bceq hS.vb 1;have z2 : wr.cell? ⟨w.heap.size + 1, 2, none⟩ = some (.slice Ak nk ck) := bceq hS.vb 2;have z3 : wr.cell? ⟨w.heap.size + 1, 3, none⟩ = some (.slice Al nl cl) := bceq hS.vb 3;have y0 : wr.cell? ⟨w.heap.size, 0, none⟩ = some (.int .i64 0) := bceq hS.zb 0;have y1 : wr.cell? ⟨w.heap.size, 1, none⟩ = some (.string ⟨#[]⟩) := bceq hS.zb 1;have y2 : wr.cell? ⟨w.heap.size, 2, none⟩ = some (.slice none 0 0) := bceq hS.zb 2;have y3 : wr.cell? ⟨w.heap.size, 3, none⟩ = some (.slice none 0 0) := bceq hS.zb 3;have x0 := bfz hS.zb 0;have x1 := bfz hS.zb 1;have x2 := bfz hS.zb 2;have x3 := bfz hS.zb 3;have hF := Lib.hid (hS.stored (.int .i64 6) (.string ⟨#[]⟩) (.slice Ak nk ck) (.slice Al nl cl))
   go_wp2_with fail
   obtain ⟨hB, hBel, hR2, hR⟩ := hF.out;generalize hwf : World.setCell _ _ _ = wf at hB hBel hR2 hR ⊢;clear hwf;refine bodyPost_ret (results_cell_row rfl _ _ w.heap.size 27 #[.int .i64 6, .string ⟨#[]⟩, .slice Ak nk ck, .slice Al nl cl] (0, 0) _ rfl hB Tryd.underlying27 rfl (by kernel_rfl)) rfl ?_;exact ⟨_, _, rfl, hR2, hR, hBel⟩
end Go.Proofs.YteighppcdpaekaaDoor.P
end
section
namespace Go.Proofs.YteighppcdpaekaaDoor.P
open Go.RowKit Go.Proofs.YteighppcdpaekaaDoorW.PrintWords Go.Proofs.YteighppcdpaekaaDoorW.PrintLast Go.Proofs.YteighppcdpaekaaDoorW.PrintMore
attribute [local go_sem] max2_int min2_int max_two min_two max_three min_three max_four min_four
set_option linter.unusedVariables false
set_option linter.unusedSimpArgs false
def json_Text.f (a0 : ByteArray) : Option (Int × ByteArray × List ByteArray × (List (S27))) := some (4, a0, ([] : List ByteArray), ([] : List (S27)))
set_option maxHeartbeats 8000000 in
set_option maxRecDepth 100000 in
theorem json_Text.calls (a0 : ByteArray) (r1 : Int) (r2 : ByteArray) (r3 : List ByteArray) (r4 : List (S27)) (w : World) (h : json_Text.f a0 = some (r1, r2, r3, r4)) :
  Calls Tryd.prog 13 #[.string a0] w fun e w' => ∃ v2_ v3_ : Value, e = .returned (.agg #[.int .i64 r1, .string r2, v2_, v3_]) ∧ Kd.R Kd.string 9 w' w.heap.size (fun _ => True) v2_ r3 ∧ Kd.R k27 27 w' w.heap.size (fun k_ => some k_ ≠ (v2_ : Value).ownBlock) v3_ r4 ∧ Below w.heap.size w w' := by
 have hu27 := Tryd.underlying27;have HB := Sdq.mk (Below.refl w.heap.size w);have H : (some (4, a0, ([] : List ByteArray), ([] : List (S27)))) = some (r1, r2, r3, r4) := h;clear h;simp only [Option.some.injEq, Prod.mk.injEq] at H;obtain ⟨rfl, rfl, rfl, rfl⟩ := H;go_enter Tryd.func13, Tryd.ntmps13;go_wp2_with (first | ((with_reducible refine gate_dst (N := 2) rfl ?_); refine box_event ?hg (N := 2) ?hd (cs := #[.int .i64 0, .string (⟨#[]⟩ : ByteArray), .slice none 0 0, .slice none 0 0]) (t := 27) ?hr ?_; (case hd => rfl); (case hg => rfl); (case hr => first | (go_simp; done) | (go_simp; rfl)); intro gb175 hg w2 hbox hb; have n0_ := Sdq.mk (below_step (by repeat (first | (with_reducible first | exact HB.out | apply bal | apply pbdN | apply bdr1) | exact HB.out)) hb); have n1_ := Sdq.mk (hbox); have n2_ := Sdq.mk ((by rw [hg]; exact (below_size (by repeat (first | (with_reducible first | exact HB.out | apply bal | apply pbdN | apply bdr1) | exact HB.out))) : w.heap.size ≤ gb175)); have n3_ := Sdq.mk ((by rw [hg]; exact (below_size (by repeat (first | (with_reducible first | exact HB.out | apply bal | apply pbdN | apply bdr1) | exact HB.out))) : w.heap.size ≤ gb175)); clear HB; have HB := n0_; have BK175 := n1_; have GW175 := n2_; have GE175 := n3_; clear n0_ n1_ n2_ n3_; clear hb hbox hg; have hcz3_0 : w2.cell? ⟨gb175, 0, none⟩ = some (.int .i64 0) := (bceq BK175.out 0).trans rfl; have hcz3_1 : w2.cell? ⟨gb175, 1, none⟩ = some (.string (⟨#[]⟩ : ByteArray)) := (bceq BK175.out 1).trans rfl; have hcz3_2 : w2.cell? ⟨gb175, 2, none⟩ = some (.slice none 0 0) := (bceq BK175.out 2).trans rfl; have hcz3_3 : w2.cell? ⟨gb175, 3, none⟩ = some (.slice none 0 0) := (bceq BK175.out 3).trans rfl; have hfz3_0 := bfz BK175.out 0; have hfz3_1 := bfz BK175.out 1; have hfz3_2 := bfz BK175.out 2; have hfz3_3 := bfz BK175.out 3));refine bodyPost_ret (results_cell_row rfl _ _ gb175 27 #[.int .i64 4, .string a0, .slice none 0 0, .slice none 0 0] (0, 0) _ rfl (by (with_reducible repeat (first | refine blk_drewN ?_ _ | refine blk_drew ?_ | refine blk_alloc ?_ _)); refine blk_put (cs := #[.int .i64 4, .string a0, .slice none 0 0, .slice none 0 0]) ?_ 3 _ rfl; (with_reducible repeat (first | refine blk_drewN ?_ _ | refine blk_drew ?_ | refine blk_alloc ?_ _)); refine blk_put (cs := #[.int .i64 4, .string a0, .slice none 0 0, .slice none 0 0]) ?_ 2 _ rfl; (with_reducible repeat (first | refine blk_drewN ?_ _ | refine blk_drew ?_ | refine blk_alloc ?_ _)); refine blk_put (cs := #[.int .i64 4, .string (⟨#[]⟩ : ByteArray), .slice none 0 0, .slice none 0 0]) ?_ 1 _ rfl; (with_reducible repeat (first | refine blk_drewN ?_ _ | refine blk_drew ?_ | refine blk_alloc ?_ _)); refine blk_put (cs := #[.int .i64 0, .string (⟨#[]⟩ : ByteArray), .slice none 0 0, .slice none 0 0]) ?_ 0 _ rfl; (with_reducible repeat (first | refine blk_drewN ?_ _ | refine blk_drew ?_ | refine blk_alloc ?_ _)); exact BK175.out) Tryd.underlying27 rfl (by kernel_rfl)) rfl ?_
 exact ⟨_, _, by first | rfl | (simp [errW_none, errW_some] <;> rfl) | (simp [*, errW_none, errW_some] <;> rfl), by first | exact Kd.R_nil _ _ _ _ _ | exact Kd.N_nil _ _ _ _ _ | exact Kd.V_nil _ _ _ _ _ | exact Kd.Q_nil _ _ _ _ _ | exact Kd.S_nil _ _ _ _ _, by first | exact Kd.R_nil _ _ _ _ _ | exact Kd.N_nil _ _ _ _ _ | exact Kd.V_nil _ _ _ _ _ | exact Kd.Q_nil _ _ _ _ _ | exact Kd.S_nil _ _ _ _ _, by repeat (first | (with_reducible first | exact HB.out | apply bal | apply pbdN | apply bdr1 | refine bstq ?_ GE175.out) | exact HB.out)⟩
end Go.Proofs.YteighppcdpaekaaDoor.P
end
section
namespace Go.Proofs.YteighppcdpaekaaDoor.P
open Go.RowKit Go.Proofs.YteighppcdpaekaaDoorW.PrintWords Go.Proofs.YteighppcdpaekaaDoorW.PrintLast Go.Proofs.YteighppcdpaekaaDoorW.PrintMore
def Kv {α : Type} (d : Kd α) (ok : Nat → Prop) (w : World) (v : Value) (x : α) : Prop := ∃ cs : List Value, v = .agg cs.toArray ∧ Kd.FK d w ok x cs
section
variable {α : Type} {d : Kd α} {ok ok' : Nat → Prop} {w w' : World} {v : Value} {x : α}
theorem Kv.below (h : Kv d ok w v x) (hb : Below w.heap.size w w') : Kv d ok w' v x := by
 obtain ⟨cs, rfl, hk⟩ := h;exact ⟨cs, rfl, Kd.FK_below hk hb⟩
theorem Kv.alloc (h : Kv d ok w v x) (o : Obj) : Kv d ok (w.alloc o) v x := h.below (bal (Below.refl _ _) o)
theorem Kv.mono (h : Kv d ok w v x) (hok : ∀ k, ok k → ok' k) : Kv d ok' w v x := by
 obtain ⟨cs, rfl, hk⟩ := h;exact ⟨cs, rfl, Kd.FK_mono hk hok⟩
theorem Kv.far (h : Kv d ok w v x) {p : Addr} (hok : ∀ k, ok k → k ≠ p.block) (u : Value) : Kv d ok (w.setCell p u) v x := by
 obtain ⟨cs, rfl, hk⟩ := h;exact ⟨cs, rfl, Kd.FK_step hk (fun k hk _ => Below.heap_setCell w p u k (hok k hk))⟩
def uK (d : Kd α) (ok : Nat → Prop) (v : Value) (x : α) : UpP := ⟨fun W => Kv d ok W v x, fun _ _ h hb => h.below hb⟩
def uKd (d : Kd α) (ok : Nat → Prop) (x : α) (v : Value) : UpP := ⟨fun W => Kv d ok W v x, fun _ _ h hb => h.below hb⟩
def Cv (d : Kd α) (ok : Nat → Prop) (w : World) (v : Value) (xs : List α) : Prop := ∃ A c, v = .slice A xs.length c ∧ xs.length ≤ c ∧ Kd.F d w ok A xs.length xs
def uCv (d : Kd α) (ok : Nat → Prop) (xs : List α) (v : Value) : UpP := ⟨fun W => Cv d ok W v xs, fun _ _ h hb => by obtain ⟨A, c, e, hc, h⟩ := h; exact ⟨A, c, e, hc, Kd.F_below h hb⟩⟩
theorem flat_at : ∀ {css : List (List Value)} {sz j : Nat} {c : List Value} {i : Nat} {u : Value}, (∀ c ∈ css, c.length = sz) → css[j]? = some c → c[i]? = some u → css.flatten[j * sz + i]? = some u
 | [], _, _, _, _, _, _, h, _ => by simp at h
 | y :: css, sz, 0, c, i, u, hl, h, hi => by
  obtain rfl : y = c := by simpa using h
  rw [List.flatten_cons, Nat.zero_mul, Nat.zero_add, List.getElem?_append_left (List.getElem?_eq_some_iff.1 hi).1];exact hi
 | y :: css, sz, j + 1, c, i, u, hl, h, hi => by
  have hy := hl y (List.mem_cons_self ..);rw [List.flatten_cons, List.getElem?_append_right (by rw [hy, Nat.succ_mul]; omega)];rw [show (j + 1) * sz + i - y.length = j * sz + i by rw [hy, Nat.succ_mul]; omega];exact flat_at (fun c hc => hl c (List.mem_cons_of_mem _ hc)) (by simpa using h) hi
theorem C_block {g : Nat} {t : TypeId} {z : Nat × Nat} {css : List (List Value)} {xs : List α} (hb : w.heap[g]? = some (.cells css.flatten.toArray t z)) (hl : css.length = xs.length) (hm : xs.length ≤ 1000) (h : ∀ (j : Nat) (x : α) (c : List Value), xs[j]? = some x → css[j]? = some c → d.K w x c) : d.C w (some ⟨g, 0, none⟩) xs.length xs := by
 refine ⟨rfl, by omega, fun _ => ⟨_, rfl, fun j p hj => ?_⟩⟩
 have hjl : j < css.length := by rw [hl]; exact (List.getElem?_eq_some_iff.1 hj).1
 have hc : css[j]? = some css[j] := List.getElem?_eq_getElem hjl;have hK := h j p _ hj hc
 have hall : ∀ c ∈ css, c.length = d.sz := fun c hc => by
  obtain ⟨k, hk, rfl⟩ := List.mem_iff_getElem.1 hc;have hx : xs[k]? = some xs[k] := List.getElem?_eq_getElem (by omega);exact d.K_len (h k _ _ hx (List.getElem?_eq_getElem hk))
 refine ⟨_, d.K_len hK, hK, fun i u hu => ?_⟩
 have ha : (⟨g, 0, none⟩ : Addr).add (j * d.sz + i) = ⟨g, j * d.sz + i, none⟩ := by
  unfold Addr.add
  split
  ·rename_i h0; rw [h0]
  ·simp
 rw [ha];have := flat_at hall hc hu
 simp [World.cell?, hb, this]
theorem F_block {g : Nat} {t : TypeId} {z : Nat × Nat} {css : List (List Value)} {xs : List α} (hb : w.heap[g]? = some (.cells css.flatten.toArray t z)) (hg : ok g) (hl : css.length = xs.length) (hm : xs.length ≤ 1000) (h : ∀ (j : Nat) (x : α) (c : List Value), xs[j]? = some x → css[j]? = some c → Kd.FK d w ok x c) : Kd.F d w ok (some ⟨g, 0, none⟩) xs.length xs :=
 fun W' hW => C_block ((hW g hg (Array.getElem?_eq_some_iff.1 hb).1).trans hb) hl hm (fun j x c hx hc => h j x c hx hc W' hW)
end
theorem Kv.open27 {ok : Nat → Prop} {w : World} {v : Value} {s : S27} (h : Kv k27 ok w v s) : ∃ A2 c2 A3 c3, v = .agg #[.int .i64 s.f0, .string s.f1, .slice A2 s.f2.length c2, .slice A3 s.f3.length c3] ∧ s.f2.length ≤ c2 ∧ Kd.F Kd.string w ok A2 s.f2.length s.f2 ∧ s.f3.length ≤ c3 ∧ Kd.F k27 w ok A3 s.f3.length s.f3 := by
 obtain ⟨cs, rfl, hk⟩ := h;obtain ⟨A2, c2, A3, c3, rfl, h⟩ := k27_openF hk;exact ⟨A2, c2, A3, c3, rfl, h⟩
theorem Kv.mk27 {ok : Nat → Prop} {w : World} (s : S27) {A2 A3 : Option Addr} {c2 c3 : Nat} (l2 : s.f2.length ≤ c2) (g2 : Kd.F Kd.string w ok A2 s.f2.length s.f2) (l3 : s.f3.length ≤ c3) (g3 : Kd.F k27 w ok A3 s.f3.length s.f3) : Kv k27 ok w (.agg #[.int .i64 s.f0, .string s.f1, .slice A2 s.f2.length c2, .slice A3 s.f3.length c3]) s := ⟨_, rfl, k27_mkF w ok s l2 g2 l3 g3⟩
theorem k27_of {ok : Nat → Prop} {w : World} {s : S27} {A2 A3 : Option Addr} {c2 c3 : Nat} (h : Kv k27 ok w (.agg #[.int .i64 s.f0, .string s.f1, .slice A2 s.f2.length c2, .slice A3 s.f3.length c3]) s) : True ∧ s.f2.length ≤ c2 ∧ Kd.F Kd.string w ok A2 s.f2.length s.f2 ∧ s.f3.length ≤ c3 ∧ Kd.F k27 w ok A3 s.f3.length s.f3 := by
 obtain ⟨B2, d2, B3, d3, e, h⟩ := h.open27;simp only [Value.agg.injEq, Array.mk.injEq, List.cons.injEq, Value.slice.injEq] at e;obtain ⟨_, _, ⟨rfl, _, rfl⟩, ⟨rfl, _, rfl⟩, _⟩ := e;exact ⟨trivial, h⟩
theorem Kv.open44 {ok : Nat → Prop} {w : World} {v : Value} {s : S44} (h : Kv k44 ok w v s) : ∃ A2 c2 A3 c3, v = .agg #[.int .i64 s.f0, .string s.f1, .slice A2 s.f2.length c2, .slice A3 s.f3.length c3] ∧ s.f2.length ≤ c2 ∧ Kd.F Kd.string w ok A2 s.f2.length s.f2 ∧ s.f3.length ≤ c3 ∧ Kd.F k44 w ok A3 s.f3.length s.f3 := by
 obtain ⟨cs, rfl, hk⟩ := h;obtain ⟨A2, c2, A3, c3, rfl, h⟩ := k44_openF hk;exact ⟨A2, c2, A3, c3, rfl, h⟩
theorem Kv.mk44 {ok : Nat → Prop} {w : World} (s : S44) {A2 A3 : Option Addr} {c2 c3 : Nat} (l2 : s.f2.length ≤ c2) (g2 : Kd.F Kd.string w ok A2 s.f2.length s.f2) (l3 : s.f3.length ≤ c3) (g3 : Kd.F k44 w ok A3 s.f3.length s.f3) : Kv k44 ok w (.agg #[.int .i64 s.f0, .string s.f1, .slice A2 s.f2.length c2, .slice A3 s.f3.length c3]) s := ⟨_, rfl, k44_mkF w ok s l2 g2 l3 g3⟩
theorem k44_of {ok : Nat → Prop} {w : World} {s : S44} {A2 A3 : Option Addr} {c2 c3 : Nat} (h : Kv k44 ok w (.agg #[.int .i64 s.f0, .string s.f1, .slice A2 s.f2.length c2, .slice A3 s.f3.length c3]) s) : True ∧ s.f2.length ≤ c2 ∧ Kd.F Kd.string w ok A2 s.f2.length s.f2 ∧ s.f3.length ≤ c3 ∧ Kd.F k44 w ok A3 s.f3.length s.f3 := by
 obtain ⟨B2, d2, B3, d3, e, h⟩ := h.open44;simp only [Value.agg.injEq, Array.mk.injEq, List.cons.injEq, Value.slice.injEq] at e;obtain ⟨_, _, ⟨rfl, _, rfl⟩, ⟨rfl, _, rfl⟩, _⟩ := e;exact ⟨trivial, h⟩
def KPost {α : Type} (d : Kd α) (ok : Nat → Prop) (w : World) (x : α) (e : Ending) (w' : World) : Prop := ∃ v, e = .returned v ∧ Kv d ok w' v x ∧ Below w.heap.size w w'
theorem Kv.bound {α : Type} {d : Kd α} {ok : Nat → Prop} {w : World} {v : Value} {x : α} (h : Kv d ok w v x) : Kv d (fun k => ok k ∧ k < w.heap.size) w v x := by
 obtain ⟨cs, rfl, hk⟩ := h;exact ⟨cs, rfl, Kd.FK_bound hk⟩
theorem Kv.within {α : Type} {d : Kd α} {ok ok' : Nat → Prop} {w : World} {v : Value} {x : α} (h : Kv d ok w v x) (hm : ∀ k, ok k → k < w.heap.size → ok' k) : Kv d ok' w v x := h.bound.mono (fun k hk => hm k hk.1 hk.2)
def xKd {α : Type} (d : Kd α) (x : α) : UpX := ⟨fun O v w => Kv d O w v x, fun _ _ _ _ h hb => h.below hb, fun _ _ _ _ h hm => h.within hm⟩
def xCv {α : Type} (d : Kd α) (xs : List α) : UpX := ⟨fun O v w => Cv d O w v xs, fun O v w w' h hb => by obtain ⟨A, c, e, hc, h⟩ := h; exact ⟨A, c, e, hc, Kd.F_below h hb⟩, fun O O' v w h hm => by obtain ⟨A, c, e, hc, h⟩ := h; exact ⟨A, c, e, hc, Kd.F_mono (Kd.F_bound h) (fun k hk => hm k hk.1 hk.2)⟩⟩
theorem end4 {α : Type} {d : Kd α} {O ok : Nat → Prop} {w0 W : World} {g t : Nat} {z0 z1 z2 z3 c0 c1 c2 c3 : Value} {x : α} (hz : (uBlk g [z0, z1, z2, z3] t).p W) (hB : Below w0.heap.size w0 W) (hg : w0.heap.size ≤ g) (hO : ∀ k, O k → ok k ∧ k ≠ g) (h : Kv d O W (.agg #[c0, c1, c2, c3]) x) (wf : World)
  (hw : wf = (((W.setCell ⟨g, 0, none⟩ c0).setCell ⟨g, 1, none⟩ c1).setCell ⟨g, 2, none⟩ c2).setCell ⟨g, 3, none⟩ c3) : KPost d ok w0 x (.returned (.agg #[c0, c1, c2, c3])) wf ∧ wf.cell? ⟨g, 0, none⟩ = some c0 ∧ wf.cell? ⟨g, 1, none⟩ = some c1 ∧ wf.cell? ⟨g, 2, none⟩ = some c2 ∧ wf.cell? ⟨g, 3, none⟩ = some c3 := by
 subst hw;have hp := Ctx.put (Ctx.put (Ctx.put (Ctx.put hz 0 c0) 1 c1) 2 c2) 3 c3
 have hne : ∀ k, O k → k ≠ g := fun k hk => (hO k hk).2
 exact ⟨⟨_, rfl, ((((h.far (p := ⟨g, 0, none⟩) hne c0).far (p := ⟨g, 1, none⟩) hne c1).far (p := ⟨g, 2, none⟩) hne c2).far (p := ⟨g, 3, none⟩) hne c3).mono (fun k hk => (hO k hk).1), bstq (bstq (bstq (bstq hB hg) hg) hg) hg⟩, Ctx.blk hp 0 rfl, Ctx.blk hp 1 rfl, Ctx.blk hp 2 rfl, Ctx.blk hp 3 rfl⟩
section
variable {ok : Nat → Prop}
theorem textJ (s : ByteArray) (w : World) (hok : ∀ k, w.heap.size ≤ k → ok k) : Calls Tryd.prog 13 #[.string s] w (KPost k27 ok w ⟨4, s, [], []⟩) :=
 (json_Text.calls s 4 s [] [] w rfl).mono fun e w' h => by
  obtain ⟨v2, v3, rfl, h2, h3, hb⟩ := h;replace h2 := Kd.V_mono (ok' := ok) (Kd.R_V (base' := 0) (Kd.R_bound h2)) (fun k hk => hok k hk.2.1);replace h3 := Kd.V_mono (ok' := ok) (Kd.R_V (base' := 0) (Kd.R_bound h3)) (fun k hk => hok k hk.2.1);obtain ⟨A2, c2, rfl⟩ := Kd.V_slice h2;obtain ⟨A3, c3, rfl⟩ := Kd.V_slice h3;exact ⟨_, rfl, Kv.mk27 ⟨4, s, [], []⟩ (Kd.V_reads' h2).2.1 (Kd.V_F h2) (Kd.V_reads' h3).2.1 (Kd.V_F h3), hb⟩
theorem madeJ (A : Option Addr) (c : Nat) (l : List S30) (w : World) (hok : ∀ k, w.heap.size ≤ k → ok k) (hc : l.length ≤ c) (h : Kd.F k30 w ok A l.length l) (hl : l.length ≤ 1000000) : Calls Tryd.prog 11 #[.slice A l.length c] w (KPost k27 ok w ⟨6, ⟨#[]⟩, l.map S30.f0, l.map S30.f1⟩) :=
 (json_Made.calls ok A c l 6 ⟨#[]⟩ (l.map S30.f0) (l.map S30.f1) w (Kd.V_mk hc h) (by unfold json_Made.f; rw [if_pos hl])).mono fun e w' h => by
  obtain ⟨v2, v3, rfl, h2, h3, hb⟩ := h;replace h2 := Kd.V_mono (ok' := ok) h2 (fun k hk => hk.elim id (hok k));replace h3 := Kd.V_mono (ok' := ok) h3 (fun k hk => hk.elim id (hok k));obtain ⟨A2, c2, rfl⟩ := Kd.V_slice h2;obtain ⟨A3, c3, rfl⟩ := Kd.V_slice h3;exact ⟨_, rfl, Kv.mk27 ⟨6, ⟨#[]⟩, l.map S30.f0, l.map S30.f1⟩ (Kd.V_reads' h2).2.1 (Kd.V_F h2) (Kd.V_reads' h3).2.1 (Kd.V_F h3), hb⟩
theorem toJ (k : Nat) (v : Value) (x : S44) (y : S27) (w : World) (hok : ∀ k, w.heap.size ≤ k → ok k) (h : Kv k44 ok w v x) (ht : toF k x = some y) : Calls Tryd.prog 21 #[v] w (KPost k27 ok w y) := by
 obtain ⟨A2, c2, A3, c3, rfl, l2, g2, l3, g3⟩ := h.open44
 refine (to06_calls k x A2 c2 A3 c3 (fun k => ok k ∧ k < w.heap.size) y w (fun _ h => h.2) (Kd.V_mk l2 (Kd.F_bound g2)) (Kd.V_mk l3 (Kd.F_bound g3)) ht).mono fun e w' h => ?_
 obtain ⟨v2, v3, rfl, h2, h3, hb⟩ := h;replace h2 := Kd.V_mono (ok' := ok) h2 (fun k hk => hk.1.elim (fun h => h.1) (hok k));replace h3 := Kd.N_mono (ok' := ok) h3 (fun k hk => hk.elim (fun h => h.1) (hok k));obtain ⟨A2, c2, rfl⟩ := Kd.V_slice h2;obtain ⟨A3, c3, rfl⟩ := Kd.N_slice h3;exact ⟨_, rfl, Kv.mk27 y (Kd.V_reads' h2).2.1 (Kd.V_F h2) (Kd.N_reads' h3).2.1 (Kd.F_mono (Kd.N_F h3) (fun _ h => h)), hb⟩
theorem ofJ (k : Nat) (v : Value) (x : S27) (y : S44) (w : World) (hok : ∀ k, w.heap.size ≤ k → ok k) (h : Kv k27 ok w v x) (ht : ofF k x = some y) : Calls Tryd.prog 18 #[v] w (KPost k44 ok w y) := by
 obtain ⟨A2, c2, A3, c3, rfl, l2, g2, l3, g3⟩ := h.open27
 refine (of06_calls k x A2 c2 A3 c3 (fun k => ok k ∧ k < w.heap.size) y w (fun _ h => h.2) (Kd.V_mk l2 (Kd.F_bound g2)) (Kd.V_mk l3 (Kd.F_bound g3)) ht).mono fun e w' h => ?_
 obtain ⟨v2, v3, rfl, h2, h3, hb⟩ := h;replace h2 := Kd.V_mono (ok' := ok) h2 (fun k hk => hk.1.elim (fun h => h.1) (hok k));replace h3 := Kd.N_mono (ok' := ok) h3 (fun k hk => hk.elim (fun h => h.1) (hok k));obtain ⟨A2, c2, rfl⟩ := Kd.V_slice h2;obtain ⟨A3, c3, rfl⟩ := Kd.N_slice h3;exact ⟨_, rfl, Kv.mk44 y (Kd.V_reads' h2).2.1 (Kd.V_F h2) (Kd.N_reads' h3).2.1 (Kd.F_mono (Kd.N_F h3) (fun _ h => h)), hb⟩
end
end Go.Proofs.YteighppcdpaekaaDoor.P
end
