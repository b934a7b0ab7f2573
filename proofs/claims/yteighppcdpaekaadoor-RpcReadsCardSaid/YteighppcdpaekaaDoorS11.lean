/- Walks and words of this session, put together by a program of this session (pack.py). Conditions: as each text says. -/
import Derived.Lib.Hide
import Derived.Test.YteighppcdpaekaaDoorS2
import Derived.Test.YteighppcdpaekaaDoorS10
set_option linter.unusedVariables false
set_option linter.unusedSimpArgs false
section
namespace Go.Proofs.YteighppcdpaekaaDoor.P
open Go.RowKit Go.Proofs.YteighppcdpaekaaDoorW.PrintWords
def fill : List (Option Tmp) → Nat → (Nat → Value) → (Nat → Bool) → Act → Act
 | [], _, _, _, a => a
 | d :: D, k, e, l, a => fill D (k + 1) e l (if l k then a.put d (e k) else a)
theorem put_comm {a : Act} {d d' : Option Tmp} {v v' : Value} (h : d = none ∨ d' = none ∨ d ≠ d') : (a.put d v).put d' v' = (a.put d' v').put d v := by
 cases d with
 | none => rfl
 | some d =>
  cases d' with
  | none => rfl
  | some d' =>
   have hne : d ≠ d' := by simpa using h
   show Act.mk _ _ = Act.mk _ _
   congr 1
   exact Array.setIfInBounds_comm v v' hne
theorem fill_put {d : Option Tmp} {v : Value} {e : Nat → Value} {l : Nat → Bool} : ∀ (D : List (Option Tmp)) (k : Nat) (a : Act), (∀ x ∈ D, d = none ∨ x = none ∨ d ≠ x) → fill D k e l (a.put d v) = (fill D k e l a).put d v
 | [], _, _, _ => rfl
 | x :: D, k, a, h => by
  simp only [fill]
  have h2 := fun y hy => h y (List.mem_cons_of_mem x hy)
  split
  ·rw [put_comm (h x (List.mem_cons_self ..))]; exact fill_put D (k + 1) _ h2
  ·exact fill_put D (k + 1) _ h2
theorem fill_congr {e e' : Nat → Value} {l l' : Nat → Bool} : ∀ (D : List (Option Tmp)) (k : Nat) (a : Act), (∀ j, k ≤ j → j < k + D.length → l j = l' j ∧ (l j = true → e j = e' j)) → fill D k e l a = fill D k e' l' a
 | [], _, _, _ => rfl
 | x :: D, k, a, h => by
  simp only [fill];obtain ⟨h1, h2⟩ := h k (Nat.le_refl _) (by simp);rw [← h1]
  have hr := fun a => fill_congr (e := e) (e' := e') (l := l) (l' := l') D (k + 1) a (fun j h3 h4 => h j (by omega) (by simp; omega))
  split
  ·rename_i ht; rw [h2 ht]; exact hr _
  ·exact hr _
def apart : List (Option Tmp) → Bool
 | [] => true
 | d :: D => D.all (fun x => d.isNone || x.isNone || d != x) && apart D
theorem apart_all {d x : Option Tmp} {D : List (Option Tmp)} (h : D.all (fun x => d.isNone || x.isNone || d != x) = true) (hx : x ∈ D) : d = none ∨ x = none ∨ d ≠ x := by
 have := List.all_eq_true.1 h x hx;simp only [Bool.or_eq_true, Option.isNone_iff_eq_none, bne_iff_ne, ne_eq] at this;exact (or_assoc.1 this)
theorem fill_set {e : Nat → Value} {l : Nat → Bool} {v : Value} : ∀ (D : List (Option Tmp)) (k i : Nat) (a : Act) (d : Option Tmp), apart D = true → D[i]? = some d → l (k + i) = false →
  (fill D k e l a).put d v = fill D k (fun j => if j = k + i then v else e j) (fun j => if j = k + i then true else l j) a
 | [], _, _, _, _, _, h, _ => by simp at h
 | x :: D, k, 0, a, d, hA, h, hl => by
  obtain rfl : x = d := by simpa using h
  simp only [apart, Bool.and_eq_true] at hA;simp only [Nat.add_zero] at hl ⊢;simp only [fill, hl, if_true, Bool.false_eq_true, if_false];rw [← fill_put D (k + 1) a (fun y hy => apart_all hA.1 hy)];exact fill_congr D (k + 1) _ (fun j h1 h2 => by simp [show ¬ j = k by omega])
 | x :: D, k, i + 1, a, d, hA, h, hl => by
  simp only [apart, Bool.and_eq_true] at hA;simp only [fill, show ¬ k = k + (i + 1) by omega, if_false];have := fill_set (e := e) (l := l) (v := v) D (k + 1) i (if l k = true then a.put x (e k) else a) d hA.2 (by simpa using h) (by rw [show k + 1 + i = k + (i + 1) by omega]; exact hl);rw [show k + 1 + i = k + (i + 1) by omega] at this;exact this
theorem put_at {a : Act} {t : Tmp} {d : Option Tmp} {v : Value} (h : d ≠ some t) : (a.put d v).tmps[t]? = a.tmps[t]? := by
 cases d with
 | none => rfl
 | some d =>
  have hne : d ≠ t := fun e => h (by rw [e])
  show (a.tmps.setIfInBounds d v)[t]? = _
  rw [Array.getElem?_setIfInBounds_ne hne]
theorem fill_other {t : Tmp} {e : Nat → Value} {l : Nat → Bool} : ∀ (D : List (Option Tmp)) (k : Nat) (a : Act), some t ∉ D → (fill D k e l a).tmps[t]? = a.tmps[t]?
 | [], _, _, _ => rfl
 | x :: D, k, a, h => by
  simp only [fill]
  have h1 : x ≠ some t := fun e => h (by rw [e]; exact List.mem_cons_self ..)
  rw [fill_other D (k + 1) _ (fun hx => h (List.mem_cons_of_mem _ hx))]
  split
  ·exact put_at h1
  ·rfl
theorem fill_at {t : Tmp} {e : Nat → Value} {l : Nat → Bool} : ∀ (D : List (Option Tmp)) (k i : Nat) (a : Act), apart D = true → D[i]? = some (some t) → l (k + i) = true → t < a.tmps.size → (fill D k e l a).tmps[t]? = some (e (k + i))
 | [], _, _, _, _, h, _, _ => by simp at h
 | x :: D, k, 0, a, hA, h, hl, ht => by
  obtain rfl : x = some t := by simpa using h
  simp only [apart, Bool.and_eq_true] at hA;simp only [Nat.add_zero] at hl ⊢;simp only [fill, hl, if_true];rw [fill_other D (k + 1) _ (fun hx => by rcases apart_all hA.1 hx with h | h | h <;> simp at h)]
  show (a.tmps.setIfInBounds t (e k))[t]? = _
  simp [ht]
 | x :: D, k, i + 1, a, hA, h, hl, ht => by
  simp only [apart, Bool.and_eq_true] at hA;simp only [fill]
  have := fill_at (e := e) (l := l) D (k + 1) i (if l k = true then a.put x (e k) else a) hA.2 (by simpa using h) (by rw [show k + 1 + i = k + (i + 1) by omega]; exact hl) (by
   split
   ·cases x <;> simp [Act.put, ht]
   ·exact ht)
  rw [show k + 1 + i = k + (i + 1) by omega] at this;exact this
def early (ops : Array Oper) : Bool := (List.range ops.size).all fun i => ((ops[i]?).map fun o => o.after.all fun e => !Region.binds .any e || decide (e.on < i)).getD true
def dsts (ops : Array Oper) : List (Option Tmp) := ops.toList.map (·.dst)
def waits (ops : Array Oper) (k : Nat) : List Nat := ((ops[k]?).map fun o => (o.after.toList.filter (Region.binds .any)).map (·.on)).getD []
section
variable {P : Program} {ops : Array Oper} {Q : Exit → Act → World → Prop}
def Step (P : Program) (ops : Array Oper) (Q : Exit → Act → World → Prop) (a0 : Act) (C : World → Prop) (R : Nat → Value → World → Prop) (i : Nat) : Prop :=
 ∀ o, ops[i]? = some o → ∀ (e : Nat → Value) (a : Act) (w : World), C w → (∀ x ∈ o.after, Region.binds .any x = true → R x.on (e x.on) w ∧ ∀ t, (ops[x.on]?).bind (·.dst) = some t → a.tmps[t]? = some (e x.on)) →
  (∀ t, some t ∉ dsts ops → a.tmps[t]? = a0.tmps[t]?) → ∀ K : Act → World → Prop, (∀ v w', Below w.heap.size w w' → R i v w' → K (a.put o.dst v) w') →
  if Region.wanted o (yielded ops a.tmps) = true then Oper.wp P o a w K Q else K (a.put o.dst undef) w
def lf (l : Array Bool) (j : Nat) : Bool := l.getD j false
theorem ready_mem {l : Array Bool} {i : Nat} (h : i ∈ Region.ready .any ops l) (hs : l.size = ops.size) : ∃ o, ops[i]? = some o ∧ lf l i = false ∧ i < l.size ∧ ∀ x ∈ o.after, Region.binds .any x = true → lf l x.on = true := by
 unfold Region.ready at h;simp only [List.mem_filter, List.mem_range, Bool.and_eq_true, Bool.not_eq_true'] at h;obtain ⟨h1, h2, h3⟩ := h;refine ⟨ops[i], by simp [h1], ?_, by omega, fun x hx hb => ?_⟩
 ·unfold lf
  rw [Array.getD_eq_getD_getElem?] at h2 ⊢;rw [Array.getElem?_eq_getElem (by omega)] at h2 ⊢
  simpa using h2
 ·simp only [Array.getElem?_eq_getElem h1, Option.map_some, Option.getD_some, Array.all_eq_true'] at h3
  have := h3 x hx;rw [hb] at this
  simpa [lf] using this
theorem ready_nil {l : Array Bool} (h : Region.ready .any ops l = []) (hE : early ops = true) (hs : l.size = ops.size) : ∀ j, j < ops.size → lf l j = true := by
 intro j
 induction j using Nat.strongRecOn with
 | _ j ih =>
  intro hj
  cases hl : lf l j with
  | true => rfl
  | false =>
   have hm : j ∈ Region.ready .any ops l := by
    unfold Region.ready;simp only [List.mem_filter, List.mem_range, Bool.and_eq_true, Bool.not_eq_true'];refine ⟨hj, ?_, ?_⟩
    ·unfold lf at hl
     rw [Array.getD_eq_getD_getElem?] at hl ⊢;rw [Array.getElem?_eq_getElem (by omega)] at hl ⊢
     simpa using hl
    ·simp only [Array.getElem?_eq_getElem hj, Option.map_some, Option.getD_some, Array.all_eq_true']
     intro x hx;have h1 := List.all_eq_true.1 hE j (List.mem_range.2 hj);simp only [Array.getElem?_eq_getElem hj, Option.map_some, Option.getD_some, Array.all_eq_true'] at h1
     cases hbx : Region.binds .any x with
     | false => simp
     | true =>
      have h2 := h1 x hx;rw [hbx] at h2;have := ih x.on (by simpa using h2) (by have := (show x.on < j by simpa using h2); omega);unfold lf at this;rw [this]
      simp
   rw [h] at hm;cases hm
theorem waits_mem {k x : Nat} (h : x ∈ waits ops k) : ∃ o, ops[k]? = some o ∧ ∃ y ∈ o.after, Region.binds .any y = true ∧ y.on = x := by
 unfold waits at h
 cases ho : ops[k]? with
 | none => rw [ho] at h; simp at h
 | some o =>
  rw [ho] at h;simp only [Option.map_some, Option.getD_some, List.mem_map, List.mem_filter] at h;obtain ⟨y, ⟨h1, h2⟩, h3⟩ := h;exact ⟨o, rfl, y, by simpa using h1, h2, h3⟩
def Closed (ops : Array Oper) (l : Array Bool) : Prop := ∀ k, lf l k = true → ∀ x ∈ waits ops k, lf l x = true
def cnt (l : Nat → Bool) : Nat → Nat
 | 0 => 0
 | k + 1 => cnt l k + (if l k = true then 0 else 1)
theorem cnt_congr {l l' : Nat → Bool} : ∀ n, (∀ j, j < n → l j = l' j) → cnt l n = cnt l' n
 | 0, _ => rfl
 | n + 1, h => by
  simp only [cnt];rw [cnt_congr n (fun j hj => h j (by omega)), h n (by omega)]
theorem cnt_set {l : Nat → Bool} {i : Nat} (hl : l i = false) : ∀ n, i < n → cnt (fun j => if j = i then true else l j) n + 1 = cnt l n
 | n + 1, h => by
  simp only [cnt];by_cases hi : i = n
  ·subst hi
   rw [cnt_congr (l' := l) i (fun j hj => by rw [if_neg (by omega)])]
   simp [hl]
  ·have := cnt_set hl n (by omega)
   simp only [show ¬ n = i by omega, if_false]
   omega
theorem lf_set {l : Array Bool} {i : Nat} (hi : i < l.size) : lf (l.setIfInBounds i true) = fun j => if j = i then true else lf l j := by
 funext j
 unfold lf;rw [Array.getD_eq_getD_getElem?, Array.getD_eq_getD_getElem?];by_cases h : j = i
 ·subst h; simp [hi]
 ·rw [if_neg h, Array.getElem?_setIfInBounds_ne (Ne.symm h)]
def FI (ops : Array Oper) (a0 : Act) (C : World → Prop) (R : Nat → Value → World → Prop) (l : Array Bool) (a : Act) (w : World) : Prop :=
 l.size = ops.size ∧ Closed ops l ∧ C w ∧ ∃ e, a = fill (dsts ops) 0 e (lf l) a0 ∧ ∀ j, lf l j = true → R j (e j) w
section
variable {a0 : Act} {C : World → Prop} {R : Nat → Value → World → Prop}
theorem dst_at {i : Nat} {o : Oper} (h : ops[i]? = some o) : (dsts ops)[i]? = some o.dst := by
 unfold dsts;rw [List.getElem?_map, Array.getElem?_toList, h]
 rfl
theorem fi_step (hA : apart (dsts ops) = true) (hT : ∀ t, some t ∈ dsts ops → t < a0.tmps.size) (hC : ∀ w w', C w → Below w.heap.size w w' → C w') (hR : ∀ j v w w', R j v w → Below w.heap.size w w' → R j v w')
  {l : Array Bool} {a : Act} {w : World} {i : Nat} (hI : FI ops a0 C R l a w) (hi : i ∈ Region.ready .any ops l) (hS : Step P ops Q a0 C R i) {K : Act → World → Prop} (hK : ∀ a' w', FI ops a0 C R (l.setIfInBounds i true) a' w' → K a' w') : wpOp P ops Q i K a w := by
 obtain ⟨hs, hc, hCw, e, rfl, hr⟩ := hI;obtain ⟨o, ho, hli, hisz, hw⟩ := ready_mem hi hs;refine wpOp_step ho (fun K' hK' => ?_);refine hS o ho e _ w hCw (fun x hx hb => ⟨hr _ (hw x hx hb), fun t ht => ?_⟩) (fun t ht => fill_other _ 0 a0 ht) K' (fun v w' hb hv => hK' _ _ (hK _ _ ?_))
 ·cases hox : ops[x.on]? with
  | none => rw [hox] at ht; simp at ht
  | some y =>
   rw [hox] at ht;have hd := dst_at hox;rw [show y.dst = some t from ht] at hd;have := fill_at (e := e) (l := lf l) (dsts ops) 0 x.on a0 hA hd (by rw [Nat.zero_add]; exact hw x hx hb) (hT t (List.mem_of_getElem? hd));rw [Nat.zero_add] at this;exact this
 ·refine ⟨by simp [hs], ?_, hC _ _ hCw hb, fun j => if j = i then v else e j, ?_, fun j hj => ?_⟩
  ·intro k hk x hx
   rw [lf_set hisz] at hk ⊢
   dsimp only at hk ⊢
   by_cases hxi : x = i
   ·rw [if_pos hxi]
   ·rw [if_neg hxi]
    by_cases hki : k = i
    ·subst hki
     obtain ⟨o', ho', y, hy, hyb, rfl⟩ := waits_mem hx;obtain rfl := Option.some.inj (ho.symm.trans ho');exact hw y hy hyb
    ·rw [if_neg hki] at hk
     exact hc k hk x hx
  ·rw [lf_set hisz]
   have := fill_set (e := e) (l := lf l) (v := v) (dsts ops) 0 i a0 o.dst hA (dst_at ho) (by rw [Nat.zero_add]; exact hli)
   simpa using this
  ·rw [lf_set hisz] at hj
   dsimp only at hj ⊢
   by_cases hji : j = i
   ·subst hji; simpa using hv
   ·rw [if_neg hji] at hj ⊢
    exact hR _ _ _ _ (hr j hj) hb
theorem fi_end (hE : early ops = true) {l : Array Bool} {a : Act} {w : World} (hI : FI ops a0 C R l a w) (hr : Region.ready .any ops l = []) : ∃ e, C w ∧ a = fill (dsts ops) 0 e (fun _ => true) a0 ∧ ∀ j, j < ops.size → R j (e j) w := by
 obtain ⟨hs, hc, hCw, e, rfl, hR⟩ := hI;have hall := ready_nil hr hE hs;refine ⟨e, hCw, fill_congr _ 0 a0 (fun j _ hj => ⟨hall j (by simpa [dsts] using hj), fun _ => rfl⟩), fun j hj => hR j (hall j hj)⟩
theorem ready_zero {l : Array Bool} (hs : l.size = ops.size) (h : cnt (lf l) ops.size = 0) : Region.ready .any ops l = [] := by
 cases hr : Region.ready .any ops l with
 | nil => rfl
 | cons i r =>
  obtain ⟨o, ho, hli, hisz, _⟩ := ready_mem (l := l) (i := i) (by rw [hr]; exact List.mem_cons_self ..) hs;have := cnt_set hli ops.size (by omega)
  omega
theorem cnt_next {l : Array Bool} {i : Nat} (hi : i ∈ Region.ready .any ops l) (hs : l.size = ops.size) : cnt (lf (l.setIfInBounds i true)) ops.size + 1 = cnt (lf l) ops.size := by
 obtain ⟨o, ho, hli, hisz, _⟩ := ready_mem hi hs;rw [lf_set hisz];exact cnt_set hli ops.size (by omega)
theorem flow_all (hE : early ops = true) (hA : apart (dsts ops) = true) (hT : ∀ t, some t ∈ dsts ops → t < a0.tmps.size) (hC : ∀ w w', C w → Below w.heap.size w w' → C w') (hR : ∀ j v w w', R j v w → Below w.heap.size w w' → R j v w')
  (hS : ∀ i, i < ops.size → Step P ops Q a0 C R i) (hQ : ∀ e w, C w → (∀ j, j < ops.size → R j (e j) w) → Q .normal (fill (dsts ops) 0 e (fun _ => true) a0) w) :
  ∀ fuel l a w, FI ops a0 C R l a w → cnt (lf l) ops.size ≤ fuel → wpAny P .any ops Q fuel l a w
 | 0, l, a, w, hI, hn => by
  have hr := ready_zero hI.1 (Nat.le_zero.1 hn);obtain ⟨e, hCw, rfl, h⟩ := fi_end hE hI hr;exact ⟨hr, hQ e w hCw h⟩
 | fuel + 1, l, a, w, hI, hn => by
  refine ⟨fun hr => ?_, fun i hi => ?_⟩
  ·obtain ⟨e, hCw, rfl, h⟩ := fi_end hE hI hr
   exact hQ e w hCw h
  ·obtain ⟨o, ho, _, _, _⟩ := ready_mem hi hI.1
   have := cnt_next hi hI.1;exact fi_step hA hT hC hR hI hi (hS i (Array.getElem?_eq_some_iff.1 ho).1) (fun a' w' hI' => flow_all hE hA hT hC hR hS hQ fuel _ a' w' hI' (by omega))
theorem fi_start {w0 : World} (h : C w0) : FI ops a0 C R (Array.replicate ops.size false) a0 w0 := by
 have hl : ∀ j, lf (Array.replicate ops.size false) j = false := fun j => by
  unfold lf;rw [Array.getD_eq_getD_getElem?];rw [Array.getElem?_replicate]
  split <;> rfl
 refine ⟨by simp, fun k hk => ?_, h, fun _ => undef, ?_, fun j hj => ?_⟩
 ·rw [hl] at hk; cases hk
 ·have : ∀ (D : List (Option Tmp)) (k : Nat), fill D k (fun _ => undef) (lf (Array.replicate ops.size false)) a0 = a0 := fun D => by
   induction D with
   | nil => intro _; rfl
   | cons d D ih => intro k; simp only [fill, hl, Bool.false_eq_true, if_false]; exact ih _
  rw [this]
 ·rw [hl] at hj; cases hj
theorem cnt_le {l : Nat → Bool} : ∀ n, cnt l n ≤ n
 | 0 => Nat.le_refl _
 | n + 1 => by
  have := cnt_le (l := l) n;simp only [cnt]
  split <;> omega
theorem flow {id : Nat} {w0 : World} (C : World → Prop) (R : Nat → Value → World → Prop) (hm : P.follows .mixedOrders = true) (hE : early ops = true) (hA : apart (dsts ops) = true) (hT : (dsts ops).all (fun d => (d.map fun t => decide (t < a0.tmps.size)).getD true) = true)
  (hC : ∀ w w', C w → Below w.heap.size w w' → C w') (hR : ∀ j v w w', R j v w → Below w.heap.size w w' → R j v w') (h0 : C w0)
  (hS : ∀ i, i < ops.size → Step P ops Q a0 C R i) (hQ : ∀ e w, C w → (∀ j, j < ops.size → R j (e j) w) → Q .normal (fill (dsts ops) 0 e (fun _ => true) a0) w) : (Code.region id ops true).wp P Q a0 w0 :=
 wp_region_any hm (flow_all hE hA (fun t ht => by have := List.all_eq_true.1 hT _ ht; simpa using this) hC hR hS hQ _ _ _ _ (fi_start (hC _ _ h0 (below_drew (Below.refl _ _)))) (cnt_le _))
def tabOf (ops : Array Oper) : List (Option Tmp) × List (List Nat) := (dsts ops, (List.range ops.size).map (waits ops))
def earlyW (W : List (List Nat)) : Bool := W.zipIdx.all fun x => x.1.all fun j => decide (j < x.2)
def Steps (f : Nat → Prop) : Nat → Prop
 | 0 => True
 | n + 1 => Steps f n ∧ f n
theorem Steps.all {f : Nat → Prop} : ∀ {n : Nat}, Steps f n → ∀ i, i < n → f i
 | n + 1, h, i, hi => by
  by_cases hn : i = n
  ·subst hn; exact h.2
  ·exact h.1.all i (by omega)
def At (P : Program) (ops : Array Oper) (Q : Exit → Act → World → Prop) (D : List (Option Tmp)) (W : List (List Nat)) (a0 : Act) (C : World → Prop) (R : Nat → Value → World → Prop) (i : Nat) : Prop :=
 ∀ (e : Nat → Value) (a : Act) (w : World), C w → (∀ j, j ∈ W.getD i [] → R j (e j) w ∧ ∀ t, D[j]? = some (some t) → a.tmps[t]? = some (e j)) → (∀ t, some t ∉ D → a.tmps[t]? = a0.tmps[t]?) →
  ∀ K : Act → World → Prop, Sdq (∀ v w', Below w.heap.size w w' → R i v w' → K (a.put (D.getD i none) v) w') →
  match ops[i]? with
  | some o => if Region.wanted o (yielded ops a.tmps) = true then Oper.wp P o a w K Q else K (a.put (D.getD i none) undef) w
  | none => True
theorem waits_tab {D : List (Option Tmp)} {W : List (List Nat)} (h : tabOf ops = (D, W)) (i : Nat) (hi : i < ops.size) : W.getD i [] = waits ops i := by
 have h2 : (List.range ops.size).map (waits ops) = W := congrArg Prod.snd h;rw [← h2, List.getD_eq_getElem?_getD]
 simp [hi]
theorem dst_tab {D : List (Option Tmp)} {W : List (List Nat)} (h : tabOf ops = (D, W)) {i : Nat} {o : Oper} (ho : ops[i]? = some o) : D.getD i none = o.dst := by
 have h2 : dsts ops = D := congrArg Prod.fst h;rw [← h2, List.getD_eq_getElem?_getD, dst_at ho]
 rfl
theorem early_tab {D : List (Option Tmp)} {W : List (List Nat)} (h : tabOf ops = (D, W)) (hE : earlyW W = true) : early ops = true := by
 have h2 : (List.range ops.size).map (waits ops) = W := congrArg Prod.snd h;unfold early
 refine List.all_eq_true.2 fun i hi => ?_
 have hi := List.mem_range.1 hi;rw [Array.getElem?_eq_getElem hi];simp only [Option.map_some, Option.getD_some, Array.all_eq_true'];intro x hx
 cases hb : Region.binds .any x with
 | false => simp
 | true =>
  have hw : x.on ∈ W.getD i [] := by
   rw [waits_tab h i hi];unfold waits;rw [Array.getElem?_eq_getElem hi];simp only [Option.map_some, Option.getD_some, List.mem_map, List.mem_filter];exact ⟨x, ⟨by simpa using hx, hb⟩, rfl⟩
  have hl : i < W.length := by rw [← h2]; simpa using hi
  have := List.all_eq_true.1 hE (W[i], i) (by
   rw [List.mem_iff_getElem?]
   exact ⟨i, by simp [hl]⟩)
  have h3 := List.all_eq_true.1 this x.on (by rw [List.getD_eq_getElem?_getD] at hw; simpa [hl] using hw)
  simpa using h3
theorem step_at {D : List (Option Tmp)} {W : List (List Nat)} (h : tabOf ops = (D, W)) {i : Nat} (hs : At P ops Q D W a0 C R i) : Step P ops Q a0 C R i := by
 intro o ho e a w hC hd hb K hK;have hD : dsts ops = D := congrArg Prod.fst h;have hi := (Array.getElem?_eq_some_iff.1 ho).1;have := hs e a w hC (fun j hj => ?_) (fun t ht => hb t (by rw [hD]; exact ht)) K ⟨fun v w' h1 h2 => by rw [dst_tab h ho]; exact hK v w' h1 h2⟩
 ·rw [ho, dst_tab h ho] at this
  exact this
 ·rw [waits_tab h i hi] at hj
  obtain ⟨o', ho', y, hy, hyb, rfl⟩ := waits_mem hj;obtain rfl := Option.some.inj (ho.symm.trans ho');obtain ⟨h1, h2⟩ := hd y hy hyb;refine ⟨h1, fun t ht => h2 t ?_⟩
  cases hy2 : ops[y.on]? with
  | none =>
   rw [← hD] at ht;unfold dsts at ht;rw [List.getElem?_map, Array.getElem?_toList, hy2] at ht
   simp at ht
  | some oy =>
   have := dst_at hy2;rw [hD, ht] at this
   simpa using (Option.some.inj this).symm
theorem flowT {id n : Nat} {w0 : World} {D : List (Option Tmp)} {W : List (List Nat)} (h : tabOf ops = (D, W)) (hn : ops.size = n) (C : World → Prop) (R : Nat → Value → World → Prop) (hm : P.follows .mixedOrders = true) (hc : (earlyW W && apart D && D.all (fun d => (d.map fun t => decide (t < a0.tmps.size)).getD true)) = true)
  (hC : ∀ w w', C w → Below w.heap.size w w' → C w') (hR : ∀ j v w w', R j v w → Below w.heap.size w w' → R j v w') (h0 : C w0)
  (hS : Steps (At P ops Q D W a0 C R) n) (hQ : ∀ e w, C w → Steps (fun j => R j (e j) w) n → Q .normal (fill D 0 e (fun _ => true) a0) w) : (Code.region id ops true).wp P Q a0 w0 := by
 subst hn;simp only [Bool.and_eq_true] at hc;have hD : dsts ops = D := congrArg Prod.fst h;refine flow C R hm (early_tab h hc.1.1) (by rw [hD]; exact hc.1.2) (by rw [hD]; exact hc.2) hC hR h0 (fun i hi => step_at h (hS.all i hi)) (fun e w hCw hr => ?_);rw [hD];refine hQ e w hCw ?_
 have hall : ∀ n, n ≤ ops.size → Steps (fun j => R j (e j) w) n := fun n => by
  induction n with
  | zero => intro _; trivial
  | succ n ih => intro hn; exact ⟨ih (by omega), hr n (by omega)⟩
 exact hall _ (Nat.le_refl _)
theorem At.of {D : List (Option Tmp)} {W : List (List Nat)} {i : Nat} (o : Oper) (ho : ops[i]? = some o) (h : ∀ (e : Nat → Value) (a : Act) (w : World), C w → (∀ j, j ∈ W.getD i [] → R j (e j) w ∧ ∀ t, D[j]? = some (some t) → a.tmps[t]? = some (e j)) → (∀ t, some t ∉ D → a.tmps[t]? = a0.tmps[t]?) →
  ∀ K : Act → World → Prop, Sdq (∀ v w', Below w.heap.size w w' → R i v w' → K (a.put (D.getD i none) v) w') → if Region.wanted o (yielded ops a.tmps) = true then Oper.wp P o a w K Q else K (a.put (D.getD i none) undef) w) : At P ops Q D W a0 C R i := by
 intro e a w h1 h2 h3 K h4;rw [ho];exact h e a w h1 h2 h3 K h4
end
def Rl (l : List (Value → UpP)) (j : Nat) (v : Value) (w : World) : Prop := match l[j]? with
 | some u => (u v).p w
 | none => True
theorem Rl.up (l : List (Value → UpP)) (j : Nat) (v : Value) (w w' : World) (h : Rl l j v w) (hb : Below w.heap.size w w') : Rl l j v w' := by
 unfold Rl at *
 split
 ·rename_i u hu
  rw [hu] at h;exact (u v).up w w' h hb
 ·trivial
def uEq (c v : Value) : UpP := ⟨fun _ => v = c, fun _ _ h _ => h⟩
end
end Go.Proofs.YteighppcdpaekaaDoor.P
end
section
namespace Go.Proofs.YteighppcdpaekaaDoor.P
open Go.RowKit Go.Proofs.YteighppcdpaekaaDoorW.PrintWords
section
variable {P : Program} {ops : Array Oper} {Q : Exit → Act → World → Prop} {a0 : Act} {C : World → Prop} {G : Nat → World → Prop} {R : Nat → Option Nat → Value → World → Prop} {p : Nat} {Z : Obj}
def AtX (P : Program) (ops : Array Oper) (Q : Exit → Act → World → Prop) (D : List (Option Tmp)) (W : List (List Nat)) (a0 : Act) (C : World → Prop) (G : Nat → World → Prop) (p : Nat) (R : Nat → Option Nat → Value → World → Prop) (i : Nat) : Prop :=
 i ≠ p → ∀ (b : Option Nat) (e : Nat → Value) (a : Act) (w : World), C w → (∀ g, b = some g → G g w) → (∀ j, j ∈ W.getD i [] → (j ≠ p → R j b (e j) w) ∧ ∀ t, D[j]? = some (some t) → a.tmps[t]? = some (e j)) → (∀ t, some t ∉ D → a.tmps[t]? = a0.tmps[t]?) →
  ∀ K : Act → World → Prop, Sdq (∀ v w', Below w.heap.size w w' → R i b v w' → K (a.put (D.getD i none) v) w') →
  match ops[i]? with
  | some o => if Region.wanted o (yielded ops a.tmps) = true then Oper.wp P o a w K Q else K (a.put (D.getD i none) undef) w
  | none => True
theorem AtX.of {D : List (Option Tmp)} {W : List (List Nat)} {i : Nat} (o : Oper) (ho : ops[i]? = some o) (h : ∀ (b : Option Nat) (e : Nat → Value) (a : Act) (w : World), C w → (∀ g, b = some g → G g w) → (∀ j, j ∈ W.getD i [] → (j ≠ p → R j b (e j) w) ∧ ∀ t, D[j]? = some (some t) → a.tmps[t]? = some (e j)) → (∀ t, some t ∉ D → a.tmps[t]? = a0.tmps[t]?) →
  ∀ K : Act → World → Prop, Sdq (∀ v w', Below w.heap.size w w' → R i b v w' → K (a.put (D.getD i none) v) w') → if Region.wanted o (yielded ops a.tmps) = true then Oper.wp P o a w K Q else K (a.put (D.getD i none) undef) w) : AtX P ops Q D W a0 C G p R i := by
 intro _ b e a w h1 h1' h2 h3 K h4;rw [ho];exact h b e a w h1 h1' h2 h3 K h4
end
structure UpX where
 p : (Nat → Prop) → Value → World → Prop
 up : ∀ O v w w', p O v w → Below w.heap.size w w' → p O v w'
 bd : ∀ (O O' : Nat → Prop) v w, p O v w → (∀ k, O k → k < w.heap.size → O' k) → p O' v w
def Rx (l : List UpX) (O : Nat → Prop) (j : Nat) (b : Option Nat) (v : Value) (w : World) : Prop := match l[j]? with
 | some u => u.p (fun k => O k ∧ b ≠ some k) v w
 | none => True
theorem Rx.up (l : List UpX) (O : Nat → Prop) (j : Nat) (b : Option Nat) (v : Value) (w w' : World) (h : Rx l O j b v w) (hb : Below w.heap.size w w') : Rx l O j b v w' := by
 unfold Rx at *
 split
 ·rename_i u hu
  rw [hu] at h;exact u.up _ v w w' h hb
 ·trivial
theorem Rx.laid (l : List UpX) (O : Nat → Prop) (Z : Obj) (j : Nat) (v : Value) (w : World) (h : Rx l O j none v w) : Rx l O j (some w.heap.size) v (w.alloc Z) := by
 unfold Rx at *
 split
 ·rename_i u hu
  rw [hu] at h;exact u.up _ v w _ (u.bd _ _ v w h (fun k hk hlt => ⟨hk.1, fun e => by have := Option.some.inj e; omega⟩)) (bal (Below.refl _ _) _)
 ·trivial
end Go.Proofs.YteighppcdpaekaaDoor.P
end
section
namespace Go.Proofs.YteighppcdpaekaaDoor.P
open Go.RowKit Go.Proofs.YteighppcdpaekaaDoorW.PrintWords Go.Proofs.YteighppcdpaekaaDoorW.PrintLast Go.Proofs.YteighppcdpaekaaDoorW.PrintMore
set_option linter.unusedVariables false
set_option linter.unusedSimpArgs false
def ofLF (V : S27 → Option S44) : List S27 → List S44 → Option (List S44)
 | [], l => some l
 | x :: r, l => if l.length < 1000000 then (V x).bind fun y => ofLF V r (l ++ [y]) else none
def ofF : Nat → S27 → Option S44
 | 0, _ => none
 | k + 1, v => (ofLF (ofF k) v.f3 []).map fun l => ⟨v.f0, v.f1, v.f2, l⟩
def OPost (w : World) (m : Nat → Prop) (r : S44) (e : Ending) (w' : World) : Prop :=
 ∃ v2 v3 : Value, e = .returned (.agg #[.int .i64 r.f0, .string r.f1, v2, v3]) ∧ Kd.V Kd.string 9 w' 0 (fun k => (m k ∨ w.heap.size ≤ k) ∧ some k ≠ v3.ownBlock) v2 r.f2 ∧ Kd.N k44 44 w' w.heap.size (fun k => m k ∨ w.heap.size ≤ k) v3 r.f3 ∧ Below w.heap.size w w'
def OS (m : Nat → Prop) (w : World) (t0 : Int) (t1 : ByteArray) (v2 v3 : Value) (W : World) (lv : Value) (l : List S44) : Prop :=
 Ctx [uBlk (w.heap.size + 2) [.int .i64 t0, .string t1, v2, lv] 44, uBlk (w.heap.size + 1) [.int .i64 0, .string ⟨#[]⟩, .slice none 0 0, .slice none 0 0] 44, uBlk w.heap.size [.int .i64 t0, .string t1, v2, v3] 27, uB w] W ∧
 Kd.N k44 44 W (w.heap.size + 3) (fun k => m k ∨ w.heap.size + 3 ≤ k) lv l
theorem OS.start {m : Nat → Prop} {w : World} {t0 : Int} {t1 : ByteArray} {v2 v3 : Value} : OS m w t0 t1 v2 v3 (((w.alloc (.cells #[.int .i64 t0, .string t1, v2, v3] 27 (0, 0))).alloc (.cells #[.int .i64 0, .string ⟨#[]⟩, .slice none 0 0, .slice none 0 0] 44 (0, 0))).alloc (.cells #[.int .i64 t0, .string t1, v2, .slice none 0 0] 44 (0, 0))) (.slice none 0 0) [] := by
 refine ⟨?_, Kd.N_nil _ _ _ _ _⟩;have e := Ctx.new (cs := [.int .i64 t0, .string t1, v2, .slice none 0 0]) (t := 44) (Ctx.new (cs := [.int .i64 0, .string ⟨#[]⟩, .slice none 0 0, .slice none 0 0]) (t := 44) (Ctx.new (cs := [.int .i64 t0, .string t1, v2, v3]) (t := 27) (Ctx.cons (uB w) (Below.refl _ _) (Ctx.nil))))
 simpa using e
section
variable {m : Nat → Prop} {w W W' : World} {t0 : Int} {t1 : ByteArray} {v2 v3 lv v : Value} {l l' : List S44}
theorem OS.below (h : OS m w t0 t1 v2 v3 W lv l) (hb : Below W.heap.size W W') : OS m w t0 t1 v2 v3 W' lv l := ⟨h.1.below hb, Kd.N_below h.2 hb⟩
theorem OS.drew (h : OS m w t0 t1 v2 v3 W lv l) : OS m w t0 t1 v2 v3 W.drew lv l := h.below (below_drew (Below.refl _ _))
theorem OS.alloc (h : OS m w t0 t1 v2 v3 W lv l) (x : Obj) : OS m w t0 t1 v2 v3 (W.alloc x) lv l := h.below (bal (Below.refl _ _) x)
theorem OS.cells (h : OS m w t0 t1 v2 v3 W lv l) :
  (W.cell? ⟨w.heap.size, 0, none⟩ = some (.int .i64 t0) ∧ W.cell? ⟨w.heap.size, 1, none⟩ = some (.string t1) ∧ W.cell? ⟨w.heap.size, 2, none⟩ = some v2 ∧ W.cell? ⟨w.heap.size, 3, none⟩ = some v3) ∧
  (W.cell? ⟨w.heap.size + 1, 0, none⟩ = some (.int .i64 0) ∧ W.cell? ⟨w.heap.size + 1, 1, none⟩ = some (.string ⟨#[]⟩) ∧ W.cell? ⟨w.heap.size + 1, 2, none⟩ = some (.slice none 0 0) ∧ W.cell? ⟨w.heap.size + 1, 3, none⟩ = some (.slice none 0 0)) ∧
  (W.cell? ⟨w.heap.size + 2, 0, none⟩ = some (.int .i64 t0) ∧ W.cell? ⟨w.heap.size + 2, 1, none⟩ = some (.string t1) ∧ W.cell? ⟨w.heap.size + 2, 2, none⟩ = some v2 ∧ W.cell? ⟨w.heap.size + 2, 3, none⟩ = some lv) ∧
  (W.frozen? ⟨w.heap.size + 1, 0, none⟩ = false ∧ W.frozen? ⟨w.heap.size + 1, 1, none⟩ = false ∧ W.frozen? ⟨w.heap.size + 1, 2, none⟩ = false ∧ W.frozen? ⟨w.heap.size + 1, 3, none⟩ = false) ∧ W.frozen? ⟨w.heap.size + 2, 3, none⟩ = false := by
 obtain ⟨⟨b3, b2, b1, hB, _⟩, _⟩ := h;exact ⟨⟨Ctx.blk b1 0 rfl, Ctx.blk b1 1 rfl, Ctx.blk b1 2 rfl, Ctx.blk b1 3 rfl⟩, ⟨Ctx.blk b2 0 rfl, Ctx.blk b2 1 rfl, Ctx.blk b2 2 rfl, Ctx.blk b2 3 rfl⟩, ⟨Ctx.blk b3 0 rfl, Ctx.blk b3 1 rfl, Ctx.blk b3 2 rfl, Ctx.blk b3 3 rfl⟩, ⟨Ctx.frz b2 0, Ctx.frz b2 1, Ctx.frz b2 2, Ctx.frz b2 3⟩, Ctx.frz b3 3⟩
theorem OS.grown (h : OS m w t0 t1 v2 v3 W lv l) (hg : W.grownBy W' lv.ownBlock) : Ctx [uBlk (w.heap.size + 2) [.int .i64 t0, .string t1, v2, lv] 44, uBlk (w.heap.size + 1) [.int .i64 0, .string ⟨#[]⟩, .slice none 0 0, .slice none 0 0] 44, uBlk w.heap.size [.int .i64 t0, .string t1, v2, v3] 27, uB w] W' := by
 obtain ⟨⟨b3, b2, b1, hB, _⟩, hN⟩ := h;have hb := Kd.N_base hN
 have hne : ∀ i, i < w.heap.size + 3 → some i ≠ lv.ownBlock := fun i hi e => by have := hb _ e.symm; omega
 exact ⟨blk_grown b3 hg (hne _ (by omega)), blk_grown b2 hg (hne _ (by omega)), blk_grown b1 hg (hne _ (by omega)), Below.grown hB hg (Below.size hB) (fun k hk => by have := hb k hk; omega), trivial⟩
theorem OS.put (h : Ctx [uBlk (w.heap.size + 2) [.int .i64 t0, .string t1, v2, lv] 44, uBlk (w.heap.size + 1) [.int .i64 0, .string ⟨#[]⟩, .slice none 0 0, .slice none 0 0] 44, uBlk w.heap.size [.int .i64 t0, .string t1, v2, v3] 27, uB w] W) (hm : ∀ k, m k → k < w.heap.size) (hN : Kd.N k44 44 W (w.heap.size + 3) (fun k => m k ∨ w.heap.size + 3 ≤ k) v l') : OS m w t0 t1 v2 v3 (W.setCell ⟨w.heap.size + 2, 3, none⟩ v) v l' := by
 obtain ⟨b3, b2, b1, hB, _⟩ := h;refine ⟨⟨Ctx.put b3 3 v, Ctx.far b2 3 v (by omega), Ctx.far b1 3 v (by omega), bstq hB (by show w.heap.size ≤ w.heap.size + 2; omega), trivial⟩, Kd.N_far hN (fun k hk => ?_) v⟩
 show k ≠ w.heap.size + 2
 rcases hk with hk | hk
 ·have := hm k hk; omega
 ·omega
theorem OS.fin (h : OS m w t0 t1 v2 v3 W lv l) (hm : ∀ k, m k → k < w.heap.size) {t2 : List ByteArray} (hV : Kd.V Kd.string 9 W 0 m v2 t2) (wf : World) (hw : wf = (((W.setCell ⟨w.heap.size + 1, 0, none⟩ (.int .i64 t0)).setCell ⟨w.heap.size + 1, 1, none⟩ (.string t1)).setCell ⟨w.heap.size + 1, 2, none⟩ v2).setCell ⟨w.heap.size + 1, 3, none⟩ lv) :
  OPost w m ⟨t0, t1, t2, l⟩ (.returned (.agg #[.int .i64 t0, .string t1, v2, lv])) wf ∧ wf.cell? ⟨w.heap.size + 1, 0, none⟩ = some (.int .i64 t0) ∧ wf.cell? ⟨w.heap.size + 1, 1, none⟩ = some (.string t1) ∧ wf.cell? ⟨w.heap.size + 1, 2, none⟩ = some v2 ∧ wf.cell? ⟨w.heap.size + 1, 3, none⟩ = some lv := by
 subst hw;obtain ⟨⟨b3, b2, b1, hB, _⟩, hN⟩ := h;have hp := Ctx.put (Ctx.put (Ctx.put (Ctx.put b2 0 (.int .i64 t0)) 1 (.string t1)) 2 v2) 3 lv;have hg := Nat.le_succ w.heap.size
 have hne : ∀ k, m k ∨ w.heap.size + 3 ≤ k → k ≠ w.heap.size + 1 := fun k hk => by
  rcases hk with hk | hk
  ·have := hm k hk; omega
  ·omega
 have hne2 : ∀ k, m k → k ≠ w.heap.size + 1 := fun k hk => by have := hm k hk; omega
 refine ⟨⟨v2, lv, rfl, ?_, ?_, bstq (bstq (bstq (bstq hB hg) hg) hg) hg⟩, Ctx.blk hp 0 rfl, Ctx.blk hp 1 rfl, Ctx.blk hp 2 rfl, Ctx.blk hp 3 rfl⟩
 ·exact Kd.V_mono (Kd.V_far (p := ⟨w.heap.size + 1, 3, none⟩) (Kd.V_far (p := ⟨w.heap.size + 1, 2, none⟩) (Kd.V_far (p := ⟨w.heap.size + 1, 1, none⟩) (Kd.V_far (p := ⟨w.heap.size + 1, 0, none⟩) hV hne2 _) hne2 _) hne2 _) hne2 _) (fun k hk => ⟨.inl hk, fun e => by have := Kd.N_base hN k e.symm; have := hm k hk; omega⟩)
 ·exact Kd.N_lower (Kd.N_mono (Kd.N_far (p := ⟨w.heap.size + 1, 3, none⟩) (Kd.N_far (p := ⟨w.heap.size + 1, 2, none⟩) (Kd.N_far (p := ⟨w.heap.size + 1, 1, none⟩) (Kd.N_far (p := ⟨w.heap.size + 1, 0, none⟩) hN hne _) hne _) hne _) hne _) (fun k hk => hk.imp id (fun h => by omega))) (by omega)
end
def of06.T5 : Bool × List (List Nat × List Nat) := (true, [([], []), ([0], [0]), ([], []), ([2], [2]), ([], []), ([3, 4], [3, 4]), ([5], [5]), ([6], [6]), ([7], [7]), ([1, 8, 7], [1, 8]), ([0, 1, 2, 3, 4, 5, 6, 7, 8, 9], []), ([10, 9, 9, 0, 1, 2, 3, 4, 5, 6, 7, 8, 9], [9, 10])])
theorem of06.tab5 : rtab .any (opsOf Tryd.f18 5) = of06.T5 := by kernel_rfl
theorem of06.bits5 : waitsOk of06.T5.2 [0, 1, 0, 4, 0, 28, 60, 124, 252, 511, 1023, 2047] = true := by kernel_rfl
set_option maxRecDepth 100000 in
set_option maxHeartbeats 6400000 in
theorem of06_calls : ∀ (k : Nat) (v : S27) (A2 : Option Addr) (c2 : Nat) (A3 : Option Addr) (c3 : Nat) (m : Nat → Prop) (r : S44) (w : World), (∀ k, m k → k < w.heap.size) → Kd.V Kd.string 9 w 0 m (.slice A2 v.f2.length c2) v.f2 → Kd.V k27 27 w 0 m (.slice A3 v.f3.length c3) v.f3 → ofF k v = some r →
  Calls Tryd.prog 18 #[.agg #[.int .i64 v.f0, .string v.f1, .slice A2 v.f2.length c2, .slice A3 v.f3.length c3]] w (OPost w m r)
 | 0, v, A2, c2, A3, c3, m, r, w, hm, h2, h3, h => absurd h (by simp [ofF])
 | k + 1, ⟨t0, t1, t2, t3⟩, A2, c2, A3, c3, m, r, w, hm, h2, h3, h => by
  simp only [ofF, Option.map_eq_some_iff] at h;obtain ⟨l3, hl, rfl⟩ := h
  dsimp only at h2 h3 ⊢
  have HL := Sdq.mk hl;have H2 := Sdq.mk h2;have H3 := Sdq.mk h3;have N0 := Sdq.mk (show OS m w t0 t1 (.slice A2 t2.length c2) (.slice A3 t3.length c3) _ (.slice none 0 0) [] from OS.start);clear hl h2 h3;go_enter Tryd.func18, Tryd.ntmps18
  go_upto_region 2 with fail
  refine absP0 (fun W => OS m w t0 t1 (.slice A2 t2.length c2) (.slice A3 t3.length c3) W (.slice none 0 0) []) N0.out ?_;clear N0;intro w1 N1;have N1 := Sdq.mk N1
  go_wp2_with fail
  go_loopg [4] t3.length (fun kq s4 wc => ∃ (i : Nat) (lv : Value) (l : List S44), s4 = .int .i64 (i : Int) ∧ kq + i = t3.length ∧ Sdq (ofLF (ofF k) (t3.drop i) l = some l3) ∧ Sdq (OS m w t0 t1 (.slice A2 t2.length c2) (.slice A3 t3.length c3) wc lv l))
  case atStart => exact ⟨0, _, _, rfl, by omega, HL, N1⟩
  case round =>
   clear HL N1;obtain ⟨i, lv, l, rfl, hi, H, N⟩ := hrel
   obtain ⟨A1, n1, q1, rfl⟩ : ∃ A n c, lv = .slice A n c := by
    obtain ⟨A, c, e⟩ := Kd.N_slice N.out.2;exact ⟨_, _, _, e⟩
   obtain ⟨⟨x0, x1, x2, x3⟩, ⟨y0, y1, y2, y3⟩, ⟨z0, z1, z2, z3⟩, ⟨f0, f1, f2, f3⟩, f4⟩ := N.out.cells;have hlen := Sdq.mk (Kd.V_reads' H3.out).2.2.2.1
   cases gk with
   | succ gk =>
    have hlt : i < t3.length := by omega
    have h := H.out;clear H;rw [List.drop_eq_getElem_cons hlt] at h;simp only [ofLF] at h
    have hl1 : l.length < 1000000 := Classical.byContradiction fun hc => by
     rw [if_neg hc] at h
     simp at h
    rw [if_pos hl1] at h;obtain ⟨⟨u0, u1, u2, u3⟩, hv, h⟩ := Option.bind_eq_some_iff.mp h;have H := Sdq.mk h;have HV := Sdq.mk hv;have HL1 := Sdq.mk hl1;have hW := N.out.1.2.2.2.1;have V3 := Kd.V_below H3.out hW
    have q0 : (0 : Int) ≤ (i : Int) := by omega
    have q9 : (i : Int) < (t3.length : Int) := by omega
    obtain ⟨ad, B2, d2, B3, d3, rfl, g0, g1, g2, g3, -, -, -, -⟩ := at_T27 (Kd.V_reads' V3).2.2 (i : Int) q0 q9;obtain ⟨ce, -, hF, hcc⟩ := Kd.V_get V3 z27 (i : Int) q0 q9;obtain ⟨C2, e2, C3, e3, rfl, k2, F2, k3, F3⟩ := k27_openF hF;have j2 := hcc 2 _ rfl;have j3 := hcc 3 _ rfl;rw [add_field _ _ 2 (by omega)] at j2;rw [add_field _ _ 3 (by omega)] at j3
    injection Option.some.inj (j2.symm.trans g2) with a1 _ a2
    injection Option.some.inj (j3.symm.trans g3) with a3 _ a4
    subst a1 a2 a3 a4;clear hcc j2 j3 V3 hF
    have hx : rd_T27 t3 (i : Int) = t3[i] := by simp [rd_T27, hlt]
    rw [show t3.getD (i : Int).toNat z27 = t3[i] by simp [hlt]] at k2 F2 k3 F3;rw [hx, Int.toNat_natCast] at g0 g1 g2 g3;generalize t3[i] = x at HV k2 F2 k3 F3 g0 g1 g2 g3;clear hx h hv hl1;have E2 := Sdq.mk (show Kd.V Kd.string 9 wr 0 m (.slice C2 x.f2.length e2) x.f2 from Kd.V_mk k2 F2);have E3 := Sdq.mk (show Kd.V k27 27 wr 0 m (.slice C3 x.f3.length e3) x.f3 from Kd.V_mk k3 F3);clear k2 F2 k3 F3 hW;have q9' := eq_true q9;go_wp2;refine start_ (n := 12) (S := fun w' => w'.cell? ⟨w.heap.size + 2, 3, none⟩ = some (.slice A1 n1 q1) ∧ w'.cell? ⟨w.heap.size, 3, none⟩ = some (.slice (some ad) t3.length c3) ∧ w'.cell? (ad.add (i * 4)) = some (.int .i64 x.f0) ∧ w'.cell? ⟨(ad.add (i * 4)).block, (ad.add (i * 4)).off + 1, none⟩ = some (.string x.f1) ∧ w'.cell? ⟨(ad.add (i * 4)).block, (ad.add (i * 4)).off + 2, none⟩ = some (.slice C2 x.f2.length e2) ∧ w'.cell? ⟨(ad.add (i * 4)).block, (ad.add (i * 4)).off + 3, none⟩ = some (.slice C3 x.f3.length e3)) (ds := [9, 11]) #[false, false, false, false, false, false, false, false, false, false, false, false] (by kernel_rfl) rfl rfl ⟨z3, x3, g0, g1, g2, g3⟩ (fun hHeld => ?_);refine with_tabW of06.tab5 of06.bits5 (fun HT_ HW_ => ?_);have N := Sdq.mk N.out.drew;have E2 := Sdq.mk (Kd.V_drew E2.out);have E3 := Sdq.mk (Kd.V_drew E3.out);clear x0 x1 x2 x3 y0 y1 y2 y3 z0 z1 z2 z3 f0 f1 f2 f3 f4 g0 g1 g2 g3;generalize wr.drew = w3 at *;refine pure_ (i := 0) (N := some 19) (v := ?_) (a' := ?_) #[true, false, false, false, false, false, false, false, false, false, false, false] rfl rfl (any_of HT_.out (by kernel_rfl)) (fun _ _ _ h => h) (Or.inl ⟨by rfl, ?_⟩) ?_ ?_
    rotate_left
    ·intro w'
     go_simp
     with_reducible rfl
    rotate_left
    ·simp only [Act.put, List.setIfInBounds_toArray, List.set_cons_zero, List.set_cons_succ, i64_w, i32_w]
     rfl
    refine pure_ (i := 2) (N := some 21) (v := ?_) (a' := ?_) #[true, false, true, false, false, false, false, false, false, false, false, false] rfl rfl (any_of HT_.out (by kernel_rfl)) (fun _ _ _ h => h) (Or.inl ⟨by rfl, ?_⟩) ?_ ?_
    rotate_left
    ·intro w'
     go_simp
     with_reducible rfl
    rotate_left
    ·simp only [Act.put, List.setIfInBounds_toArray, List.set_cons_zero, List.set_cons_succ, i64_w, i32_w]
     rfl
    refine pure_ (i := 4) (N := some 23) (v := ?_) (a' := ?_) #[true, false, true, false, true, false, false, false, false, false, false, false] rfl rfl (any_of HT_.out (by kernel_rfl)) (fun _ _ _ h => h) (Or.inl ⟨by rfl, ?_⟩) ?_ ?_
    rotate_left
    ·intro w'
     go_simp
     with_reducible rfl
    rotate_left
    ·simp only [Act.put, List.setIfInBounds_toArray, List.set_cons_zero, List.set_cons_succ, i64_w, i32_w]
     rfl
    refine take_ (i := 1) (N := some 20) (v := ?_) (a' := ?_) #[true, true, true, false, true, false, false, false, false, false, false, false] rfl rfl (take_ofW HT_.out HW_.out (by kernel_rfl)) (fun _ _ _ h => h) (Or.inl ⟨by rfl, ?_⟩) hHeld ?_ ?_
    rotate_left
    ·rintro w' ⟨s0, s1, s2, s3, s4, s5⟩
     go_simp
     with_reducible rfl
    rotate_left
    ·simp only [Act.put, List.setIfInBounds_toArray, List.set_cons_zero, List.set_cons_succ, i64_w, i32_w]
     rfl
    refine take_ (i := 3) (N := some 22) (v := ?_) (a' := ?_) #[true, true, true, true, true, false, false, false, false, false, false, false] rfl rfl (take_ofW HT_.out HW_.out (by kernel_rfl)) (fun _ _ _ h => h) (Or.inl ⟨by rfl, ?_⟩) hHeld ?_ ?_
    rotate_left
    ·rintro w' ⟨s0, s1, s2, s3, s4, s5⟩
     go_simp
     with_reducible rfl
    rotate_left
    ·simp only [Act.put, List.setIfInBounds_toArray, List.set_cons_zero, List.set_cons_succ, i64_w, i32_w]
     rfl
    refine pure_ (i := 5) (N := some 24) (v := ?_) (a' := ?_) #[true, true, true, true, true, true, false, false, false, false, false, false] rfl rfl (any_of HT_.out (by kernel_rfl)) (fun _ _ _ h => h) (Or.inl ⟨by rfl, ?_⟩) ?_ ?_
    rotate_left
    ·intro w'
     go_simp
     with_reducible rfl
    rotate_left
    ·simp only [Act.put, List.setIfInBounds_toArray, List.set_cons_zero, List.set_cons_succ, i64_w, i32_w]
     rfl
    refine take_ (i := 6) (N := some 25) (v := ?_) (a' := ?_) #[true, true, true, true, true, true, true, false, false, false, false, false] rfl rfl (take_ofW HT_.out HW_.out (by kernel_rfl)) (fun _ _ _ h => h) (Or.inl ⟨by rfl, ?_⟩) hHeld ?_ ?_
    rotate_left
    ·rintro w' ⟨s0, s1, s2, s3, s4, s5⟩
     go_simp
     with_reducible rfl
    rotate_left
    ·simp only [Act.put, List.setIfInBounds_toArray, List.set_cons_zero, List.set_cons_succ, i64_w, i32_w]
     rfl
    refine one_ (i := 7) (N := some 26) #[true, true, true, true, true, true, true, true, false, false, false, false] rfl rfl (one_of HT_.out (by kernel_rfl)) (by decide) (fun K hK => ?_);refine goes_ Tryd.func18 (by kernel_rfl) rfl #[.agg #[.int .i64 x.f0, .string x.f1, .slice C2 x.f2.length e2, .slice C3 x.f3.length e3]] (by rfl) rfl rfl (by (try simp only [List.map_toArray, List.map_cons, List.map_nil]); first | done | rfl) ?_;have hws : w.heap.size ≤ w3.heap.size := Below.size N.out.1.2.2.2.1;have hms : w.heap.size + 3 ≤ w3.heap.size := Nat.succ_le_of_lt (blk_lt N.out.1.1);refine (of06_calls k x C2 e2 C3 e3 m ⟨u0, u1, u2, u3⟩ w3 (fun k hk => Nat.lt_of_lt_of_le (hm k hk) hws) E2.out E3.out HV.out).mono ?_;rintro e w4 ⟨v2, v3, rfl, r2, r3, hb⟩
    have hS := (show w4.cell? ⟨w.heap.size + 2, 3, none⟩ = _ ∧ w4.cell? ⟨w.heap.size, 3, none⟩ = _ ∧ w4.cell? (ad.add (i * 4)) = _ ∧ w4.cell? ⟨(ad.add (i * 4)).block, (ad.add (i * 4)).off + 1, none⟩ = _ ∧ w4.cell? ⟨(ad.add (i * 4)).block, (ad.add (i * 4)).off + 2, none⟩ = _ ∧ w4.cell? ⟨(ad.add (i * 4)).block, (ad.add (i * 4)).off + 3, none⟩ = _ from ⟨hdBq hb hHeld.1, hdBq hb hHeld.2.1, hdBq hb hHeld.2.2.1, hdBq hb hHeld.2.2.2.1, hdBq hb hHeld.2.2.2.2.1, hdBq hb hHeld.2.2.2.2.2⟩)
    refine ⟨_, rfl, ?_⟩;obtain ⟨D2, o2, rfl⟩ := Kd.V_slice r2;obtain ⟨D3, o3, rfl⟩ := Kd.N_slice r3;have hlw : ∀ k, (Value.slice A1 n1 q1).ownBlock = some k → k < w3.heap.size := Kd.N_lt N.out.2;have hlb : ∀ k, (Value.slice A1 n1 q1).ownBlock = some k → w.heap.size + 3 ≤ k := Kd.N_base N.out.2;have N4 := Sdq.mk (N.out.below hb);have hs4 := hb.size;have r2 := Sdq.mk (Kd.V_mono (ok' := fun k => (m k ∨ w.heap.size + 3 ≤ k) ∧ some k ≠ (Value.slice A1 n1 q1).ownBlock) r2 (fun k hk => ⟨hk.1.imp id (fun h => by omega), fun e => by have := hlw k e.symm; have := hlb k e.symm; exact hk.1.elim (fun h => by have := hm k h; omega) (fun h => by omega)⟩));have r3 := Sdq.mk (Kd.N_mono (ok' := fun k => (m k ∨ w.heap.size + 3 ≤ k) ∧ some k ≠ (Value.slice A1 n1 q1).ownBlock) r3 (fun k hk => ⟨hk.imp id (fun h => by omega), fun e => by have := hlw k e.symm; have := hlb k e.symm; exact hk.elim (fun h => by have := hm k h; omega) (fun h => by omega)⟩));clear N hb E2 E3 HV hlw hlb;refine hK.out _ _ hS (fun hHeld => ?_);clear hS;clear hK K;refine norm_ (a' := ?_) ?_ ?_
    rotate_left
    ·show Act.put _ (some 26) _ = _
     simp only [Act.put, List.setIfInBounds_toArray, List.set_cons_zero, List.set_cons_succ, i64_w, i32_w]
     rfl
    refine one_ (i := 8) (N := some 27) #[true, true, true, true, true, true, true, true, true, false, false, false] rfl rfl (one_of HT_.out (by kernel_rfl)) (by decide) (fun K hK => ?_);refine value_ (w1 := ?_) (v := ?_) (by rfl) rfl ?_ ?_
    rotate_left 2
    ·go_simp
     constructor
     ·rfl
     ·rfl
    refine hK.out _ _ ⟨held_alloc hHeld.1, held_alloc hHeld.2.1, held_alloc hHeld.2.2.1, held_alloc hHeld.2.2.2.1, held_alloc hHeld.2.2.2.2.1, held_alloc hHeld.2.2.2.2.2⟩ (fun hHeld => ?_);clear hK K;refine norm_ (a' := ?_) ?_ ?_
    rotate_left
    ·show Act.put _ (some 27) _ = _
     simp only [Act.put, List.setIfInBounds_toArray, List.set_cons_zero, List.set_cons_succ, i64_w, i32_w]
     rfl
    refine last_ (i := 9) (N := some 28) #[true, true, true, true, true, true, true, true, true, true, false, false] rfl rfl (one_of HT_.out (by kernel_rfl)) (by decide) (fun K hK => ?_);refine Kd.N_append_step k44 (w0 := w4) (w.heap.size + 3) (by rfl) (.tmp 20) (.tmp 27) 42 44 (.agg #[(.int .i64 0), (.string ⟨#[]⟩), (.slice none 0 0), (.slice none 0 0)]) 72 rfl Tryd.underlying42 info44 rfl (by decide) (by omega) (.slice A1 n1 q1) l (⟨u0, u1, u2, u3⟩ : S44) [.int .i64 u0, .string u1, .slice D2 u2.length o2, .slice D3 u3.length o3] (fun k => m k ∨ w.heap.size + 3 ≤ k) (fun k => (m k ∨ w.heap.size + 3 ≤ k) ∧ some k ≠ (Value.slice A1 n1 q1).ownBlock) rfl rfl ?aP (fun _ hk => hk) (fun k hk => .inr (by omega)) N4.out.2 (Below.refl _ _) (by omega) (by have := HL1.out; omega) ?_
    (case aP => exact (k44_mkF _ _ (⟨u0, u1, u2, u3⟩ : S44) (Kd.V_reads' r2.out).2.1 (Kd.V_F r2.out) (Kd.N_reads' r3.out).2.1 (Kd.N_F r3.out)))
    intro v5 w5 ho _ hg _;obtain ⟨D5, o5, rfl⟩ := Kd.N_slice ho;have NG := Sdq.mk (N4.out.grown hg);have NF := Sdq.mk (OS.put NG.out hm ho);clear N4 r2 r3 ho hg
    obtain ⟨z3, f4⟩ : w5.cell? ⟨w.heap.size + 2, 3, none⟩ = some (.slice A1 n1 q1) ∧ w5.frozen? ⟨w.heap.size + 2, 3, none⟩ = false := ⟨Ctx.blk NG.out.1 3 rfl, Ctx.frz NG.out.1 3⟩
    clear NG;refine hK.out _ _ ?_;clear hK K;refine norm_ (a' := ?_) ?_ ?_
    rotate_left
    ·show Act.put _ (some 28) _ = _
     simp only [Act.put, List.setIfInBounds_toArray, List.set_cons_zero, List.set_cons_succ, i64_w, i32_w]
     rfl
    refine pure_ (i := 10) (N := some 29) (v := ?_) (a' := ?_) #[true, true, true, true, true, true, true, true, true, true, true, false] rfl rfl (any_of HT_.out (by kernel_rfl)) (fun _ _ _ h => h) (Or.inl ⟨by rfl, ?_⟩) ?_ ?_
    rotate_left
    ·intro w'
     go_simp
     with_reducible rfl
    rotate_left
    ·simp only [Act.put, List.setIfInBounds_toArray, List.set_cons_zero, List.set_cons_succ, i64_w, i32_w]
     rfl
    refine last_ (i := 11) (N := none) #[true, true, true, true, true, true, true, true, true, true, true, true] rfl rfl (one_of HT_.out (by kernel_rfl)) (by decide) (fun K hK => ?_);refine skip_ (w1 := ?_) (by rfl) rfl ?_ ?_
    rotate_left
    ·go_simp
     rfl
    refine hK.out _ _ ?_;clear hK K;refine done_ (done_of HT_.out (by kernel_rfl)) ?_;go_wp2
    go_roundg gk
    case measure => omega
    exact ⟨i + 1, .slice D5 (l.length + 1) o5, _, by rw [show wrap64 ((i : Int) + 1) = ((i + 1 : Nat) : Int) by have := hlen.out; unfold wrap64; omega], by omega, H, by have e := NF.out; rw [List.length_append] at e; exact ⟨e⟩⟩
   | zero =>
    have hge : t3.length ≤ i := by omega
    have h := H.out;rw [List.drop_eq_nil_of_le hge] at h;obtain rfl := Option.some.inj (show some l = some l3 from h);clear H h;have V2 := Sdq.mk (Kd.V_below H2.out N.out.1.2.2.2.1)
    go_wp2_with fail
    have F := N.out.fin hm V2.out _ rfl;clear N x0 x1 x2 x3 y0 y1 y2 y3 z0 z1 z2 z3 f0 f1 f2 f3 f4;generalize World.setCell _ _ _ = wf at F ⊢;obtain ⟨fP, d0, d1, d2, d3⟩ := F;exact bodyPost_ret (v := .agg #[.int .i64 t0, .string t1, .slice A2 t2.length c2, .slice A1 n1 q1]) (by simp [results, Tryd.results18, go_sem, d0, d1, d2, d3]) rfl fP
end Go.Proofs.YteighppcdpaekaaDoor.P
end
section
namespace Go.Proofs.YteighppcdpaekaaDoor.P
open Go.RowKit Go.Proofs.YteighppcdpaekaaDoorW.PrintWords Go.Proofs.YteighppcdpaekaaDoorW.PrintLast Go.Proofs.YteighppcdpaekaaDoorW.PrintMore
attribute [local go_sem] max2_int min2_int max_two min_two max_three min_three max_four min_four
set_option linter.unusedVariables false
set_option linter.unusedSimpArgs false
structure MS (w : World) (P0_ : Nat → Prop) (wc : World) (kv lv kv1 lv1 : Value) (ks : List ByteArray) (ls : List S27) : Prop where
 bel : Below w.heap.size w wc
 zb : wc.heap[w.heap.size]? = some (.cells #[.int .i64 0, .string ⟨#[]⟩, .slice none 0 0, .slice none 0 0] 27 (0, 0))
 vb : wc.heap[w.heap.size + 1]? = some (.cells #[.int .i64 6, .string ⟨#[]⟩, kv1, lv1] 27 (0, 0))
 own2 : Kd.R Kd.string 9 wc (w.heap.size + 2) (fun _ => True) kv ks
 own : Kd.N k27 27 wc (w.heap.size + 2) (fun k => (P0_ k ∧ k < w.heap.size ∨ w.heap.size + 2 ≤ k) ∧ some k ≠ kv.ownBlock) lv ls
section
variable {w : World} {P0_ : Nat → Prop} {wc w2 : World} {kv lv kv1 lv1 v1 : Value} {ks : List ByteArray} {ls : List S27}
theorem MS.step (h : MS w P0_ wc kv lv kv1 lv1 ks ls) (hb : Below wc.heap.size wc w2) : MS w P0_ w2 kv lv kv1 lv1 ks ls :=
 ⟨below_step h.bel hb, (hb.block _ (blk_lt h.zb)).trans h.zb, (hb.block _ (blk_lt h.vb)).trans h.vb, Kd.R_below h.own2 hb, Kd.N_below h.own hb⟩
theorem MS.alloc (h : MS w P0_ wc kv lv kv1 lv1 ks ls) (x : Obj) : MS w P0_ (wc.alloc x) kv lv kv1 lv1 ks ls := h.step (bal (Below.refl _ _) x)
theorem MS.drew (h : MS w P0_ wc kv lv kv1 lv1 ks ls) : MS w P0_ wc.drew kv lv kv1 lv1 ks ls := h.step (below_drew (Below.refl _ _))
theorem MS.appK (h : MS w P0_ wc kv lv kv1 lv1 ks ls) {key : ByteArray} (hR : Kd.R Kd.string 9 w2 (w.heap.size + 2) (fun _ => True) v1 (ks ++ [key])) (hg : wc.grownBy w2 kv.ownBlock) (hat : v1.ownBlock = kv.ownBlock ∨ ∃ b, v1.ownBlock = some b ∧ wc.heap.size ≤ b) :
  MS w P0_ w2 v1 lv kv1 lv1 (ks ++ [key]) ls := by
 have hne : ∀ i, i < w.heap.size + 2 → some i ≠ kv.ownBlock := fun i hi e => by have := Kd.R_base h.own2 i e.symm; omega
 have h1 := blk_lt h.vb;refine ⟨h.bel.grown hg (by omega) (fun k hk => by have := Kd.R_base h.own2 k hk; omega), blk_grown h.zb hg (hne _ (by omega)), blk_grown h.vb hg (hne _ (by omega)), hR, Kd.N_after h.own hg hat⟩
theorem MS.appL (h : MS w P0_ wc kv lv kv1 lv1 ks ls) {v : S27} (hR : Kd.N k27 27 w2 (w.heap.size + 2) (fun k => (P0_ k ∧ k < w.heap.size ∨ w.heap.size + 2 ≤ k) ∧ some k ≠ kv.ownBlock) v1 (ls ++ [v])) (hg : wc.grownBy w2 lv.ownBlock) :
  MS w P0_ w2 kv v1 kv1 lv1 ks (ls ++ [v]) := by
 have hne : ∀ i, i < w.heap.size + 2 → some i ≠ lv.ownBlock := fun i hi e => by have := Kd.N_base h.own i e.symm; omega
 have h1 := blk_lt h.vb;refine ⟨h.bel.grown hg (by omega) (fun k hk => by have := Kd.N_base h.own k hk; omega), blk_grown h.zb hg (hne _ (by omega)), blk_grown h.vb hg (hne _ (by omega)), ?_, hR⟩;exact Kd.R_mono (Kd.R_grown (Kd.R_tight rfl h.own2) hg (fun k hk e => (h.own.1 k e.symm).2 hk)) (fun _ _ => trivial)
theorem MS.setK (h : MS w P0_ wc kv lv kv1 lv1 ks ls) (x : Value) : MS w P0_ (wc.setCell ⟨w.heap.size + 1, 2, none⟩ x) kv lv x lv1 ks ls := by
 have h1 := blk_lt h.vb;refine ⟨bstq h.bel (Nat.le_succ _), blk_far h.zb (p := ⟨w.heap.size + 1, 2, none⟩) (by show w.heap.size ≠ w.heap.size + 1; omega) x, blk_put h.vb 2 x rfl, ?_, ?_⟩
 ·exact Kd.R_mono (Kd.R_far (p := ⟨w.heap.size + 1, 2, none⟩) (Kd.R_bound h.own2) (fun k hk => by have h2 := hk.2.1; show k ≠ w.heap.size + 1; omega) x) (fun _ _ => trivial)
 ·exact Kd.N_far h.own (p := ⟨w.heap.size + 1, 2, none⟩) (fun k hk => by show k ≠ w.heap.size + 1; omega) x
theorem MS.setL (h : MS w P0_ wc kv lv kv1 lv1 ks ls) (x : Value) : MS w P0_ (wc.setCell ⟨w.heap.size + 1, 3, none⟩ x) kv lv kv1 x ks ls := by
 have h1 := blk_lt h.vb;refine ⟨bstq h.bel (Nat.le_succ _), blk_far h.zb (p := ⟨w.heap.size + 1, 3, none⟩) (by show w.heap.size ≠ w.heap.size + 1; omega) x, blk_put h.vb 3 x rfl, ?_, ?_⟩
 ·exact Kd.R_mono (Kd.R_far (p := ⟨w.heap.size + 1, 3, none⟩) (Kd.R_bound h.own2) (fun k hk => by have h2 := hk.2.1; show k ≠ w.heap.size + 1; omega) x) (fun _ _ => trivial)
 ·exact Kd.N_far h.own (p := ⟨w.heap.size + 1, 3, none⟩) (fun k hk => by show k ≠ w.heap.size + 1; omega) x
end
theorem MS.stored {w : World} {P0_ : Nat → Prop} {wc : World} {kv lv kv1 lv1 : Value} {ks : List ByteArray} {ls : List S27} (h : MS w P0_ wc kv lv kv1 lv1 ks ls) (u0 u1 u2 u3 : Value) :
  let wf := (((wc.setCell ⟨w.heap.size, 0, none⟩ u0).setCell ⟨w.heap.size, 1, none⟩ u1).setCell ⟨w.heap.size, 2, none⟩ u2).setCell ⟨w.heap.size, 3, none⟩ u3
  wf.heap[w.heap.size]? = some (.cells #[u0, u1, u2, u3] 27 (0, 0)) ∧ Below w.heap.size w wf ∧ Kd.V Kd.string 9 wf w.heap.size (fun k => P0_ k ∨ w.heap.size ≤ k) kv ks ∧ Kd.V k27 27 wf w.heap.size (fun k => P0_ k ∨ w.heap.size ≤ k) lv ls := by
 have hst : ∀ (W : World) (j : Nat) (u : Value), Kd.R Kd.string 9 W (w.heap.size + 2) (fun _ => True) kv ks → Kd.R Kd.string 9 (W.setCell ⟨w.heap.size, j, none⟩ u) (w.heap.size + 2) (fun _ => True) kv ks := fun W j u hR =>
  Kd.R_mono (Kd.R_far (p := ⟨w.heap.size, j, none⟩) (Kd.R_bound hR) (fun k hk => by have h2 := hk.2.1; show k ≠ w.heap.size; omega) u) (fun _ _ => trivial)
 have hst2 : ∀ (W : World) (j : Nat) (u : Value), Kd.N k27 27 W (w.heap.size + 2) (fun k => (P0_ k ∧ k < w.heap.size ∨ w.heap.size + 2 ≤ k) ∧ some k ≠ kv.ownBlock) lv ls → Kd.N k27 27 (W.setCell ⟨w.heap.size, j, none⟩ u) (w.heap.size + 2) (fun k => (P0_ k ∧ k < w.heap.size ∨ w.heap.size + 2 ≤ k) ∧ some k ≠ kv.ownBlock) lv ls := fun W j u hN =>
  Kd.N_far hN (p := ⟨w.heap.size, j, none⟩) (fun k hk => by have := hk.1; show k ≠ w.heap.size; omega) u
 refine ⟨blk_put (blk_put (blk_put (blk_put h.zb 0 u0 rfl) 1 u1 rfl) 2 u2 rfl) 3 u3 rfl, bstq (bstq (bstq (bstq h.bel (Nat.le_refl _)) (Nat.le_refl _)) (Nat.le_refl _)) (Nat.le_refl _), ?_, ?_⟩
 ·exact Kd.V_mono (Kd.R_V (Kd.R_mono (Kd.R_bound (hst _ _ _ (hst _ _ _ (hst _ _ _ (hst _ _ _ h.own2))))) (ok' := fun k => w.heap.size + 2 ≤ k) (fun k hk => hk.2.1))) (fun k hk => .inr (by omega))
 ·exact Kd.V_mono (Kd.N_V (hst2 _ _ _ (hst2 _ _ _ (hst2 _ _ _ (hst2 _ _ _ h.own))))) (fun k hk => hk.1.elim (fun h => .inl h.1) (fun h => .inr (by omega)))
structure MT (w : World) (P0_ : Nat → Prop) (pb : Nat) (p0 p1 p2 p3 p4 : Value) (wc : World) (kv lv kv1 lv1 : Value) (ks : List ByteArray) (ls : List S27) : Prop where
 ms : MS w P0_ wc kv lv kv1 lv1 ks ls
 pbk : wc.heap[pb]? = some (.cells #[p0, p1, p2, p3, p4] 30 (0, 0))
 ge : w.heap.size + 2 ≤ pb
section
variable {w : World} {P0_ : Nat → Prop} {pb : Nat} {p0 p1 p2 p3 p4 : Value} {wc w2 : World} {kv lv kv1 lv1 v1 : Value} {ks : List ByteArray} {ls : List S27}
theorem MT.step (h : MT w P0_ pb p0 p1 p2 p3 p4 wc kv lv kv1 lv1 ks ls) (hb : Below wc.heap.size wc w2) : MT w P0_ pb p0 p1 p2 p3 p4 w2 kv lv kv1 lv1 ks ls :=
 ⟨h.ms.step hb, (hb.block _ (blk_lt h.pbk)).trans h.pbk, h.ge⟩
theorem MT.alloc (h : MT w P0_ pb p0 p1 p2 p3 p4 wc kv lv kv1 lv1 ks ls) (x : Obj) : MT w P0_ pb p0 p1 p2 p3 p4 (wc.alloc x) kv lv kv1 lv1 ks ls := h.step (bal (Below.refl _ _) x)
theorem MT.drew (h : MT w P0_ pb p0 p1 p2 p3 p4 wc kv lv kv1 lv1 ks ls) : MT w P0_ pb p0 p1 p2 p3 p4 wc.drew kv lv kv1 lv1 ks ls := h.step (below_drew (Below.refl _ _))
theorem MT.appK (h : MT w P0_ pb p0 p1 p2 p3 p4 wc kv lv kv1 lv1 ks ls) {key : ByteArray} (hR : Kd.R Kd.string 9 w2 (w.heap.size + 2) (fun _ => True) v1 (ks ++ [key])) (hg : wc.grownBy w2 kv.ownBlock) (hat : v1.ownBlock = kv.ownBlock ∨ ∃ b, v1.ownBlock = some b ∧ wc.heap.size ≤ b) :
  MT w P0_ pb p0 p1 p2 p3 p4 w2 v1 lv kv1 lv1 (ks ++ [key]) ls :=
 ⟨h.ms.appK hR hg hat, blk_grown h.pbk hg (Kd.R_ne h.ms.own2 h.pbk (by decide)), h.ge⟩
theorem MT.appL (h : MT w P0_ pb p0 p1 p2 p3 p4 wc kv lv kv1 lv1 ks ls) {v : S27} (hR : Kd.N k27 27 w2 (w.heap.size + 2) (fun k => (P0_ k ∧ k < w.heap.size ∨ w.heap.size + 2 ≤ k) ∧ some k ≠ kv.ownBlock) v1 (ls ++ [v])) (hg : wc.grownBy w2 lv.ownBlock) :
  MT w P0_ pb p0 p1 p2 p3 p4 w2 kv v1 kv1 lv1 ks (ls ++ [v]) :=
 ⟨h.ms.appL hR hg, blk_grown h.pbk hg (Kd.N_ne h.ms.own h.pbk (by decide)), h.ge⟩
theorem MT.setK (h : MT w P0_ pb p0 p1 p2 p3 p4 wc kv lv kv1 lv1 ks ls) (x : Value) : MT w P0_ pb p0 p1 p2 p3 p4 (wc.setCell ⟨w.heap.size + 1, 2, none⟩ x) kv lv x lv1 ks ls :=
 ⟨h.ms.setK x, blk_far h.pbk (p := ⟨w.heap.size + 1, 2, none⟩) (by have := h.ge; show pb ≠ w.heap.size + 1; omega) x, h.ge⟩
theorem MT.setL (h : MT w P0_ pb p0 p1 p2 p3 p4 wc kv lv kv1 lv1 ks ls) (x : Value) : MT w P0_ pb p0 p1 p2 p3 p4 (wc.setCell ⟨w.heap.size + 1, 3, none⟩ x) kv lv kv1 x ks ls :=
 ⟨h.ms.setL x, blk_far h.pbk (p := ⟨w.heap.size + 1, 3, none⟩) (by have := h.ge; show pb ≠ w.heap.size + 1; omega) x, h.ge⟩
theorem MT.cells (h : MT w P0_ pb p0 p1 p2 p3 p4 wc kv lv kv1 lv1 ks ls) :
  (wc.cell? ⟨w.heap.size + 1, 2, none⟩ = some kv1 ∧ wc.cell? ⟨w.heap.size + 1, 3, none⟩ = some lv1) ∧ (wc.frozen? ⟨w.heap.size + 1, 2, none⟩ = false ∧ wc.frozen? ⟨w.heap.size + 1, 3, none⟩ = false) ∧
  (wc.cell? ⟨pb, 0, none⟩ = some p0 ∧ wc.cell? ⟨pb, 1, none⟩ = some p1 ∧ wc.cell? ⟨pb, 2, none⟩ = some p2 ∧ wc.cell? ⟨pb, 3, none⟩ = some p3 ∧ wc.cell? ⟨pb, 4, none⟩ = some p4) :=
 ⟨⟨bceq h.ms.vb 2, bceq h.ms.vb 3⟩, ⟨bfz h.ms.vb 2, bfz h.ms.vb 3⟩, bceq h.pbk 0, bceq h.pbk 1, bceq h.pbk 2, bceq h.pbk 3, bceq h.pbk 4⟩
theorem MT.held (h : MT w P0_ pb p0 p1 p2 p3 p4 wc kv lv kv1 lv1 ks ls) :
  wc.cell? ⟨w.heap.size + 1, 2, none⟩ = some kv1 ∧ wc.cell? ⟨w.heap.size + 1, 3, none⟩ = some lv1 ∧ wc.cell? ⟨pb, 0, none⟩ = some p0 ∧ wc.cell? ⟨pb, 1, none⟩ = some p1 ∧ wc.cell? ⟨pb, 2, none⟩ = some p2 ∧ wc.cell? ⟨pb, 3, none⟩ = some p3 ∧ wc.cell? ⟨pb, 4, none⟩ = some p4 :=
 ⟨h.cells.1.1, h.cells.1.2, h.cells.2.2⟩
theorem MT.okp (h : MT w P0_ pb p0 p1 p2 p3 p4 wc kv lv kv1 lv1 ks ls) : ∀ k, (P0_ k ∧ k < w.heap.size) → ((P0_ k ∧ k < w.heap.size ∨ w.heap.size + 2 ≤ k) ∧ some k ≠ kv.ownBlock) ∧ some k ≠ lv.ownBlock :=
 fun k hk => ⟨⟨.inl hk, fun e => by have := Kd.R_base h.ms.own2 k e.symm; omega⟩, fun e => by have := Kd.N_base h.ms.own k e.symm; omega⟩
theorem MT.okb (h : MT w P0_ pb p0 p1 p2 p3 p4 wc kv lv kv1 lv1 ks ls) {b : Nat} {cells : Array Value} (hb : w.heap.size + 2 ≤ b) (hc : wc.heap[b]? = some (.cells cells 27 (0, 0))) (hl : some b ≠ lv.ownBlock) :
  ∀ k, (k = b ∨ P0_ k ∧ k < w.heap.size) → ((P0_ k ∧ k < w.heap.size ∨ w.heap.size + 2 ≤ k) ∧ some k ≠ kv.ownBlock) ∧ some k ≠ lv.ownBlock := by
 rintro k (rfl | hk)
 ·exact ⟨⟨.inr hb, Kd.R_ne h.ms.own2 hc (by decide)⟩, hl⟩
 ·exact h.okp k hk
end
end Go.Proofs.YteighppcdpaekaaDoor.P
end
section
namespace Go.Proofs.YteighppcdpaekaaDoor.P
open Go.RowKit Go.Proofs.YteighppcdpaekaaDoorW.PrintWords Go.Proofs.YteighppcdpaekaaDoorW.PrintLast Go.Proofs.YteighppcdpaekaaDoorW.PrintMore
def Kv {α : Type} (d : Kd α) (ok : Nat → Prop) (w : World) (v : Value) (x : α) : Prop := ∃ cs : List Value, v = .agg cs.toArray ∧ Kd.FK d w ok x cs
section
variable {α : Type} {d : Kd α} {ok ok' : Nat → Prop} {w w' : World} {v : Value} {x : α}
theorem Kv.below (h : Kv d ok w v x) (hb : Below w.heap.size w w') : Kv d ok w' v x := by
 obtain ⟨cs, rfl, hk⟩ := h;exact ⟨cs, rfl, Kd.FK_below hk hb⟩
theorem Kv.alloc (h : Kv d ok w v x) (o : Obj) : Kv d ok (w.alloc o) v x := h.below (bal (Below.refl _ _) o)
theorem Kv.mono (h : Kv d ok w v x) (hok : ∀ k, ok k → ok' k) : Kv d ok' w v x := by
 obtain ⟨cs, rfl, hk⟩ := h;exact ⟨cs, rfl, Kd.FK_mono hk hok⟩
theorem Kv.far (h : Kv d ok w v x) {p : Addr} (hok : ∀ k, ok k → k ≠ p.block) (u : Value) : Kv d ok (w.setCell p u) v x := by
 obtain ⟨cs, rfl, hk⟩ := h;exact ⟨cs, rfl, Kd.FK_step hk (fun k hk _ => Below.heap_setCell w p u k (hok k hk))⟩
def uK (d : Kd α) (ok : Nat → Prop) (v : Value) (x : α) : UpP := ⟨fun W => Kv d ok W v x, fun _ _ h hb => h.below hb⟩
def uKd (d : Kd α) (ok : Nat → Prop) (x : α) (v : Value) : UpP := ⟨fun W => Kv d ok W v x, fun _ _ h hb => h.below hb⟩
end
theorem Kv.open27 {ok : Nat → Prop} {w : World} {v : Value} {s : S27} (h : Kv k27 ok w v s) : ∃ A2 c2 A3 c3, v = .agg #[.int .i64 s.f0, .string s.f1, .slice A2 s.f2.length c2, .slice A3 s.f3.length c3] ∧ s.f2.length ≤ c2 ∧ Kd.F Kd.string w ok A2 s.f2.length s.f2 ∧ s.f3.length ≤ c3 ∧ Kd.F k27 w ok A3 s.f3.length s.f3 := by
 obtain ⟨cs, rfl, hk⟩ := h;obtain ⟨A2, c2, A3, c3, rfl, h⟩ := k27_openF hk;exact ⟨A2, c2, A3, c3, rfl, h⟩
theorem Kv.mk27 {ok : Nat → Prop} {w : World} (s : S27) {A2 A3 : Option Addr} {c2 c3 : Nat} (l2 : s.f2.length ≤ c2) (g2 : Kd.F Kd.string w ok A2 s.f2.length s.f2) (l3 : s.f3.length ≤ c3) (g3 : Kd.F k27 w ok A3 s.f3.length s.f3) : Kv k27 ok w (.agg #[.int .i64 s.f0, .string s.f1, .slice A2 s.f2.length c2, .slice A3 s.f3.length c3]) s := ⟨_, rfl, k27_mkF w ok s l2 g2 l3 g3⟩
theorem Kv.open44 {ok : Nat → Prop} {w : World} {v : Value} {s : S44} (h : Kv k44 ok w v s) : ∃ A2 c2 A3 c3, v = .agg #[.int .i64 s.f0, .string s.f1, .slice A2 s.f2.length c2, .slice A3 s.f3.length c3] ∧ s.f2.length ≤ c2 ∧ Kd.F Kd.string w ok A2 s.f2.length s.f2 ∧ s.f3.length ≤ c3 ∧ Kd.F k44 w ok A3 s.f3.length s.f3 := by
 obtain ⟨cs, rfl, hk⟩ := h;obtain ⟨A2, c2, A3, c3, rfl, h⟩ := k44_openF hk;exact ⟨A2, c2, A3, c3, rfl, h⟩
theorem Kv.mk44 {ok : Nat → Prop} {w : World} (s : S44) {A2 A3 : Option Addr} {c2 c3 : Nat} (l2 : s.f2.length ≤ c2) (g2 : Kd.F Kd.string w ok A2 s.f2.length s.f2) (l3 : s.f3.length ≤ c3) (g3 : Kd.F k44 w ok A3 s.f3.length s.f3) : Kv k44 ok w (.agg #[.int .i64 s.f0, .string s.f1, .slice A2 s.f2.length c2, .slice A3 s.f3.length c3]) s := ⟨_, rfl, k44_mkF w ok s l2 g2 l3 g3⟩
def KPost {α : Type} (d : Kd α) (ok : Nat → Prop) (w : World) (x : α) (e : Ending) (w' : World) : Prop := ∃ v, e = .returned v ∧ Kv d ok w' v x ∧ Below w.heap.size w w'
theorem Kv.bound {α : Type} {d : Kd α} {ok : Nat → Prop} {w : World} {v : Value} {x : α} (h : Kv d ok w v x) : Kv d (fun k => ok k ∧ k < w.heap.size) w v x := by
 obtain ⟨cs, rfl, hk⟩ := h;exact ⟨cs, rfl, Kd.FK_bound hk⟩
section
variable {ok : Nat → Prop}
theorem ofJ (k : Nat) (v : Value) (x : S27) (y : S44) (w : World) (hok : ∀ k, w.heap.size ≤ k → ok k) (h : Kv k27 ok w v x) (ht : ofF k x = some y) : Calls Tryd.prog 18 #[v] w (KPost k44 ok w y) := by
 obtain ⟨A2, c2, A3, c3, rfl, l2, g2, l3, g3⟩ := h.open27
 refine (of06_calls k x A2 c2 A3 c3 (fun k => ok k ∧ k < w.heap.size) y w (fun _ h => h.2) (Kd.V_mk l2 (Kd.F_bound g2)) (Kd.V_mk l3 (Kd.F_bound g3)) ht).mono fun e w' h => ?_
 obtain ⟨v2, v3, rfl, h2, h3, hb⟩ := h;replace h2 := Kd.V_mono (ok' := ok) h2 (fun k hk => hk.1.elim (fun h => h.1) (hok k));replace h3 := Kd.N_mono (ok' := ok) h3 (fun k hk => hk.elim (fun h => h.1) (hok k));obtain ⟨A2, c2, rfl⟩ := Kd.V_slice h2;obtain ⟨A3, c3, rfl⟩ := Kd.N_slice h3;exact ⟨_, rfl, Kv.mk44 y (Kd.V_reads' h2).2.1 (Kd.V_F h2) (Kd.N_reads' h3).2.1 (Kd.F_mono (Kd.N_F h3) (fun _ h => h)), hb⟩
end
end Go.Proofs.YteighppcdpaekaaDoor.P
end
section
namespace Go.Proofs.YteighppcdpaekaaDoor.P
open Go.RowKit Go.Proofs.YteighppcdpaekaaDoorW.PrintWords Go.Proofs.YteighppcdpaekaaDoorW.PrintLast Go.Proofs.YteighppcdpaekaaDoorW.PrintMore
set_option linter.unusedVariables false
set_option linter.unusedSimpArgs false
theorem q30 {O : Nat → Prop} {w : World} {v : Value} {k : ByteArray} {s : S27} {A2 A3 : Option Addr} {c2 c3 : Nat} (l2 : s.f2.length ≤ c2) (g2 : Kd.F Kd.string w O A2 s.f2.length s.f2) (l3 : s.f3.length ≤ c3) (g3 : Kd.F k27 w O A3 s.f3.length s.f3) (hv : v = .agg #[.string k, .int .i64 s.f0, .string s.f1, .slice A2 s.f2.length c2, .slice A3 s.f3.length c3]) : Kv k30 O w v ⟨k, s⟩ := ⟨_, hv, k30_mkF w O ⟨k, s⟩ l2 g2 l3 g3⟩
end Go.Proofs.YteighppcdpaekaaDoor.P
end
section
namespace Go.Proofs.YteighppcdpaekaaDoor.P
open Go.RowKit Go.Proofs.YteighppcdpaekaaDoorW.PrintWords Go.Proofs.YteighppcdpaekaaDoorW.PrintLast Go.Proofs.YteighppcdpaekaaDoorW.PrintMore
attribute [local go_sem] max2_int min2_int max_two min_two max_three min_three max_four min_four
set_option linter.unusedVariables false
set_option linter.unusedSimpArgs false
def rpc_message.f (a0 : Int) : Option (ByteArray) := if a0 = (-32700) then (some (⟨#[112, 97, 114, 115, 101, 32, 101, 114, 114, 111, 114]⟩ : ByteArray)) else (if a0 = (-32600) then (some (⟨#[105, 110, 118, 97, 108, 105, 100, 32, 114, 101, 113, 117, 101, 115, 116]⟩ : ByteArray)) else (if a0 = (-32601) then (some (⟨#[117, 110, 107, 110, 111, 119, 110, 32, 109, 101, 116, 104, 111, 100]⟩ : ByteArray)) else (if a0 = (-32602) then (some (⟨#[105, 110, 118, 97, 108, 105, 100, 32, 112, 97, 114, 97, 109, 101, 116, 101, 114, 115]⟩ : ByteArray)) else (if a0 = (-32002) then (some (⟨#[110, 111, 116, 32, 105, 110, 105, 116, 105, 97, 108, 105, 122, 101, 100]⟩ : ByteArray)) else (some (⟨#[101, 114, 114, 111, 114]⟩ : ByteArray))))))
set_option maxHeartbeats 8000000 in
set_option maxRecDepth 100000 in
theorem rpc_message.calls (a0 : Int) (r : ByteArray) (w : World) (h : rpc_message.f a0 = some r) :
  Calls Tryd.prog 51 #[.int .i64 a0] w fun e w' => e = .returned (.string r) ∧ Drawn0 w w' := by
 have H : (if a0 = (-32700) then (some (⟨#[112, 97, 114, 115, 101, 32, 101, 114, 114, 111, 114]⟩ : ByteArray)) else (if a0 = (-32600) then (some (⟨#[105, 110, 118, 97, 108, 105, 100, 32, 114, 101, 113, 117, 101, 115, 116]⟩ : ByteArray)) else (if a0 = (-32601) then (some (⟨#[117, 110, 107, 110, 111, 119, 110, 32, 109, 101, 116, 104, 111, 100]⟩ : ByteArray)) else (if a0 = (-32602) then (some (⟨#[105, 110, 118, 97, 108, 105, 100, 32, 112, 97, 114, 97, 109, 101, 116, 101, 114, 115]⟩ : ByteArray)) else (if a0 = (-32002) then (some (⟨#[110, 111, 116, 32, 105, 110, 105, 116, 105, 97, 108, 105, 122, 101, 100]⟩ : ByteArray)) else (some (⟨#[101, 114, 114, 111, 114]⟩ : ByteArray))))))) = some r := h;clear h
 by_cases c2 : a0 = (-32700)
 ·rw [if_pos c2] at H
  have c2b0 : (a0 == (-32700)) = true := beq_iff_eq.mpr c2;have c2b1 : (a0 != (-32700)) = false := bne_eq_false_iff_eq.mpr c2;clear c2;obtain rfl := Option.some.inj H;go_enter Tryd.func51, Tryd.ntmps51;go_wp2;go_ret;exact ⟨by first | rfl | (simp; done) | (simp [*]; done), by repeat (first | exact Drawn0.refl _ | apply Drawn0.step)⟩
 ·rw [if_neg c2] at H
  have c2b0 : (a0 == (-32700)) = false := beq_eq_false_iff_ne.mpr c2;have c2b1 : (a0 != (-32700)) = true := bne_iff_ne.mpr c2
  by_cases c3 : a0 = (-32600)
  ·rw [if_pos c3] at H
   have c3b0 : (a0 == (-32600)) = true := beq_iff_eq.mpr c3;have c3b1 : (a0 != (-32600)) = false := bne_eq_false_iff_eq.mpr c3;clear c3;obtain rfl := Option.some.inj H;go_enter Tryd.func51, Tryd.ntmps51;go_wp2;go_ret;exact ⟨by first | rfl | (simp; done) | (simp [*]; done), by repeat (first | exact Drawn0.refl _ | apply Drawn0.step)⟩
  ·rw [if_neg c3] at H
   have c3b0 : (a0 == (-32600)) = false := beq_eq_false_iff_ne.mpr c3;have c3b1 : (a0 != (-32600)) = true := bne_iff_ne.mpr c3
   by_cases c4 : a0 = (-32601)
   ·rw [if_pos c4] at H
    have c4b0 : (a0 == (-32601)) = true := beq_iff_eq.mpr c4;have c4b1 : (a0 != (-32601)) = false := bne_eq_false_iff_eq.mpr c4;clear c4;obtain rfl := Option.some.inj H;go_enter Tryd.func51, Tryd.ntmps51;go_wp2;go_ret;exact ⟨by first | rfl | (simp; done) | (simp [*]; done), by repeat (first | exact Drawn0.refl _ | apply Drawn0.step)⟩
   ·rw [if_neg c4] at H
    have c4b0 : (a0 == (-32601)) = false := beq_eq_false_iff_ne.mpr c4;have c4b1 : (a0 != (-32601)) = true := bne_iff_ne.mpr c4
    by_cases c5 : a0 = (-32602)
    ·rw [if_pos c5] at H
     have c5b0 : (a0 == (-32602)) = true := beq_iff_eq.mpr c5;have c5b1 : (a0 != (-32602)) = false := bne_eq_false_iff_eq.mpr c5;clear c5;obtain rfl := Option.some.inj H;go_enter Tryd.func51, Tryd.ntmps51;go_wp2;go_ret;exact ⟨by first | rfl | (simp; done) | (simp [*]; done), by repeat (first | exact Drawn0.refl _ | apply Drawn0.step)⟩
    ·rw [if_neg c5] at H
     have c5b0 : (a0 == (-32602)) = false := beq_eq_false_iff_ne.mpr c5;have c5b1 : (a0 != (-32602)) = true := bne_iff_ne.mpr c5
     by_cases c6 : a0 = (-32002)
     ·rw [if_pos c6] at H
      have c6b0 : (a0 == (-32002)) = true := beq_iff_eq.mpr c6;have c6b1 : (a0 != (-32002)) = false := bne_eq_false_iff_eq.mpr c6;clear c6;obtain rfl := Option.some.inj H;go_enter Tryd.func51, Tryd.ntmps51;go_wp2;go_ret;exact ⟨by first | rfl | (simp; done) | (simp [*]; done), by repeat (first | exact Drawn0.refl _ | apply Drawn0.step)⟩
     ·rw [if_neg c6] at H
      have c6b0 : (a0 == (-32002)) = false := beq_eq_false_iff_ne.mpr c6;have c6b1 : (a0 != (-32002)) = true := bne_iff_ne.mpr c6;obtain rfl := Option.some.inj H;go_enter Tryd.func51, Tryd.ntmps51;go_wp2;go_ret;exact ⟨by first | rfl | (simp; done) | (simp [*]; done), by repeat (first | exact Drawn0.refl _ | apply Drawn0.step)⟩
end Go.Proofs.YteighppcdpaekaaDoor.P
end
section
namespace Go.Proofs.YteighppcdpaekaaDoor.P
open Go.RowKit Go.Proofs.YteighppcdpaekaaDoorW.PrintWords Go.Proofs.YteighppcdpaekaaDoorW.PrintLast Go.Proofs.YteighppcdpaekaaDoorW.PrintMore
attribute [local go_sem] max2_int min2_int max_two min_two max_three min_three max_four min_four
set_option linter.unusedVariables false
set_option linter.unusedSimpArgs false
end Go.Proofs.YteighppcdpaekaaDoor.P
end
section
namespace Go.Proofs.YteighppcdpaekaaDoor.P
open Go.RowKit Go.Proofs.YteighppcdpaekaaDoorW.PrintWords Go.Proofs.YteighppcdpaekaaDoorW.PrintLast Go.Proofs.YteighppcdpaekaaDoorW.PrintMore
def EPost (x : Value) (w : World) (e : Ending) (w' : World) : Prop := ∃ v, e = .returned v ∧ v = x ∧ Below w.heap.size w w'
end Go.Proofs.YteighppcdpaekaaDoor.P
end
section
namespace Go.Proofs.YteighppcdpaekaaDoor.P
open Go.RowKit Go.Proofs.YteighppcdpaekaaDoorW.PrintWords Go.Proofs.YteighppcdpaekaaDoorW.PrintLast Go.Proofs.YteighppcdpaekaaDoorW.PrintMore
set_option linter.unusedVariables false
theorem mem_size {a x : S44} (h : x ∈ a.f3) : SizeOf.sizeOf x < SizeOf.sizeOf a := by
 have := List.sizeOf_lt_of_mem h;cases a
 simp at this ⊢
 omega
set_option maxRecDepth 100000 in
set_option maxHeartbeats 6400000 in
theorem equal44_ {ok ok' : Nat → Prop} : ∀ (n : Nat) (a : S44) (v v' : Value) (w : World), SizeOf.sizeOf a ≤ n → Kv k44 ok w v a → Kv k44 ok' w v' a → Calls Tryd.prog 17 #[v, v'] w (EPost (.bool true) w) := by
 intro n
 induction n with
 | zero => intro a v v' w h; cases a; simp at h
 | succ n ih =>
 rintro ⟨k, t, ks, l⟩ v v' w hn h1 h2;obtain ⟨A2, c2, A3, c3, rfl, l2, g2, l3, g3⟩ := h1.open44;obtain ⟨B2, d2, B3, d3, rfl, m2, i2, m3, i3⟩ := h2.open44
 dsimp only at l2 g2 l3 g3 m2 i2 m3 i3 ⊢
 have hmem : ∀ x ∈ l, SizeOf.sizeOf x ≤ n := fun x hx => by have := mem_size (a := ⟨k, t, ks, l⟩) hx; omega
 have N2 : (ks.length : Int) ≤ 9223372036854775807 := by have := (Kd.F_now g2).2.1; omega
 have N3 : (l.length : Int) ≤ 9223372036854775807 := by have := (Kd.F_now g3).2.1; omega
 have C0 : Ctx [uBlk (w.heap.size + 1) [.int .i64 k, .string t, .slice B2 ks.length d2, .slice B3 l.length d3] 44, uBlk w.heap.size [.int .i64 k, .string t, .slice A2 ks.length c2, .slice A3 l.length c3] 44, uB w] ((w.alloc (.cells #[.int .i64 k, .string t, .slice A2 ks.length c2, .slice A3 l.length c3] 44 (0, 0))).alloc (.cells #[.int .i64 k, .string t, .slice B2 ks.length d2, .slice B3 l.length d3] 44 (0, 0))) := by
  have e := Ctx.new (cs := [.int .i64 k, .string t, .slice B2 ks.length d2, .slice B3 l.length d3]) (t := 44) (Ctx.new (cs := [.int .i64 k, .string t, .slice A2 ks.length c2, .slice A3 l.length c3]) (t := 44) (Ctx.cons (uB w) (Below.refl _ _) (Ctx.nil)))
  simpa using e
 go_enter Tryd.func17, Tryd.ntmps17
 go_upto_region 1 with fail
 refine absW _ C0 ?_;clear C0;intro w1 C;have K := Sdq.mk C;obtain ⟨b1, b0, hB, _⟩ := C
 obtain ⟨x0, x1, x2, x3⟩ : w1.cell? ⟨w.heap.size, 0, none⟩ = some (.int .i64 k) ∧ w1.cell? ⟨w.heap.size, 1, none⟩ = some (.string t) ∧ w1.cell? ⟨w.heap.size, 2, none⟩ = some (.slice A2 ks.length c2) ∧ w1.cell? ⟨w.heap.size, 3, none⟩ = some (.slice A3 l.length c3) := ⟨Ctx.blk b0 0 rfl, Ctx.blk b0 1 rfl, Ctx.blk b0 2 rfl, Ctx.blk b0 3 rfl⟩
 obtain ⟨y0, y1, y2, y3⟩ : w1.cell? ⟨w.heap.size + 1, 0, none⟩ = some (.int .i64 k) ∧ w1.cell? ⟨w.heap.size + 1, 1, none⟩ = some (.string t) ∧ w1.cell? ⟨w.heap.size + 1, 2, none⟩ = some (.slice B2 ks.length d2) ∧ w1.cell? ⟨w.heap.size + 1, 3, none⟩ = some (.slice B3 l.length d3) := ⟨Ctx.blk b1 0 rfl, Ctx.blk b1 1 rfl, Ctx.blk b1 2 rfl, Ctx.blk b1 3 rfl⟩
 have HB := Sdq.mk (show Below w.heap.size w w1 from hB);have G2 := Sdq.mk (Kd.F_now (Kd.F_below g2 hB));have I2 := Sdq.mk (Kd.F_now (Kd.F_below i2 hB));have G3 := Sdq.mk (show Kd.V k44 44 w1 0 ok (.slice A3 l.length c3) l from Kd.V_mk l3 (Kd.F_below g3 hB));have I3 := Sdq.mk (show Kd.V k44 44 w1 0 ok' (.slice B3 l.length d3) l from Kd.V_mk m3 (Kd.F_below i3 hB));have HM := Sdq.mk hmem;have IH := Sdq.mk ih;clear b0 b1 hB g2 g3 i2 i3 h1 h2 l2 l3 m2 m3 hmem ih hn;have ht : (t.toList == t.toList) = true := beq_self_eq_true _;by_cases k3 : k = 3
 ·subst k3
  go_wp2_with fail
  go_ret;exact ⟨_, rfl, rfl, HB.out⟩
 by_cases k4 : k = 4
 ·subst k4
  go_wp2_with fail
  go_ret;exact ⟨_, rfl, rfl, HB.out⟩
 by_cases k56 : k = 5 ∨ k = 6
 case neg =>
  have k5 : ¬ k = 5 := fun h => k56 (.inl h)
  have k6 : ¬ k = 6 := fun h => k56 (.inr h)
  clear k56;have e5 : (k != 5) = true := bne_iff_ne.2 k5;have e6 : (k != 6) = true := bne_iff_ne.2 k6;have e3 : (k == 3) = false := beq_eq_false_iff_ne.2 k3;have e4 : (k == 4) = false := beq_eq_false_iff_ne.2 k4
  go_wp2_with fail
  go_ret;exact ⟨_, rfl, rfl, HB.out⟩
 rcases k56 with rfl | rfl
 ·have X0 := Sdq.mk (And.intro x0 (And.intro x2 x3))
  have Y0 := Sdq.mk (And.intro y2 y3);have N2 := Sdq.mk N2;have N3 := Sdq.mk N3;clear k3 k4
  go_upto_block 0 with fail
  go_cut [5] (fun s5 wc => Sdq (Below w1.heap.size w1 wc))
  case first =>
   go_wp2_with fail
   go_loopg [5] ks.length (fun kq s5 wc => ∃ i : Nat, s5 = .int .i64 (i : Int) ∧ kq + i = ks.length ∧ Sdq (Below w1.heap.size w1 wc))
   case atStart => exact ⟨0, rfl, by omega, ⟨Below.refl _ _⟩⟩
   case round =>
    clear x0 x1 x2 x3 y0 y1 y2 y3;obtain ⟨i, rfl, hi, HW⟩ := hrel
    obtain ⟨x0, x2, x3⟩ : wr.cell? ⟨w.heap.size, 0, none⟩ = some (.int .i64 5) ∧ wr.cell? ⟨w.heap.size, 2, none⟩ = some (.slice A2 ks.length c2) ∧ wr.cell? ⟨w.heap.size, 3, none⟩ = some (.slice A3 l.length c3) := ⟨hdBq HW.out X0.out.1, hdBq HW.out X0.out.2.1, hdBq HW.out X0.out.2.2⟩
    obtain ⟨y2, y3⟩ : wr.cell? ⟨w.heap.size + 1, 2, none⟩ = some (.slice B2 ks.length d2) ∧ wr.cell? ⟨w.heap.size + 1, 3, none⟩ = some (.slice B3 l.length d3) := ⟨hdBq HW.out Y0.out.1, hdBq HW.out Y0.out.2⟩
    rcases Nat.lt_or_ge i ks.length with hlt | hge
    ·have hiz : (i : Int) < (ks.length : Int) := by omega
     go_wp2_with fail
     go_meet
     exact HW
    ·have hiz : ¬ (i : Int) < (ks.length : Int) := by omega
     go_wp2_with fail
     go_meet
     exact HW
  case rest =>
   clear x0 x1 x2 x3 y0 y1 y2 y3;have HW := hcut;clear hcut
   obtain ⟨x0, x2, x3⟩ : wc.cell? ⟨w.heap.size, 0, none⟩ = some (.int .i64 5) ∧ wc.cell? ⟨w.heap.size, 2, none⟩ = some (.slice A2 ks.length c2) ∧ wc.cell? ⟨w.heap.size, 3, none⟩ = some (.slice A3 l.length c3) := ⟨hdBq HW.out X0.out.1, hdBq HW.out X0.out.2.1, hdBq HW.out X0.out.2.2⟩
   obtain ⟨y2, y3⟩ : wc.cell? ⟨w.heap.size + 1, 2, none⟩ = some (.slice B2 ks.length d2) ∧ wc.cell? ⟨w.heap.size + 1, 3, none⟩ = some (.slice B3 l.length d3) := ⟨hdBq HW.out Y0.out.1, hdBq HW.out Y0.out.2⟩
   go_wp2_with fail
   go_loopg [6] l.length (fun kq s6 wc => ∃ i : Nat, s6 = .int .i64 (i : Int) ∧ kq + i = l.length ∧ Sdq (Below w1.heap.size w1 wc))
   case atStart => exact ⟨0, rfl, by omega, HW⟩
   case round =>
    clear HW x0 x2 x3 y2 y3;obtain ⟨i, rfl, hi, HW⟩ := hrel
    obtain ⟨x0, x2, x3⟩ : wr.cell? ⟨w.heap.size, 0, none⟩ = some (.int .i64 5) ∧ wr.cell? ⟨w.heap.size, 2, none⟩ = some (.slice A2 ks.length c2) ∧ wr.cell? ⟨w.heap.size, 3, none⟩ = some (.slice A3 l.length c3) := ⟨hdBq HW.out X0.out.1, hdBq HW.out X0.out.2.1, hdBq HW.out X0.out.2.2⟩
    obtain ⟨y2, y3⟩ : wr.cell? ⟨w.heap.size + 1, 2, none⟩ = some (.slice B2 ks.length d2) ∧ wr.cell? ⟨w.heap.size + 1, 3, none⟩ = some (.slice B3 l.length d3) := ⟨hdBq HW.out Y0.out.1, hdBq HW.out Y0.out.2⟩
    cases gk with
    | zero =>
     obtain rfl : i = l.length := by omega
     go_wp2_with fail
     go_ret;exact ⟨_, rfl, rfl, below_step HB.out HW.out⟩
    | succ gk =>
     have hlt : i < l.length := by omega
     have hiz : (i : Int) < (l.length : Int) := by omega
     have q0 : (0 : Int) ≤ (i : Int) := by omega
     have hw1 : wrap64 ((i : Int) + 1) = ((i + 1 : Nat) : Int) := by have := N3.out; unfold wrap64; omega
     obtain ⟨ud, P2, q2, P3, q3, hA, g0, g1, g2, g3, -, -, -, -⟩ := at_T44 (Kd.V_reads' (Kd.V_below G3.out HW.out)).2.2 (i : Int) q0 hiz;subst hA;obtain ⟨ce, -, hF, hcc⟩ := Kd.V_get (Kd.V_below G3.out HW.out) z44 (i : Int) q0 hiz;obtain ⟨u2, un2, u3, un3, rfl, k2, F2, k3, F3⟩ := k44_openF hF;have j2 := hcc 2 _ rfl;have j3 := hcc 3 _ rfl;rw [add_field _ _ 2 (by omega)] at j2;rw [add_field _ _ 3 (by omega)] at j3
     injection Option.some.inj (j2.symm.trans g2) with o1 _ o2
     injection Option.some.inj (j3.symm.trans g3) with o3 _ o4
     subst o1 o2 o3 o4;clear hcc j2 j3 hF;rw [show l.getD (i : Int).toNat z44 = l[i] by simp [hlt]] at k2 F2 k3 F3;rw [show rd_T44 l (i : Int) = l[i] by simp [rd_T44, hlt], Int.toNat_natCast] at g0 g1 g2 g3;have E1 := Sdq.mk (Kv.mk44 _ k2 F2 k3 F3);clear k2 F2 k3 F3;obtain ⟨vd, P2, q2, P3, q3, hA, p0, p1, p2, p3, -, -, -, -⟩ := at_T44 (Kd.V_reads' (Kd.V_below I3.out HW.out)).2.2 (i : Int) q0 hiz;subst hA;obtain ⟨ce, -, hF, hcc⟩ := Kd.V_get (Kd.V_below I3.out HW.out) z44 (i : Int) q0 hiz;obtain ⟨v2, vn2, v3, vn3, rfl, k2, F2, k3, F3⟩ := k44_openF hF;have j2 := hcc 2 _ rfl;have j3 := hcc 3 _ rfl;rw [add_field _ _ 2 (by omega)] at j2;rw [add_field _ _ 3 (by omega)] at j3
     injection Option.some.inj (j2.symm.trans p2) with o1 _ o2
     injection Option.some.inj (j3.symm.trans p3) with o3 _ o4
     subst o1 o2 o3 o4;clear hcc j2 j3 hF;rw [show l.getD (i : Int).toNat z44 = l[i] by simp [hlt]] at k2 F2 k3 F3;rw [show rd_T44 l (i : Int) = l[i] by simp [rd_T44, hlt], Int.toNat_natCast] at p0 p1 p2 p3;have E2 := Sdq.mk (Kv.mk44 _ k2 F2 k3 F3);clear k2 F2 k3 F3;have HX := Sdq.mk (List.getElem_mem hlt);generalize l[i] = x at HX E1 E2 g0 g1 g2 g3 p0 p1 p2 p3;have HS := Sdq.mk (show ∀ W, Below wr.heap.size wr W → (W.cell? ⟨w.heap.size, 3, none⟩ = some (.slice (some ud) l.length c3) ∧ W.cell? ⟨w.heap.size + 1, 3, none⟩ = some (.slice (some vd) l.length d3) ∧ W.cell? (ud.add (i * 4)) = some (.int .i64 x.f0) ∧ W.cell? ⟨(ud.add (i * 4)).block, (ud.add (i * 4)).off + 1, none⟩ = some (.string x.f1) ∧ W.cell? ⟨(ud.add (i * 4)).block, (ud.add (i * 4)).off + 2, none⟩ = some (.slice u2 x.f2.length un2) ∧ W.cell? ⟨(ud.add (i * 4)).block, (ud.add (i * 4)).off + 3, none⟩ = some (.slice u3 x.f3.length un3) ∧ W.cell? (vd.add (i * 4)) = some (.int .i64 x.f0) ∧ W.cell? ⟨(vd.add (i * 4)).block, (vd.add (i * 4)).off + 1, none⟩ = some (.string x.f1) ∧ W.cell? ⟨(vd.add (i * 4)).block, (vd.add (i * 4)).off + 2, none⟩ = some (.slice v2 x.f2.length vn2) ∧ W.cell? ⟨(vd.add (i * 4)).block, (vd.add (i * 4)).off + 3, none⟩ = some (.slice v3 x.f3.length vn3) ∧ Below wr.heap.size wr W) from fun W h => ⟨hdBq h x3, hdBq h y3, hdBq h g0, hdBq h g1, hdBq h g2, hdBq h g3, hdBq h p0, hdBq h p1, hdBq h p2, hdBq h p3, h⟩)
     go_upto_region 17 with fail
     go_region_held3 (fun W => W.cell? ⟨w.heap.size, 3, none⟩ = some (.slice (some ud) l.length c3) ∧ W.cell? ⟨w.heap.size + 1, 3, none⟩ = some (.slice (some vd) l.length d3) ∧ W.cell? (ud.add (i * 4)) = some (.int .i64 x.f0) ∧ W.cell? ⟨(ud.add (i * 4)).block, (ud.add (i * 4)).off + 1, none⟩ = some (.string x.f1) ∧ W.cell? ⟨(ud.add (i * 4)).block, (ud.add (i * 4)).off + 2, none⟩ = some (.slice u2 x.f2.length un2) ∧ W.cell? ⟨(ud.add (i * 4)).block, (ud.add (i * 4)).off + 3, none⟩ = some (.slice u3 x.f3.length un3) ∧ W.cell? (vd.add (i * 4)) = some (.int .i64 x.f0) ∧ W.cell? ⟨(vd.add (i * 4)).block, (vd.add (i * 4)).off + 1, none⟩ = some (.string x.f1) ∧ W.cell? ⟨(vd.add (i * 4)).block, (vd.add (i * 4)).off + 2, none⟩ = some (.slice v2 x.f2.length vn2) ∧ W.cell? ⟨(vd.add (i * 4)).block, (vd.add (i * 4)).off + 3, none⟩ = some (.slice v3 x.f3.length vn3) ∧ Below wr.heap.size wr W) (exact HS.out _ (by first | exact below_drew (Below.refl _ _) | assumption)) (first
      | (go_at_call 17; refine (IH.out x _ _ _ (HM.out _ HX.out) (E1.out.below (by first | exact below_drew (Below.refl _ _) | assumption)) (E2.out.below (by first | exact below_drew (Below.refl _ _) | assumption))).mono ?_; rintro en W9 ⟨_, rfl, rfl, hb9⟩; have hB9 := below_step (show Below wr.heap.size wr _ from (by first | exact below_drew (Below.refl _ _) | assumption)) hb9; clear hb9))
     go_wp2_with fail
     go_roundg gk
     case measure => omega
     exact ⟨i + 1, by simp, by omega, ⟨below_step HW.out hB9⟩⟩
 ·have X0 := Sdq.mk (And.intro x0 (And.intro x2 x3))
  have Y0 := Sdq.mk (And.intro y2 y3);have N2 := Sdq.mk N2;have N3 := Sdq.mk N3;clear k3 k4
  go_upto_block 0 with fail
  go_cut [5] (fun s5 wc => Sdq (Below w1.heap.size w1 wc))
  case first =>
   go_wp2_with fail
   go_loopg [5] ks.length (fun kq s5 wc => ∃ i : Nat, s5 = .int .i64 (i : Int) ∧ kq + i = ks.length ∧ Sdq (Below w1.heap.size w1 wc))
   case atStart => exact ⟨0, rfl, by omega, ⟨Below.refl _ _⟩⟩
   case round =>
    clear x0 x1 x2 x3 y0 y1 y2 y3;obtain ⟨i, rfl, hi, HW⟩ := hrel
    obtain ⟨x0, x2, x3⟩ : wr.cell? ⟨w.heap.size, 0, none⟩ = some (.int .i64 6) ∧ wr.cell? ⟨w.heap.size, 2, none⟩ = some (.slice A2 ks.length c2) ∧ wr.cell? ⟨w.heap.size, 3, none⟩ = some (.slice A3 l.length c3) := ⟨hdBq HW.out X0.out.1, hdBq HW.out X0.out.2.1, hdBq HW.out X0.out.2.2⟩
    obtain ⟨y2, y3⟩ : wr.cell? ⟨w.heap.size + 1, 2, none⟩ = some (.slice B2 ks.length d2) ∧ wr.cell? ⟨w.heap.size + 1, 3, none⟩ = some (.slice B3 l.length d3) := ⟨hdBq HW.out Y0.out.1, hdBq HW.out Y0.out.2⟩
    cases gk with
    | zero =>
     obtain rfl : i = ks.length := by omega
     go_wp2_with fail
     go_meet
     exact HW
    | succ gk =>
     have hlt : i < ks.length := by omega
     have hiz : (i : Int) < (ks.length : Int) := by omega
     have hw1 : wrap64 ((i : Int) + 1) = ((i + 1 : Nat) : Int) := by have := N2.out; unfold wrap64; omega
     obtain ⟨ad, hA, hx⟩ := key_at0 (Kd.C_below G2.out HW.out) hlt;obtain ⟨bd, hBd, hy⟩ := key_at0 (Kd.C_below I2.out HW.out) hlt;subst hA;subst hBd;have hcb : ((ks[i]).toList == (ks[i]).toList) = true := beq_self_eq_true _;have HS := Sdq.mk (show ∀ W, Below wr.heap.size wr W → (W.cell? ⟨w.heap.size, 2, none⟩ = some (.slice (some ad) ks.length c2) ∧ W.cell? ⟨w.heap.size + 1, 2, none⟩ = some (.slice (some bd) ks.length d2) ∧ W.cell? (ad.add i) = some (.string ks[i]) ∧ W.cell? (bd.add i) = some (.string ks[i]) ∧ Below wr.heap.size wr W) from fun W h => ⟨hdBq h x2, hdBq h y2, hdBq h hx, hdBq h hy, h⟩)
     go_upto_region 12 with fail
     go_region_held3 (fun W => W.cell? ⟨w.heap.size, 2, none⟩ = some (.slice (some ad) ks.length c2) ∧ W.cell? ⟨w.heap.size + 1, 2, none⟩ = some (.slice (some bd) ks.length d2) ∧ W.cell? (ad.add i) = some (.string ks[i]) ∧ W.cell? (bd.add i) = some (.string ks[i]) ∧ Below wr.heap.size wr W) (exact HS.out _ (below_drew (Below.refl _ _))) (fail)
     go_wp2_with fail
     go_roundg gk
     case measure => omega
     exact ⟨i + 1, by simp, by omega, ⟨below_step HW.out (below_drew (Below.refl _ _))⟩⟩
  case rest =>
   clear x0 x1 x2 x3 y0 y1 y2 y3;have HW := hcut;clear hcut
   obtain ⟨x0, x2, x3⟩ : wc.cell? ⟨w.heap.size, 0, none⟩ = some (.int .i64 6) ∧ wc.cell? ⟨w.heap.size, 2, none⟩ = some (.slice A2 ks.length c2) ∧ wc.cell? ⟨w.heap.size, 3, none⟩ = some (.slice A3 l.length c3) := ⟨hdBq HW.out X0.out.1, hdBq HW.out X0.out.2.1, hdBq HW.out X0.out.2.2⟩
   obtain ⟨y2, y3⟩ : wc.cell? ⟨w.heap.size + 1, 2, none⟩ = some (.slice B2 ks.length d2) ∧ wc.cell? ⟨w.heap.size + 1, 3, none⟩ = some (.slice B3 l.length d3) := ⟨hdBq HW.out Y0.out.1, hdBq HW.out Y0.out.2⟩
   go_wp2_with fail
   go_loopg [6] l.length (fun kq s6 wc => ∃ i : Nat, s6 = .int .i64 (i : Int) ∧ kq + i = l.length ∧ Sdq (Below w1.heap.size w1 wc))
   case atStart => exact ⟨0, rfl, by omega, HW⟩
   case round =>
    clear HW x0 x2 x3 y2 y3;obtain ⟨i, rfl, hi, HW⟩ := hrel
    obtain ⟨x0, x2, x3⟩ : wr.cell? ⟨w.heap.size, 0, none⟩ = some (.int .i64 6) ∧ wr.cell? ⟨w.heap.size, 2, none⟩ = some (.slice A2 ks.length c2) ∧ wr.cell? ⟨w.heap.size, 3, none⟩ = some (.slice A3 l.length c3) := ⟨hdBq HW.out X0.out.1, hdBq HW.out X0.out.2.1, hdBq HW.out X0.out.2.2⟩
    obtain ⟨y2, y3⟩ : wr.cell? ⟨w.heap.size + 1, 2, none⟩ = some (.slice B2 ks.length d2) ∧ wr.cell? ⟨w.heap.size + 1, 3, none⟩ = some (.slice B3 l.length d3) := ⟨hdBq HW.out Y0.out.1, hdBq HW.out Y0.out.2⟩
    cases gk with
    | zero =>
     obtain rfl : i = l.length := by omega
     go_wp2_with fail
     go_ret;exact ⟨_, rfl, rfl, below_step HB.out HW.out⟩
    | succ gk =>
     have hlt : i < l.length := by omega
     have hiz : (i : Int) < (l.length : Int) := by omega
     have q0 : (0 : Int) ≤ (i : Int) := by omega
     have hw1 : wrap64 ((i : Int) + 1) = ((i + 1 : Nat) : Int) := by have := N3.out; unfold wrap64; omega
     obtain ⟨ud, P2, q2, P3, q3, hA, g0, g1, g2, g3, -, -, -, -⟩ := at_T44 (Kd.V_reads' (Kd.V_below G3.out HW.out)).2.2 (i : Int) q0 hiz;subst hA;obtain ⟨ce, -, hF, hcc⟩ := Kd.V_get (Kd.V_below G3.out HW.out) z44 (i : Int) q0 hiz;obtain ⟨u2, un2, u3, un3, rfl, k2, F2, k3, F3⟩ := k44_openF hF;have j2 := hcc 2 _ rfl;have j3 := hcc 3 _ rfl;rw [add_field _ _ 2 (by omega)] at j2;rw [add_field _ _ 3 (by omega)] at j3
     injection Option.some.inj (j2.symm.trans g2) with o1 _ o2
     injection Option.some.inj (j3.symm.trans g3) with o3 _ o4
     subst o1 o2 o3 o4;clear hcc j2 j3 hF;rw [show l.getD (i : Int).toNat z44 = l[i] by simp [hlt]] at k2 F2 k3 F3;rw [show rd_T44 l (i : Int) = l[i] by simp [rd_T44, hlt], Int.toNat_natCast] at g0 g1 g2 g3;have E1 := Sdq.mk (Kv.mk44 _ k2 F2 k3 F3);clear k2 F2 k3 F3;obtain ⟨vd, P2, q2, P3, q3, hA, p0, p1, p2, p3, -, -, -, -⟩ := at_T44 (Kd.V_reads' (Kd.V_below I3.out HW.out)).2.2 (i : Int) q0 hiz;subst hA;obtain ⟨ce, -, hF, hcc⟩ := Kd.V_get (Kd.V_below I3.out HW.out) z44 (i : Int) q0 hiz;obtain ⟨v2, vn2, v3, vn3, rfl, k2, F2, k3, F3⟩ := k44_openF hF;have j2 := hcc 2 _ rfl;have j3 := hcc 3 _ rfl;rw [add_field _ _ 2 (by omega)] at j2;rw [add_field _ _ 3 (by omega)] at j3
     injection Option.some.inj (j2.symm.trans p2) with o1 _ o2
     injection Option.some.inj (j3.symm.trans p3) with o3 _ o4
     subst o1 o2 o3 o4;clear hcc j2 j3 hF;rw [show l.getD (i : Int).toNat z44 = l[i] by simp [hlt]] at k2 F2 k3 F3;rw [show rd_T44 l (i : Int) = l[i] by simp [rd_T44, hlt], Int.toNat_natCast] at p0 p1 p2 p3;have E2 := Sdq.mk (Kv.mk44 _ k2 F2 k3 F3);clear k2 F2 k3 F3;have HX := Sdq.mk (List.getElem_mem hlt);generalize l[i] = x at HX E1 E2 g0 g1 g2 g3 p0 p1 p2 p3;have HS := Sdq.mk (show ∀ W, Below wr.heap.size wr W → (W.cell? ⟨w.heap.size, 3, none⟩ = some (.slice (some ud) l.length c3) ∧ W.cell? ⟨w.heap.size + 1, 3, none⟩ = some (.slice (some vd) l.length d3) ∧ W.cell? (ud.add (i * 4)) = some (.int .i64 x.f0) ∧ W.cell? ⟨(ud.add (i * 4)).block, (ud.add (i * 4)).off + 1, none⟩ = some (.string x.f1) ∧ W.cell? ⟨(ud.add (i * 4)).block, (ud.add (i * 4)).off + 2, none⟩ = some (.slice u2 x.f2.length un2) ∧ W.cell? ⟨(ud.add (i * 4)).block, (ud.add (i * 4)).off + 3, none⟩ = some (.slice u3 x.f3.length un3) ∧ W.cell? (vd.add (i * 4)) = some (.int .i64 x.f0) ∧ W.cell? ⟨(vd.add (i * 4)).block, (vd.add (i * 4)).off + 1, none⟩ = some (.string x.f1) ∧ W.cell? ⟨(vd.add (i * 4)).block, (vd.add (i * 4)).off + 2, none⟩ = some (.slice v2 x.f2.length vn2) ∧ W.cell? ⟨(vd.add (i * 4)).block, (vd.add (i * 4)).off + 3, none⟩ = some (.slice v3 x.f3.length vn3) ∧ Below wr.heap.size wr W) from fun W h => ⟨hdBq h x3, hdBq h y3, hdBq h g0, hdBq h g1, hdBq h g2, hdBq h g3, hdBq h p0, hdBq h p1, hdBq h p2, hdBq h p3, h⟩)
     go_upto_region 17 with fail
     go_region_held3 (fun W => W.cell? ⟨w.heap.size, 3, none⟩ = some (.slice (some ud) l.length c3) ∧ W.cell? ⟨w.heap.size + 1, 3, none⟩ = some (.slice (some vd) l.length d3) ∧ W.cell? (ud.add (i * 4)) = some (.int .i64 x.f0) ∧ W.cell? ⟨(ud.add (i * 4)).block, (ud.add (i * 4)).off + 1, none⟩ = some (.string x.f1) ∧ W.cell? ⟨(ud.add (i * 4)).block, (ud.add (i * 4)).off + 2, none⟩ = some (.slice u2 x.f2.length un2) ∧ W.cell? ⟨(ud.add (i * 4)).block, (ud.add (i * 4)).off + 3, none⟩ = some (.slice u3 x.f3.length un3) ∧ W.cell? (vd.add (i * 4)) = some (.int .i64 x.f0) ∧ W.cell? ⟨(vd.add (i * 4)).block, (vd.add (i * 4)).off + 1, none⟩ = some (.string x.f1) ∧ W.cell? ⟨(vd.add (i * 4)).block, (vd.add (i * 4)).off + 2, none⟩ = some (.slice v2 x.f2.length vn2) ∧ W.cell? ⟨(vd.add (i * 4)).block, (vd.add (i * 4)).off + 3, none⟩ = some (.slice v3 x.f3.length vn3) ∧ Below wr.heap.size wr W) (exact HS.out _ (by first | exact below_drew (Below.refl _ _) | assumption)) (first
      | (go_at_call 17; refine (IH.out x _ _ _ (HM.out _ HX.out) (E1.out.below (by first | exact below_drew (Below.refl _ _) | assumption)) (E2.out.below (by first | exact below_drew (Below.refl _ _) | assumption))).mono ?_; rintro en W9 ⟨_, rfl, rfl, hb9⟩; have hB9 := below_step (show Below wr.heap.size wr _ from (by first | exact below_drew (Below.refl _ _) | assumption)) hb9; clear hb9))
     go_wp2_with fail
     go_roundg gk
     case measure => omega
     exact ⟨i + 1, by simp, by omega, ⟨below_step HW.out hB9⟩⟩
theorem equal44 {ok ok' : Nat → Prop} {a : S44} {v v' : Value} {w : World} (h : Kv k44 ok w v a) (h' : Kv k44 ok' w v' a) : Calls Tryd.prog 17 #[v, v'] w (EPost (.bool true) w) := equal44_ _ a v v' w (Nat.le_refl _) h h'
end Go.Proofs.YteighppcdpaekaaDoor.P
end
section
namespace Go.Proofs.YteighppcdpaekaaDoor.Eq4
open Go.RowKit Go.Proofs.YteighppcdpaekaaDoorW.PrintWords Go.Proofs.YteighppcdpaekaaDoor.P
theorem oL_ev {n : Nat} (ih : ∀ v, szS v ≤ n → Light v → Ev (fun k => ofF k v) (ofS v)) : ∀ (l : List S27) (acc : List S44), (∀ x ∈ l, szS x ≤ n) → (∀ x ∈ l, Light x) → acc.length + l.length ≤ 3000 → Ev (fun k => ofLF (ofF k) l acc) (acc ++ ofL l)
 | [], acc, _, _, _ => by
  rw [ofL_map, List.map_nil, List.append_nil];exact Ev.now _
 | x :: r, acc, hn, hL, hc => by
  have := oL_ev ih r (acc ++ [ofS x]) (fun y hy => hn y (List.mem_cons_of_mem _ hy)) (fun y hy => hL y (List.mem_cons_of_mem _ hy)) (by simp at hc ⊢; omega);simp only [ofLF];refine Num.evT (by simp at hc; omega) ?_;refine Ev.bind (ih x (hn x (List.mem_cons_self ..)) (hL x (List.mem_cons_self ..))) ?_;rw [List.append_assoc] at this;rw [ofL_map] at this ⊢;exact this
theorem of_val2 : ∀ n v, szS v ≤ n → Light v → Ev (fun k => ofF k v) (ofS v) := by
 intro n
 induction n with
 | zero => intro v h; rw [szS_eq] at h; omega
 | succ n ih =>
  intro v h hL;rw [szS_eq] at h;refine Ev.step (fun k => rfl) ?_;obtain ⟨h3, _, _, _, hl⟩ := hL.out;have := oL_ev ih v.f3 [] (fun x hx => Nat.le_trans (szL_mem hx) (by omega)) hl (by simpa using h3);obtain ⟨K, hK⟩ := this;refine ⟨K, fun k hk => ?_⟩;have e : ofLF (ofF k) v.f3 [] = some (ofL v.f3) := hK k hk;simp only [ofF, ofS_eq, e, Option.map_some]
end Go.Proofs.YteighppcdpaekaaDoor.Eq4
end
section
namespace Go.Proofs.YteighppcdpaekaaDoor.P
open Go.RowKit Go.Proofs.YteighppcdpaekaaDoor.Rf Go.Proofs.YteighppcdpaekaaDoor.Eq4 Go.Proofs.YteighppcdpaekaaDoorW.PrintWords Go.Proofs.YteighppcdpaekaaDoorW.PrintLast Go.Proofs.YteighppcdpaekaaDoorW.PrintMore
set_option linter.unusedVariables false
set_option linter.unusedSimpArgs false
def T1 : Nat → Prop := fun _ => True
theorem kv27 (s : S27) {w : World} {v2 v3 : Value} {A B : Nat → Prop} (h2 : Kd.V Kd.string 9 w 0 A v2 s.f2) (h3 : Kd.V k27 27 w 0 B v3 s.f3) : ∃ A2 c2 A3 c3, v2 = .slice A2 s.f2.length c2 ∧ v3 = .slice A3 s.f3.length c3 ∧ Kv k27 T1 w (.agg #[.int .i64 s.f0, .string s.f1, .slice A2 s.f2.length c2, .slice A3 s.f3.length c3]) s := by
 replace h2 := Kd.V_mono (ok' := T1) h2 (fun _ _ => trivial);replace h3 := Kd.V_mono (ok' := T1) h3 (fun _ _ => trivial);obtain ⟨A2, c2, rfl⟩ := Kd.V_slice h2;obtain ⟨A3, c3, rfl⟩ := Kd.V_slice h3;exact ⟨A2, c2, A3, c3, rfl, rfl, Kv.mk27 s (Kd.V_reads' h2).2.1 (Kd.V_F h2) (Kd.V_reads' h3).2.1 (Kd.V_F h3)⟩
theorem kv44 (s : S27) {w : World} {v2 v3 : Value} {A B : Nat → Prop} (h2 : Kd.V Kd.string 9 w 0 A v2 s.f2) (h3 : Kd.V k44 44 w 0 B v3 (ofL s.f3)) : ∃ A2 c2 A3 c3, v2 = .slice A2 s.f2.length c2 ∧ v3 = .slice A3 (ofL s.f3).length c3 ∧ Kv k44 T1 w (.agg #[.int .i64 s.f0, .string s.f1, .slice A2 s.f2.length c2, .slice A3 (ofL s.f3).length c3]) (ofS s) := by
 replace h2 := Kd.V_mono (ok' := T1) h2 (fun _ _ => trivial);replace h3 := Kd.V_mono (ok' := T1) h3 (fun _ _ => trivial);obtain ⟨A2, c2, rfl⟩ := Kd.V_slice h2;obtain ⟨A3, c3, rfl⟩ := Kd.V_slice h3;rw [ofS_eq];exact ⟨A2, c2, A3, c3, rfl, rfl, Kv.mk44 ⟨s.f0, s.f1, s.f2, ofL s.f3⟩ (Kd.V_reads' h2).2.1 (Kd.V_F h2) (Kd.V_reads' h3).2.1 (Kd.V_F h3)⟩
theorem tab4_5 : tabOf (opsOf Tryd.f4 5) = ([some 25, some 26, some 27, some 28, some 29, some 30, some 31, some 32, some 33, some 34, some 35, some 36, some 37, some 38, some 39, some 40, some 41, some 42, some 43, some 44, some 45, some 46, some 47, some 48, some 49, some 50, some 51, some 52, some 53, some 54, some 55, some 56, some 57, some 58, some 59, some 60, some 61, some 62, some 63, some 64, some 65, some 66, some 67, some 68, some 69, some 70, some 71, some 72, some 73, some 74, some 75, some 2], [[], [0, 0], [1], [1], [2, 3, 1], [1, 4], [5, 1], [6], [7, 6], [6], [9, 6], [8, 10, 6], [6, 11], [12, 6], [13], [14, 13], [13], [16, 13], [15, 17, 13], [13, 18], [19, 13], [20], [21, 20], [22, 20, 20], [20], [24, 20], [23, 25, 23, 20], [20, 26], [27, 26], [28], [29, 28], [30, 28, 28], [28], [32, 28], [31, 33, 31, 28], [28, 34], [35, 34], [36], [37, 36], [36], [39, 36], [38, 40, 36], [36, 41], [42, 36], [43], [44, 43], [45, 43, 43], [43], [47, 43], [46, 48, 46, 43], [43, 49], [50, 49, 0, 1, 2, 3, 4, 5, 6, 7, 8, 9, 10, 11, 12, 13, 14, 15, 16, 17, 18, 19, 20, 21, 22, 23, 24, 25, 26, 27, 28, 29, 30, 31, 32, 33, 34, 35, 36, 37, 38, 39, 40, 41, 42, 43, 44, 45, 46, 47, 48, 49, 50]]) := by kernel_rfl
set_option maxRecDepth 100000 in
set_option maxHeartbeats 6400000 in
theorem reads_long (A : Option Addr) (c : Nat) (b : List Int) (w0 : World) (hT : TabOk w0) (h : 3000 < b.length) : Calls Tryd.prog 4 #[.slice A b.length c] w0 (fun e w' => e = .returned (.bool true) ∧ Below w0.heap.size w0 w') := by
 have HT := Sdq.mk hT;clear hT;go_enter Tryd.func4, Tryd.ntmps4
 go_wp2_with fail
 refine (L6q_called.calls true _ rfl HT.out).mono ?_;rintro en W1 ⟨rfl, hb⟩
 go_wp2_with fail
 go_ret;exact ⟨rfl, hb⟩
set_option maxRecDepth 100000 in
set_option maxHeartbeats 6400000 in
theorem reads_good (k : Nat) (A : Option Addr) (c : Nat) (b : List Int) (w0 : World) (hr : Kd.C (Kd.int .u8) w0 A b.length b) (hc : b.length ≤ c) (hT : TabOk w0) (hl : b.length ≤ 3000) (r : RdR) (hj : rpc_Read.f k b = some r.j) (h6 : read6.f k b = some r.r) (h1 : ofF k r.id = some (ofS r.id)) (h2 : ofF k r.params = some (ofS r.params)) (h3 : ofF k r.fid = some (ofS r.fid)) : Calls Tryd.prog 4 #[.slice A b.length c] w0 (fun e w' => e = .returned (.bool true) ∧ Below w0.heap.size w0 w') := by
 have F1 := Sdq.mk h1;have F2 := Sdq.mk h2;have F3 := Sdq.mk h3;have HJ := Sdq.mk hj;have H6 := Sdq.mk h6;have HR := Sdq.mk hr;have hc := Sdq.mk hc;have hT := Sdq.mk hT
 have hl' : ¬ (3000 : Int) < (b.length : Int) := by omega
 clear h1 h2 h3 hj h6 hr;go_enter Tryd.func4, Tryd.ntmps4
 go_upto_region 3 with fail
 go_wp2_with fail
 refine (rpc_Read.calls0 k A c b r.j w0 HR.out hc.out HJ.out hT.out).mono ?_;rintro en W1 ⟨v3, v4, v8, v9, v13, v14, rfl, h3, h4, h8, h9, h13, h14, hb⟩;obtain ⟨a2, an2, a3, an3, rfl, rfl, ka⟩ := kv27 r.id h3 h4;obtain ⟨b2, bn2, b3, bn3, rfl, rfl, kb⟩ := kv27 r.params h8 h9;obtain ⟨c2, cn2, c3, cn3, rfl, rfl, kc⟩ := kv27 r.fid h13 h14;have C := Ctx.new (cs := [.int .i64 r.code, .int .i64 r.fid.f0, .string r.fid.f1, .slice c2 r.fid.f2.length cn2, .slice c3 r.fid.f3.length cn3]) (t := 39) (Ctx.new (cs := [.bool r.has, .int .i64 r.id.f0, .string r.id.f1, .slice a2 r.id.f2.length an2, .slice a3 r.id.f3.length an3, .string r.method, .int .i64 r.params.f0, .string r.params.f1, .slice b2 r.params.f2.length bn2, .slice b3 r.params.f3.length bn3]) (t := 37) (show Ctx [uK k27 T1 _ r.id, uK k27 T1 _ r.params, uK k27 T1 _ r.fid, uB w0, uTab, uC (Kd.int .u8) A b.length b] W1 from ⟨ka, kb, kc, hb, hT.out.below hb, Kd.C_below HR.out hb, trivial⟩));clear ka kb kc hb h3 h4 h8 h9 h13 h14 HJ HR hT;simp only [World.size_alloc] at C
 go_upto_region 4 with fail
 refine absW _ C ?_;clear C;intro w2 C;have K := Sdq.mk C;clear C
 go_wp2_with fail
 refine (read6.calls k A c b r.r w2 K.out.2.2.2.2.2.2.2.1 hc.out H6.out).mono ?_;rintro en W2 ⟨v3, v4, v8, v9, v13, v14, rfl, h3, h4, h8, h9, h13, h14, hb⟩;obtain ⟨x2, xn2, x3, xn3, rfl, rfl, kx⟩ := kv44 r.id h3 h4;obtain ⟨y2, yn2, y3, yn3, rfl, rfl, ky⟩ := kv44 r.params h8 h9;obtain ⟨z2, zn2, z3, zn3, rfl, rfl, kz⟩ := kv44 r.fid h13 h14;have C := Ctx.new (cs := [.int .i64 r.code, .int .i64 r.fid.f0, .string r.fid.f1, .slice z2 r.fid.f2.length zn2, .slice z3 (ofL r.fid.f3).length zn3]) (t := 48) (Ctx.new (cs := [.bool r.has, .int .i64 r.id.f0, .string r.id.f1, .slice x2 r.id.f2.length xn2, .slice x3 (ofL r.id.f3).length xn3, .string r.method, .int .i64 r.params.f0, .string r.params.f1, .slice y2 r.params.f2.length yn2, .slice y3 (ofL r.params.f3).length yn3]) (t := 46) (Ctx.cons (uK k44 T1 _ (ofS r.id)) kx (Ctx.cons (uK k44 T1 _ (ofS r.params)) ky (Ctx.cons (uK k44 T1 _ (ofS r.fid)) kz (K.out.below hb)))));clear kx ky kz hb h3 h4 h8 h9 h13 h14 H6 K hc;simp only [World.size_alloc] at C
 go_upto_region 5 with fail
 refine absW _ C ?_;clear C;intro w C;refine flowT (n := 52) tab4_5 rfl (Ctx _) (Rl [uEq (.bool true), uEq (.bool true), uEq (.bool r.ok), uEq (.bool r.ok), uEq (.bool true), uEq (.bool true), uEq (.bool true), uEq (.pointer (some ⟨W1.heap.size, 0, none⟩)), uEq (.bool r.has), uEq (.pointer (some ⟨W2.heap.size, 0, none⟩)), uEq (.bool r.has), uEq (.bool true), uEq (.bool true), uEq (.bool true), uEq (.pointer (some ⟨W1.heap.size, 5, none⟩)), uEq (.string r.method), uEq (.pointer (some ⟨W2.heap.size, 5, none⟩)), uEq (.string r.method), uEq (.bool true), uEq (.bool true), uEq (.bool true), uEq (.pointer (some ⟨W1.heap.size, 1, none⟩)), uEq (.agg #[.int .i64 r.id.f0, .string r.id.f1, .slice a2 r.id.f2.length an2, .slice a3 r.id.f3.length an3]), uKd k44 T1 (ofS r.id), uEq (.pointer (some ⟨W2.heap.size, 1, none⟩)), uEq (.agg #[.int .i64 r.id.f0, .string r.id.f1, .slice x2 r.id.f2.length xn2, .slice x3 (ofL r.id.f3).length xn3]), uEq (.bool true), uEq (.bool true), uEq (.bool true), uEq (.pointer (some ⟨W1.heap.size, 6, none⟩)), uEq (.agg #[.int .i64 r.params.f0, .string r.params.f1, .slice b2 r.params.f2.length bn2, .slice b3 r.params.f3.length bn3]), uKd k44 T1 (ofS r.params), uEq (.pointer (some ⟨W2.heap.size, 6, none⟩)), uEq (.agg #[.int .i64 r.params.f0, .string r.params.f1, .slice y2 r.params.f2.length yn2, .slice y3 (ofL r.params.f3).length yn3]), uEq (.bool true), uEq (.bool true), uEq (.bool true), uEq (.pointer (some ⟨W1.heap.size + 1, 0, none⟩)), uEq (.int .i64 r.code), uEq (.pointer (some ⟨W2.heap.size + 1, 0, none⟩)), uEq (.int .i64 r.code), uEq (.bool true), uEq (.bool true), uEq (.bool true), uEq (.pointer (some ⟨W1.heap.size + 1, 1, none⟩)), uEq (.agg #[.int .i64 r.fid.f0, .string r.fid.f1, .slice c2 r.fid.f2.length cn2, .slice c3 r.fid.f3.length cn3]), uKd k44 T1 (ofS r.fid), uEq (.pointer (some ⟨W2.heap.size + 1, 1, none⟩)), uEq (.agg #[.int .i64 r.fid.f0, .string r.fid.f1, .slice z2 r.fid.f2.length zn2, .slice z3 (ofL r.fid.f3).length zn3]), uEq (.bool true), uEq (.bool true), uEq (.bool true)]) rfl (by kernel_rfl) (fun _ _ h hb => h.below hb) (Rl.up _) C ⟨⟨⟨⟨⟨⟨⟨⟨⟨⟨⟨⟨⟨⟨⟨⟨⟨⟨⟨⟨⟨⟨⟨⟨⟨⟨⟨⟨⟨⟨⟨⟨⟨⟨⟨⟨⟨⟨⟨⟨⟨⟨⟨⟨⟨⟨⟨⟨⟨⟨⟨⟨trivial, ?_⟩, ?_⟩, ?_⟩, ?_⟩, ?_⟩, ?_⟩, ?_⟩, ?_⟩, ?_⟩, ?_⟩, ?_⟩, ?_⟩, ?_⟩, ?_⟩, ?_⟩, ?_⟩, ?_⟩, ?_⟩, ?_⟩, ?_⟩, ?_⟩, ?_⟩, ?_⟩, ?_⟩, ?_⟩, ?_⟩, ?_⟩, ?_⟩, ?_⟩, ?_⟩, ?_⟩, ?_⟩, ?_⟩, ?_⟩, ?_⟩, ?_⟩, ?_⟩, ?_⟩, ?_⟩, ?_⟩, ?_⟩, ?_⟩, ?_⟩, ?_⟩, ?_⟩, ?_⟩, ?_⟩, ?_⟩, ?_⟩, ?_⟩, ?_⟩, ?_⟩ ?_
 ·refine At.of _ rfl (fun e a w hC hd hb K hK => ?_)
  refine goes_ Tryd.func14 (by kernel_rfl) rfl #[] (by rfl) rfl rfl (by first | (simp [Act.eval]; done) | (simp [Act.eval]; rfl)) ?_;refine ((L6q_called.calls true w rfl hC.2.2.2.2.2.2.2.2.2.2.2.1).mono (fun _ _ h => show EPost (.bool true) w _ _ from ⟨_, h.1, rfl, h.2⟩)).mono ?_;rintro en w' ⟨v, rfl, hv, hb'⟩;exact ⟨v, rfl, hK.out v w' hb' hv⟩
 ·refine At.of _ rfl (fun e a w hC hd hb K hK => ?_)
  have q0 := (hd 0 (by decide)).2 25 rfl;rw [show e 0 = _ from (hd 0 (by decide)).1] at q0;refine value_ (w1 := w) (v := .bool true) (by rfl) rfl ?_ (hK.out _ _ (Below.refl _ _) rfl);clear hC hd hb hK
  first | (go_simp; done) | (go_simp; rfl)
 ·refine At.of _ rfl (fun e a w hC hd hb K hK => ?_)
  have g1 := (hd 1 (by decide)).2 26 rfl;rw [show e 1 = _ from (hd 1 (by decide)).1] at g1;have b5 : a.tmps[5]? = some (.bool r.ok) := hb 5 (by decide);refine value_ (w1 := w) (v := .bool r.ok) (by simp [Region.wanted, yielded, g1]) rfl ?_ (hK.out _ _ (Below.refl _ _) rfl);clear hC hd hb hK
  first | (go_simp; done) | (go_simp; rfl)
 ·refine At.of _ rfl (fun e a w hC hd hb K hK => ?_)
  have g1 := (hd 1 (by decide)).2 26 rfl;rw [show e 1 = _ from (hd 1 (by decide)).1] at g1;have b8 : a.tmps[8]? = some (.bool r.ok) := hb 8 (by decide);refine value_ (w1 := w) (v := .bool r.ok) (by simp [Region.wanted, yielded, g1]) rfl ?_ (hK.out _ _ (Below.refl _ _) rfl);clear hC hd hb hK
  first | (go_simp; done) | (go_simp; rfl)
 ·refine At.of _ rfl (fun e a w hC hd hb K hK => ?_)
  have g1 := (hd 1 (by decide)).2 26 rfl;rw [show e 1 = _ from (hd 1 (by decide)).1] at g1;have q2 := (hd 2 (by decide)).2 27 rfl;rw [show e 2 = _ from (hd 2 (by decide)).1] at q2;have q3 := (hd 3 (by decide)).2 28 rfl;rw [show e 3 = _ from (hd 3 (by decide)).1] at q3;refine value_ (w1 := w) (v := .bool true) (by simp [Region.wanted, yielded, g1]) rfl ?_ (hK.out _ _ (Below.refl _ _) rfl);clear hC hd hb hK
  first | (go_simp; done) | (go_simp; rfl)
 ·refine At.of _ rfl (fun e a w hC hd hb K hK => ?_)
  have q1 := (hd 1 (by decide)).2 26 rfl;rw [show e 1 = _ from (hd 1 (by decide)).1] at q1;have q4 := (hd 4 (by decide)).2 29 rfl;rw [show e 4 = _ from (hd 4 (by decide)).1] at q4;refine value_ (w1 := w) (v := .bool true) (by rfl) rfl ?_ (hK.out _ _ (Below.refl _ _) rfl);clear hC hd hb hK
  first | (go_simp; done) | (go_simp; rfl)
 ·refine At.of _ rfl (fun e a w hC hd hb K hK => ?_)
  have q5 := (hd 5 (by decide)).2 30 rfl;rw [show e 5 = _ from (hd 5 (by decide)).1] at q5;refine value_ (w1 := w) (v := .bool true) (by rfl) rfl ?_ (hK.out _ _ (Below.refl _ _) rfl);clear hC hd hb hK
  first | (go_simp; done) | (go_simp; rfl)
 ·refine At.of _ rfl (fun e a w hC hd hb K hK => ?_)
  have g6 := (hd 6 (by decide)).2 31 rfl;rw [show e 6 = _ from (hd 6 (by decide)).1] at g6;have b3 : a.tmps[3]? = some (.pointer (some ⟨W1.heap.size, 0, none⟩)) := hb 3 (by decide);refine value_ (w1 := w) (v := .pointer (some ⟨W1.heap.size, 0, none⟩)) (by simp [Region.wanted, yielded, g6]) rfl ?_ (hK.out _ _ (Below.refl _ _) rfl);clear hC hd hb hK
  first | (go_simp; done) | (go_simp; rfl)
 ·refine At.of _ rfl (fun e a w hC hd hb K hK => ?_)
  have g6 := (hd 6 (by decide)).2 31 rfl;rw [show e 6 = _ from (hd 6 (by decide)).1] at g6;have q7 := (hd 7 (by decide)).2 32 rfl;rw [show e 7 = _ from (hd 7 (by decide)).1] at q7;have cc0 : w.cell? ⟨W1.heap.size, 0, none⟩ = some (.bool r.has) := Ctx.blk hC.2.2.2.2.2.2.1 0 rfl;refine value_ (w1 := w) (v := .bool r.has) (by simp [Region.wanted, yielded, g6]) rfl ?_ (hK.out _ _ (Below.refl _ _) rfl);clear hC hd hb hK
  first | (go_simp; done) | (go_simp; rfl)
 ·refine At.of _ rfl (fun e a w hC hd hb K hK => ?_)
  have g6 := (hd 6 (by decide)).2 31 rfl;rw [show e 6 = _ from (hd 6 (by decide)).1] at g6;have b6 : a.tmps[6]? = some (.pointer (some ⟨W2.heap.size, 0, none⟩)) := hb 6 (by decide);refine value_ (w1 := w) (v := .pointer (some ⟨W2.heap.size, 0, none⟩)) (by simp [Region.wanted, yielded, g6]) rfl ?_ (hK.out _ _ (Below.refl _ _) rfl);clear hC hd hb hK
  first | (go_simp; done) | (go_simp; rfl)
 ·refine At.of _ rfl (fun e a w hC hd hb K hK => ?_)
  have g6 := (hd 6 (by decide)).2 31 rfl;rw [show e 6 = _ from (hd 6 (by decide)).1] at g6;have q9 := (hd 9 (by decide)).2 34 rfl;rw [show e 9 = _ from (hd 9 (by decide)).1] at q9;have cc0 : w.cell? ⟨W2.heap.size, 0, none⟩ = some (.bool r.has) := Ctx.blk hC.2.1 0 rfl;refine value_ (w1 := w) (v := .bool r.has) (by simp [Region.wanted, yielded, g6]) rfl ?_ (hK.out _ _ (Below.refl _ _) rfl);clear hC hd hb hK
  first | (go_simp; done) | (go_simp; rfl)
 ·refine At.of _ rfl (fun e a w hC hd hb K hK => ?_)
  have g6 := (hd 6 (by decide)).2 31 rfl;rw [show e 6 = _ from (hd 6 (by decide)).1] at g6;have q8 := (hd 8 (by decide)).2 33 rfl;rw [show e 8 = _ from (hd 8 (by decide)).1] at q8;have q10 := (hd 10 (by decide)).2 35 rfl;rw [show e 10 = _ from (hd 10 (by decide)).1] at q10;refine value_ (w1 := w) (v := .bool true) (by simp [Region.wanted, yielded, g6]) rfl ?_ (hK.out _ _ (Below.refl _ _) rfl);clear hC hd hb hK
  first | (go_simp; done) | (go_simp; rfl)
 ·refine At.of _ rfl (fun e a w hC hd hb K hK => ?_)
  have q6 := (hd 6 (by decide)).2 31 rfl;rw [show e 6 = _ from (hd 6 (by decide)).1] at q6;have q11 := (hd 11 (by decide)).2 36 rfl;rw [show e 11 = _ from (hd 11 (by decide)).1] at q11;refine value_ (w1 := w) (v := .bool true) (by rfl) rfl ?_ (hK.out _ _ (Below.refl _ _) rfl);clear hC hd hb hK
  first | (go_simp; done) | (go_simp; rfl)
 ·refine At.of _ rfl (fun e a w hC hd hb K hK => ?_)
  have q12 := (hd 12 (by decide)).2 37 rfl;rw [show e 12 = _ from (hd 12 (by decide)).1] at q12;refine value_ (w1 := w) (v := .bool true) (by rfl) rfl ?_ (hK.out _ _ (Below.refl _ _) rfl);clear hC hd hb hK
  first | (go_simp; done) | (go_simp; rfl)
 ·refine At.of _ rfl (fun e a w hC hd hb K hK => ?_)
  have g13 := (hd 13 (by decide)).2 38 rfl;rw [show e 13 = _ from (hd 13 (by decide)).1] at g13;have b3 : a.tmps[3]? = some (.pointer (some ⟨W1.heap.size, 0, none⟩)) := hb 3 (by decide);refine value_ (w1 := w) (v := .pointer (some ⟨W1.heap.size, 5, none⟩)) (by simp [Region.wanted, yielded, g13]) rfl ?_ (hK.out _ _ (Below.refl _ _) rfl);clear hC hd hb hK
  first | (go_simp; done) | (go_simp; rfl)
 ·refine At.of _ rfl (fun e a w hC hd hb K hK => ?_)
  have g13 := (hd 13 (by decide)).2 38 rfl;rw [show e 13 = _ from (hd 13 (by decide)).1] at g13;have q14 := (hd 14 (by decide)).2 39 rfl;rw [show e 14 = _ from (hd 14 (by decide)).1] at q14;have cc5 : w.cell? ⟨W1.heap.size, 5, none⟩ = some (.string r.method) := Ctx.blk hC.2.2.2.2.2.2.1 5 rfl;refine value_ (w1 := w) (v := .string r.method) (by simp [Region.wanted, yielded, g13]) rfl ?_ (hK.out _ _ (Below.refl _ _) rfl);clear hC hd hb hK
  first | (go_simp; done) | (go_simp; rfl)
 ·refine At.of _ rfl (fun e a w hC hd hb K hK => ?_)
  have g13 := (hd 13 (by decide)).2 38 rfl;rw [show e 13 = _ from (hd 13 (by decide)).1] at g13;have b6 : a.tmps[6]? = some (.pointer (some ⟨W2.heap.size, 0, none⟩)) := hb 6 (by decide);refine value_ (w1 := w) (v := .pointer (some ⟨W2.heap.size, 5, none⟩)) (by simp [Region.wanted, yielded, g13]) rfl ?_ (hK.out _ _ (Below.refl _ _) rfl);clear hC hd hb hK
  first | (go_simp; done) | (go_simp; rfl)
 ·refine At.of _ rfl (fun e a w hC hd hb K hK => ?_)
  have g13 := (hd 13 (by decide)).2 38 rfl;rw [show e 13 = _ from (hd 13 (by decide)).1] at g13;have q16 := (hd 16 (by decide)).2 41 rfl;rw [show e 16 = _ from (hd 16 (by decide)).1] at q16;have cc5 : w.cell? ⟨W2.heap.size, 5, none⟩ = some (.string r.method) := Ctx.blk hC.2.1 5 rfl;refine value_ (w1 := w) (v := .string r.method) (by simp [Region.wanted, yielded, g13]) rfl ?_ (hK.out _ _ (Below.refl _ _) rfl);clear hC hd hb hK
  first | (go_simp; done) | (go_simp; rfl)
 ·refine At.of _ rfl (fun e a w hC hd hb K hK => ?_)
  have g13 := (hd 13 (by decide)).2 38 rfl;rw [show e 13 = _ from (hd 13 (by decide)).1] at g13;have q15 := (hd 15 (by decide)).2 40 rfl;rw [show e 15 = _ from (hd 15 (by decide)).1] at q15;have q17 := (hd 17 (by decide)).2 42 rfl;rw [show e 17 = _ from (hd 17 (by decide)).1] at q17;refine value_ (w1 := w) (v := .bool true) (by simp [Region.wanted, yielded, g13]) rfl ?_ (hK.out _ _ (Below.refl _ _) rfl);clear hC hd hb hK
  first | (go_simp; done) | (go_simp; rfl)
 ·refine At.of _ rfl (fun e a w hC hd hb K hK => ?_)
  have q13 := (hd 13 (by decide)).2 38 rfl;rw [show e 13 = _ from (hd 13 (by decide)).1] at q13;have q18 := (hd 18 (by decide)).2 43 rfl;rw [show e 18 = _ from (hd 18 (by decide)).1] at q18;refine value_ (w1 := w) (v := .bool true) (by rfl) rfl ?_ (hK.out _ _ (Below.refl _ _) rfl);clear hC hd hb hK
  first | (go_simp; done) | (go_simp; rfl)
 ·refine At.of _ rfl (fun e a w hC hd hb K hK => ?_)
  have q19 := (hd 19 (by decide)).2 44 rfl;rw [show e 19 = _ from (hd 19 (by decide)).1] at q19;refine value_ (w1 := w) (v := .bool true) (by rfl) rfl ?_ (hK.out _ _ (Below.refl _ _) rfl);clear hC hd hb hK
  first | (go_simp; done) | (go_simp; rfl)
 ·refine At.of _ rfl (fun e a w hC hd hb K hK => ?_)
  have g20 := (hd 20 (by decide)).2 45 rfl;rw [show e 20 = _ from (hd 20 (by decide)).1] at g20;have b3 : a.tmps[3]? = some (.pointer (some ⟨W1.heap.size, 0, none⟩)) := hb 3 (by decide);refine value_ (w1 := w) (v := .pointer (some ⟨W1.heap.size, 1, none⟩)) (by simp [Region.wanted, yielded, g20]) rfl ?_ (hK.out _ _ (Below.refl _ _) rfl);clear hC hd hb hK
  first | (go_simp; done) | (go_simp; rfl)
 ·refine At.of _ rfl (fun e a w hC hd hb K hK => ?_)
  have g20 := (hd 20 (by decide)).2 45 rfl;rw [show e 20 = _ from (hd 20 (by decide)).1] at g20;have q21 := (hd 21 (by decide)).2 46 rfl;rw [show e 21 = _ from (hd 21 (by decide)).1] at q21;have cc1 : w.cell? ⟨W1.heap.size, 1, none⟩ = some (.int .i64 r.id.f0) := Ctx.blk hC.2.2.2.2.2.2.1 1 rfl;have cc2 : w.cell? ⟨W1.heap.size, 2, none⟩ = some (.string r.id.f1) := Ctx.blk hC.2.2.2.2.2.2.1 2 rfl;have cc3 : w.cell? ⟨W1.heap.size, 3, none⟩ = some (.slice a2 r.id.f2.length an2) := Ctx.blk hC.2.2.2.2.2.2.1 3 rfl;have cc4 : w.cell? ⟨W1.heap.size, 4, none⟩ = some (.slice a3 r.id.f3.length an3) := Ctx.blk hC.2.2.2.2.2.2.1 4 rfl;refine value_ (w1 := w) (v := .agg #[.int .i64 r.id.f0, .string r.id.f1, .slice a2 r.id.f2.length an2, .slice a3 r.id.f3.length an3]) (by simp [Region.wanted, yielded, g20]) rfl ?_ (hK.out _ _ (Below.refl _ _) rfl);clear hC hd hb hK
  first | (go_simp; done) | (go_simp; rfl)
 ·refine At.of _ rfl (fun e a w hC hd hb K hK => ?_)
  have g20 := (hd 20 (by decide)).2 45 rfl;rw [show e 20 = _ from (hd 20 (by decide)).1] at g20;have q22 := (hd 22 (by decide)).2 47 rfl;rw [show e 22 = _ from (hd 22 (by decide)).1] at q22;refine goes_ Tryd.func18 (by kernel_rfl) rfl #[.agg #[.int .i64 r.id.f0, .string r.id.f1, .slice a2 r.id.f2.length an2, .slice a3 r.id.f3.length an3]] (by simp [Region.wanted, yielded, g20]) rfl rfl (by first | (simp [Act.eval, q22]; done) | (simp [Act.eval, q22]; rfl)) ?_;refine (ofJ k _ r.id (ofS r.id) w (fun _ _ => trivial) hC.2.2.2.2.2.2.2.1 F1.out).mono ?_;rintro en w' ⟨v, rfl, hv, hb'⟩;exact ⟨v, rfl, hK.out v w' hb' hv⟩
 ·refine At.of _ rfl (fun e a w hC hd hb K hK => ?_)
  have g20 := (hd 20 (by decide)).2 45 rfl;rw [show e 20 = _ from (hd 20 (by decide)).1] at g20;have b6 : a.tmps[6]? = some (.pointer (some ⟨W2.heap.size, 0, none⟩)) := hb 6 (by decide);refine value_ (w1 := w) (v := .pointer (some ⟨W2.heap.size, 1, none⟩)) (by simp [Region.wanted, yielded, g20]) rfl ?_ (hK.out _ _ (Below.refl _ _) rfl);clear hC hd hb hK
  first | (go_simp; done) | (go_simp; rfl)
 ·refine At.of _ rfl (fun e a w hC hd hb K hK => ?_)
  have g20 := (hd 20 (by decide)).2 45 rfl;rw [show e 20 = _ from (hd 20 (by decide)).1] at g20;have q24 := (hd 24 (by decide)).2 49 rfl;rw [show e 24 = _ from (hd 24 (by decide)).1] at q24;have cc1 : w.cell? ⟨W2.heap.size, 1, none⟩ = some (.int .i64 r.id.f0) := Ctx.blk hC.2.1 1 rfl;have cc2 : w.cell? ⟨W2.heap.size, 2, none⟩ = some (.string r.id.f1) := Ctx.blk hC.2.1 2 rfl;have cc3 : w.cell? ⟨W2.heap.size, 3, none⟩ = some (.slice x2 r.id.f2.length xn2) := Ctx.blk hC.2.1 3 rfl;have cc4 : w.cell? ⟨W2.heap.size, 4, none⟩ = some (.slice x3 (ofL r.id.f3).length xn3) := Ctx.blk hC.2.1 4 rfl;refine value_ (w1 := w) (v := .agg #[.int .i64 r.id.f0, .string r.id.f1, .slice x2 r.id.f2.length xn2, .slice x3 (ofL r.id.f3).length xn3]) (by simp [Region.wanted, yielded, g20]) rfl ?_ (hK.out _ _ (Below.refl _ _) rfl);clear hC hd hb hK
  first | (go_simp; done) | (go_simp; rfl)
 ·refine At.of _ rfl (fun e a w hC hd hb K hK => ?_)
  have g20 := (hd 20 (by decide)).2 45 rfl;rw [show e 20 = _ from (hd 20 (by decide)).1] at g20;have q23 := (hd 23 (by decide)).2 48 rfl;have q25 := (hd 25 (by decide)).2 50 rfl;rw [show e 25 = _ from (hd 25 (by decide)).1] at q25;refine goes_ Tryd.func17 (by kernel_rfl) rfl #[e 23, .agg #[.int .i64 r.id.f0, .string r.id.f1, .slice x2 r.id.f2.length xn2, .slice x3 (ofL r.id.f3).length xn3]] (by simp [Region.wanted, yielded, g20]) rfl rfl (by first | (simp [Act.eval, q23, q25]; done) | (simp [Act.eval, q23, q25]; rfl)) ?_;refine (equal44 (show Kv k44 T1 w (e 23) (ofS r.id) from (hd 23 (by decide)).1) hC.2.2.1).mono ?_;rintro en w' ⟨v, rfl, hv, hb'⟩;exact ⟨v, rfl, hK.out v w' hb' hv⟩
 ·refine At.of _ rfl (fun e a w hC hd hb K hK => ?_)
  have q20 := (hd 20 (by decide)).2 45 rfl;rw [show e 20 = _ from (hd 20 (by decide)).1] at q20;have q26 := (hd 26 (by decide)).2 51 rfl;rw [show e 26 = _ from (hd 26 (by decide)).1] at q26;refine value_ (w1 := w) (v := .bool true) (by rfl) rfl ?_ (hK.out _ _ (Below.refl _ _) rfl);clear hC hd hb hK
  first | (go_simp; done) | (go_simp; rfl)
 ·refine At.of _ rfl (fun e a w hC hd hb K hK => ?_)
  have q27 := (hd 27 (by decide)).2 52 rfl;rw [show e 27 = _ from (hd 27 (by decide)).1] at q27;refine value_ (w1 := w) (v := .bool true) (by rfl) rfl ?_ (hK.out _ _ (Below.refl _ _) rfl);clear hC hd hb hK
  first | (go_simp; done) | (go_simp; rfl)
 ·refine At.of _ rfl (fun e a w hC hd hb K hK => ?_)
  have g28 := (hd 28 (by decide)).2 53 rfl;rw [show e 28 = _ from (hd 28 (by decide)).1] at g28;have b3 : a.tmps[3]? = some (.pointer (some ⟨W1.heap.size, 0, none⟩)) := hb 3 (by decide);refine value_ (w1 := w) (v := .pointer (some ⟨W1.heap.size, 6, none⟩)) (by simp [Region.wanted, yielded, g28]) rfl ?_ (hK.out _ _ (Below.refl _ _) rfl);clear hC hd hb hK
  first | (go_simp; done) | (go_simp; rfl)
 ·refine At.of _ rfl (fun e a w hC hd hb K hK => ?_)
  have g28 := (hd 28 (by decide)).2 53 rfl;rw [show e 28 = _ from (hd 28 (by decide)).1] at g28;have q29 := (hd 29 (by decide)).2 54 rfl;rw [show e 29 = _ from (hd 29 (by decide)).1] at q29;have cc6 : w.cell? ⟨W1.heap.size, 6, none⟩ = some (.int .i64 r.params.f0) := Ctx.blk hC.2.2.2.2.2.2.1 6 rfl;have cc7 : w.cell? ⟨W1.heap.size, 7, none⟩ = some (.string r.params.f1) := Ctx.blk hC.2.2.2.2.2.2.1 7 rfl;have cc8 : w.cell? ⟨W1.heap.size, 8, none⟩ = some (.slice b2 r.params.f2.length bn2) := Ctx.blk hC.2.2.2.2.2.2.1 8 rfl;have cc9 : w.cell? ⟨W1.heap.size, 9, none⟩ = some (.slice b3 r.params.f3.length bn3) := Ctx.blk hC.2.2.2.2.2.2.1 9 rfl;refine value_ (w1 := w) (v := .agg #[.int .i64 r.params.f0, .string r.params.f1, .slice b2 r.params.f2.length bn2, .slice b3 r.params.f3.length bn3]) (by simp [Region.wanted, yielded, g28]) rfl ?_ (hK.out _ _ (Below.refl _ _) rfl);clear hC hd hb hK
  first | (go_simp; done) | (go_simp; rfl)
 ·refine At.of _ rfl (fun e a w hC hd hb K hK => ?_)
  have g28 := (hd 28 (by decide)).2 53 rfl;rw [show e 28 = _ from (hd 28 (by decide)).1] at g28;have q30 := (hd 30 (by decide)).2 55 rfl;rw [show e 30 = _ from (hd 30 (by decide)).1] at q30;refine goes_ Tryd.func18 (by kernel_rfl) rfl #[.agg #[.int .i64 r.params.f0, .string r.params.f1, .slice b2 r.params.f2.length bn2, .slice b3 r.params.f3.length bn3]] (by simp [Region.wanted, yielded, g28]) rfl rfl (by first | (simp [Act.eval, q30]; done) | (simp [Act.eval, q30]; rfl)) ?_;refine (ofJ k _ r.params (ofS r.params) w (fun _ _ => trivial) hC.2.2.2.2.2.2.2.2.1 F2.out).mono ?_;rintro en w' ⟨v, rfl, hv, hb'⟩;exact ⟨v, rfl, hK.out v w' hb' hv⟩
 ·refine At.of _ rfl (fun e a w hC hd hb K hK => ?_)
  have g28 := (hd 28 (by decide)).2 53 rfl;rw [show e 28 = _ from (hd 28 (by decide)).1] at g28;have b6 : a.tmps[6]? = some (.pointer (some ⟨W2.heap.size, 0, none⟩)) := hb 6 (by decide);refine value_ (w1 := w) (v := .pointer (some ⟨W2.heap.size, 6, none⟩)) (by simp [Region.wanted, yielded, g28]) rfl ?_ (hK.out _ _ (Below.refl _ _) rfl);clear hC hd hb hK
  first | (go_simp; done) | (go_simp; rfl)
 ·refine At.of _ rfl (fun e a w hC hd hb K hK => ?_)
  have g28 := (hd 28 (by decide)).2 53 rfl;rw [show e 28 = _ from (hd 28 (by decide)).1] at g28;have q32 := (hd 32 (by decide)).2 57 rfl;rw [show e 32 = _ from (hd 32 (by decide)).1] at q32;have cc6 : w.cell? ⟨W2.heap.size, 6, none⟩ = some (.int .i64 r.params.f0) := Ctx.blk hC.2.1 6 rfl;have cc7 : w.cell? ⟨W2.heap.size, 7, none⟩ = some (.string r.params.f1) := Ctx.blk hC.2.1 7 rfl;have cc8 : w.cell? ⟨W2.heap.size, 8, none⟩ = some (.slice y2 r.params.f2.length yn2) := Ctx.blk hC.2.1 8 rfl;have cc9 : w.cell? ⟨W2.heap.size, 9, none⟩ = some (.slice y3 (ofL r.params.f3).length yn3) := Ctx.blk hC.2.1 9 rfl;refine value_ (w1 := w) (v := .agg #[.int .i64 r.params.f0, .string r.params.f1, .slice y2 r.params.f2.length yn2, .slice y3 (ofL r.params.f3).length yn3]) (by simp [Region.wanted, yielded, g28]) rfl ?_ (hK.out _ _ (Below.refl _ _) rfl);clear hC hd hb hK
  first | (go_simp; done) | (go_simp; rfl)
 ·refine At.of _ rfl (fun e a w hC hd hb K hK => ?_)
  have g28 := (hd 28 (by decide)).2 53 rfl;rw [show e 28 = _ from (hd 28 (by decide)).1] at g28;have q31 := (hd 31 (by decide)).2 56 rfl;have q33 := (hd 33 (by decide)).2 58 rfl;rw [show e 33 = _ from (hd 33 (by decide)).1] at q33;refine goes_ Tryd.func17 (by kernel_rfl) rfl #[e 31, .agg #[.int .i64 r.params.f0, .string r.params.f1, .slice y2 r.params.f2.length yn2, .slice y3 (ofL r.params.f3).length yn3]] (by simp [Region.wanted, yielded, g28]) rfl rfl (by first | (simp [Act.eval, q31, q33]; done) | (simp [Act.eval, q31, q33]; rfl)) ?_;refine (equal44 (show Kv k44 T1 w (e 31) (ofS r.params) from (hd 31 (by decide)).1) hC.2.2.2.1).mono ?_;rintro en w' ⟨v, rfl, hv, hb'⟩;exact ⟨v, rfl, hK.out v w' hb' hv⟩
 ·refine At.of _ rfl (fun e a w hC hd hb K hK => ?_)
  have q28 := (hd 28 (by decide)).2 53 rfl;rw [show e 28 = _ from (hd 28 (by decide)).1] at q28;have q34 := (hd 34 (by decide)).2 59 rfl;rw [show e 34 = _ from (hd 34 (by decide)).1] at q34;refine value_ (w1 := w) (v := .bool true) (by rfl) rfl ?_ (hK.out _ _ (Below.refl _ _) rfl);clear hC hd hb hK
  first | (go_simp; done) | (go_simp; rfl)
 ·refine At.of _ rfl (fun e a w hC hd hb K hK => ?_)
  have q35 := (hd 35 (by decide)).2 60 rfl;rw [show e 35 = _ from (hd 35 (by decide)).1] at q35;refine value_ (w1 := w) (v := .bool true) (by rfl) rfl ?_ (hK.out _ _ (Below.refl _ _) rfl);clear hC hd hb hK
  first | (go_simp; done) | (go_simp; rfl)
 ·refine At.of _ rfl (fun e a w hC hd hb K hK => ?_)
  have g36 := (hd 36 (by decide)).2 61 rfl;rw [show e 36 = _ from (hd 36 (by decide)).1] at g36;have b4 : a.tmps[4]? = some (.pointer (some ⟨W1.heap.size + 1, 0, none⟩)) := hb 4 (by decide);refine value_ (w1 := w) (v := .pointer (some ⟨W1.heap.size + 1, 0, none⟩)) (by simp [Region.wanted, yielded, g36]) rfl ?_ (hK.out _ _ (Below.refl _ _) rfl);clear hC hd hb hK
  first | (go_simp; done) | (go_simp; rfl)
 ·refine At.of _ rfl (fun e a w hC hd hb K hK => ?_)
  have g36 := (hd 36 (by decide)).2 61 rfl;rw [show e 36 = _ from (hd 36 (by decide)).1] at g36;have q37 := (hd 37 (by decide)).2 62 rfl;rw [show e 37 = _ from (hd 37 (by decide)).1] at q37;have cc0 : w.cell? ⟨W1.heap.size + 1, 0, none⟩ = some (.int .i64 r.code) := Ctx.blk hC.2.2.2.2.2.1 0 rfl;refine value_ (w1 := w) (v := .int .i64 r.code) (by simp [Region.wanted, yielded, g36]) rfl ?_ (hK.out _ _ (Below.refl _ _) rfl);clear hC hd hb hK
  first | (go_simp; done) | (go_simp; rfl)
 ·refine At.of _ rfl (fun e a w hC hd hb K hK => ?_)
  have g36 := (hd 36 (by decide)).2 61 rfl;rw [show e 36 = _ from (hd 36 (by decide)).1] at g36;have b7 : a.tmps[7]? = some (.pointer (some ⟨W2.heap.size + 1, 0, none⟩)) := hb 7 (by decide);refine value_ (w1 := w) (v := .pointer (some ⟨W2.heap.size + 1, 0, none⟩)) (by simp [Region.wanted, yielded, g36]) rfl ?_ (hK.out _ _ (Below.refl _ _) rfl);clear hC hd hb hK
  first | (go_simp; done) | (go_simp; rfl)
 ·refine At.of _ rfl (fun e a w hC hd hb K hK => ?_)
  have g36 := (hd 36 (by decide)).2 61 rfl;rw [show e 36 = _ from (hd 36 (by decide)).1] at g36;have q39 := (hd 39 (by decide)).2 64 rfl;rw [show e 39 = _ from (hd 39 (by decide)).1] at q39;have cc0 : w.cell? ⟨W2.heap.size + 1, 0, none⟩ = some (.int .i64 r.code) := Ctx.blk hC.1 0 rfl;refine value_ (w1 := w) (v := .int .i64 r.code) (by simp [Region.wanted, yielded, g36]) rfl ?_ (hK.out _ _ (Below.refl _ _) rfl);clear hC hd hb hK
  first | (go_simp; done) | (go_simp; rfl)
 ·refine At.of _ rfl (fun e a w hC hd hb K hK => ?_)
  have g36 := (hd 36 (by decide)).2 61 rfl;rw [show e 36 = _ from (hd 36 (by decide)).1] at g36;have q38 := (hd 38 (by decide)).2 63 rfl;rw [show e 38 = _ from (hd 38 (by decide)).1] at q38;have q40 := (hd 40 (by decide)).2 65 rfl;rw [show e 40 = _ from (hd 40 (by decide)).1] at q40;refine value_ (w1 := w) (v := .bool true) (by simp [Region.wanted, yielded, g36]) rfl ?_ (hK.out _ _ (Below.refl _ _) rfl);clear hC hd hb hK
  first | (go_simp; done) | (go_simp; rfl)
 ·refine At.of _ rfl (fun e a w hC hd hb K hK => ?_)
  have q36 := (hd 36 (by decide)).2 61 rfl;rw [show e 36 = _ from (hd 36 (by decide)).1] at q36;have q41 := (hd 41 (by decide)).2 66 rfl;rw [show e 41 = _ from (hd 41 (by decide)).1] at q41;refine value_ (w1 := w) (v := .bool true) (by rfl) rfl ?_ (hK.out _ _ (Below.refl _ _) rfl);clear hC hd hb hK
  first | (go_simp; done) | (go_simp; rfl)
 ·refine At.of _ rfl (fun e a w hC hd hb K hK => ?_)
  have q42 := (hd 42 (by decide)).2 67 rfl;rw [show e 42 = _ from (hd 42 (by decide)).1] at q42;refine value_ (w1 := w) (v := .bool true) (by rfl) rfl ?_ (hK.out _ _ (Below.refl _ _) rfl);clear hC hd hb hK
  first | (go_simp; done) | (go_simp; rfl)
 ·refine At.of _ rfl (fun e a w hC hd hb K hK => ?_)
  have g43 := (hd 43 (by decide)).2 68 rfl;rw [show e 43 = _ from (hd 43 (by decide)).1] at g43;have b4 : a.tmps[4]? = some (.pointer (some ⟨W1.heap.size + 1, 0, none⟩)) := hb 4 (by decide);refine value_ (w1 := w) (v := .pointer (some ⟨W1.heap.size + 1, 1, none⟩)) (by simp [Region.wanted, yielded, g43]) rfl ?_ (hK.out _ _ (Below.refl _ _) rfl);clear hC hd hb hK
  first | (go_simp; done) | (go_simp; rfl)
 ·refine At.of _ rfl (fun e a w hC hd hb K hK => ?_)
  have g43 := (hd 43 (by decide)).2 68 rfl;rw [show e 43 = _ from (hd 43 (by decide)).1] at g43;have q44 := (hd 44 (by decide)).2 69 rfl;rw [show e 44 = _ from (hd 44 (by decide)).1] at q44;have cc1 : w.cell? ⟨W1.heap.size + 1, 1, none⟩ = some (.int .i64 r.fid.f0) := Ctx.blk hC.2.2.2.2.2.1 1 rfl;have cc2 : w.cell? ⟨W1.heap.size + 1, 2, none⟩ = some (.string r.fid.f1) := Ctx.blk hC.2.2.2.2.2.1 2 rfl;have cc3 : w.cell? ⟨W1.heap.size + 1, 3, none⟩ = some (.slice c2 r.fid.f2.length cn2) := Ctx.blk hC.2.2.2.2.2.1 3 rfl;have cc4 : w.cell? ⟨W1.heap.size + 1, 4, none⟩ = some (.slice c3 r.fid.f3.length cn3) := Ctx.blk hC.2.2.2.2.2.1 4 rfl;refine value_ (w1 := w) (v := .agg #[.int .i64 r.fid.f0, .string r.fid.f1, .slice c2 r.fid.f2.length cn2, .slice c3 r.fid.f3.length cn3]) (by simp [Region.wanted, yielded, g43]) rfl ?_ (hK.out _ _ (Below.refl _ _) rfl);clear hC hd hb hK
  first | (go_simp; done) | (go_simp; rfl)
 ·refine At.of _ rfl (fun e a w hC hd hb K hK => ?_)
  have g43 := (hd 43 (by decide)).2 68 rfl;rw [show e 43 = _ from (hd 43 (by decide)).1] at g43;have q45 := (hd 45 (by decide)).2 70 rfl;rw [show e 45 = _ from (hd 45 (by decide)).1] at q45;refine goes_ Tryd.func18 (by kernel_rfl) rfl #[.agg #[.int .i64 r.fid.f0, .string r.fid.f1, .slice c2 r.fid.f2.length cn2, .slice c3 r.fid.f3.length cn3]] (by simp [Region.wanted, yielded, g43]) rfl rfl (by first | (simp [Act.eval, q45]; done) | (simp [Act.eval, q45]; rfl)) ?_;refine (ofJ k _ r.fid (ofS r.fid) w (fun _ _ => trivial) hC.2.2.2.2.2.2.2.2.2.1 F3.out).mono ?_;rintro en w' ⟨v, rfl, hv, hb'⟩;exact ⟨v, rfl, hK.out v w' hb' hv⟩
 ·refine At.of _ rfl (fun e a w hC hd hb K hK => ?_)
  have g43 := (hd 43 (by decide)).2 68 rfl;rw [show e 43 = _ from (hd 43 (by decide)).1] at g43;have b7 : a.tmps[7]? = some (.pointer (some ⟨W2.heap.size + 1, 0, none⟩)) := hb 7 (by decide);refine value_ (w1 := w) (v := .pointer (some ⟨W2.heap.size + 1, 1, none⟩)) (by simp [Region.wanted, yielded, g43]) rfl ?_ (hK.out _ _ (Below.refl _ _) rfl);clear hC hd hb hK
  first | (go_simp; done) | (go_simp; rfl)
 ·refine At.of _ rfl (fun e a w hC hd hb K hK => ?_)
  have g43 := (hd 43 (by decide)).2 68 rfl;rw [show e 43 = _ from (hd 43 (by decide)).1] at g43;have q47 := (hd 47 (by decide)).2 72 rfl;rw [show e 47 = _ from (hd 47 (by decide)).1] at q47;have cc1 : w.cell? ⟨W2.heap.size + 1, 1, none⟩ = some (.int .i64 r.fid.f0) := Ctx.blk hC.1 1 rfl;have cc2 : w.cell? ⟨W2.heap.size + 1, 2, none⟩ = some (.string r.fid.f1) := Ctx.blk hC.1 2 rfl;have cc3 : w.cell? ⟨W2.heap.size + 1, 3, none⟩ = some (.slice z2 r.fid.f2.length zn2) := Ctx.blk hC.1 3 rfl;have cc4 : w.cell? ⟨W2.heap.size + 1, 4, none⟩ = some (.slice z3 (ofL r.fid.f3).length zn3) := Ctx.blk hC.1 4 rfl;refine value_ (w1 := w) (v := .agg #[.int .i64 r.fid.f0, .string r.fid.f1, .slice z2 r.fid.f2.length zn2, .slice z3 (ofL r.fid.f3).length zn3]) (by simp [Region.wanted, yielded, g43]) rfl ?_ (hK.out _ _ (Below.refl _ _) rfl);clear hC hd hb hK
  first | (go_simp; done) | (go_simp; rfl)
 ·refine At.of _ rfl (fun e a w hC hd hb K hK => ?_)
  have g43 := (hd 43 (by decide)).2 68 rfl;rw [show e 43 = _ from (hd 43 (by decide)).1] at g43;have q46 := (hd 46 (by decide)).2 71 rfl;have q48 := (hd 48 (by decide)).2 73 rfl;rw [show e 48 = _ from (hd 48 (by decide)).1] at q48;refine goes_ Tryd.func17 (by kernel_rfl) rfl #[e 46, .agg #[.int .i64 r.fid.f0, .string r.fid.f1, .slice z2 r.fid.f2.length zn2, .slice z3 (ofL r.fid.f3).length zn3]] (by simp [Region.wanted, yielded, g43]) rfl rfl (by first | (simp [Act.eval, q46, q48]; done) | (simp [Act.eval, q46, q48]; rfl)) ?_;refine (equal44 (show Kv k44 T1 w (e 46) (ofS r.fid) from (hd 46 (by decide)).1) hC.2.2.2.2.1).mono ?_;rintro en w' ⟨v, rfl, hv, hb'⟩;exact ⟨v, rfl, hK.out v w' hb' hv⟩
 ·refine At.of _ rfl (fun e a w hC hd hb K hK => ?_)
  have q43 := (hd 43 (by decide)).2 68 rfl;rw [show e 43 = _ from (hd 43 (by decide)).1] at q43;have q49 := (hd 49 (by decide)).2 74 rfl;rw [show e 49 = _ from (hd 49 (by decide)).1] at q49;refine value_ (w1 := w) (v := .bool true) (by rfl) rfl ?_ (hK.out _ _ (Below.refl _ _) rfl);clear hC hd hb hK
  first | (go_simp; done) | (go_simp; rfl)
 ·refine At.of _ rfl (fun e a w hC hd hb K hK => ?_)
  have q50 := (hd 50 (by decide)).2 75 rfl;rw [show e 50 = _ from (hd 50 (by decide)).1] at q50;refine value_ (w1 := w) (v := .bool true) (by rfl) rfl ?_ (hK.out _ _ (Below.refl _ _) rfl);clear hC hd hb hK
  first | (go_simp; done) | (go_simp; rfl)
 intro ev w C hr;have r51 : ev 51 = .bool true := hr.2;simp only [fill, Act.put, r51, if_true, List.setIfInBounds_toArray, List.set_cons_zero, List.set_cons_succ];clear hr r51;have hw := C.2.2.2.2.2.2.2.2.2.2.1;clear C
 go_wp2_with fail
 go_ret;exact ⟨rfl, hw⟩
end Go.Proofs.YteighppcdpaekaaDoor.P
end
