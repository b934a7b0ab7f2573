/- Walks and words of this session, put together by a program of this session (pack.py). Conditions: as each text says. -/
import Derived.Lib.ItoaNum
import Derived.Lib.AtoiTie
import Derived.Test.YteighppcdpaekaaDoorG2
import Derived.Test.YteighppcdpaekaaDoorG3
import Derived.Test.YteighppcdpaekaaDoorG4
set_option linter.unusedVariables false
set_option linter.unusedSimpArgs false
section
namespace Go.Proofs.YteighppcdpaekaaDoor.Eq4
open Go.RowKit Go.Proofs.YteighppcdpaekaaDoorW.PrintWords Go.Proofs.YteighppcdpaekaaDoor.P
section
variable {α β : Type} {r : α}
theorem Evpos {c : Prop} [Decidable c] {A B : Nat → Option α} (hc : c) (h : Ev A r) : Ev (fun k => if c then A k else B k) r := by simpa only [if_pos hc] using h
theorem Evneg {c : Prop} [Decidable c] {A B : Nat → Option α} (hc : ¬ c) (h : Ev B r) : Ev (fun k => if c then A k else B k) r := by simpa only [if_neg hc] using h
end
theorem w64 {i : Nat} (h : i < 1000000000000) : wrap64 ((i : Int) + 1) = ((i + 1 : Nat) : Int) := by unfold wrap64; omega
mutual
def szS : S27 → Nat
 | ⟨_, _, _, l⟩ => szL l + 1
def szL : List S27 → Nat
 | [] => 0
 | x :: r => szS x + szL r
end
mutual
def ofS : S27 → S44
 | ⟨a, b, c, l⟩ => ⟨a, b, c, ofL l⟩
def ofL : List S27 → List S44
 | [] => []
 | x :: r => ofS x :: ofL r
end
theorem szS_eq (v : S27) : szS v = szL v.f3 + 1 := by cases v; simp [szS]
theorem ofS_eq (v : S27) : ofS v = ⟨v.f0, v.f1, v.f2, ofL v.f3⟩ := by cases v; simp [ofS]
theorem ofL_map (l : List S27) : ofL l = l.map ofS := by
 induction l with
 | nil => simp [ofL]
 | cons x r ih => simp [ofL, ih]
theorem szL_mem {x : S27} {l : List S27} (h : x ∈ l) : szS x ≤ szL l := by
 induction l with
 | nil => cases h
 | cons y r ih =>
  simp only [szL]
  rcases List.mem_cons.1 h with rfl | h
  ·omega
  ·have := ih h; omega
theorem rd25 {l : List S27} {i : Nat} (h : i < l.length) : rd_T27 l (i : Int) = l[i] := by
 unfold rd_T27
 rw [Int.toNat_natCast, List.getD_eq_getElem?_getD, List.getElem?_eq_getElem h]
 rfl
theorem rd41 {l : List S44} {i : Nat} (h : i < l.length) : rd_T44 l (i : Int) = l[i] := by
 unfold rd_T44
 rw [Int.toNat_natCast, List.getD_eq_getElem?_getD, List.getElem?_eq_getElem h]
 rfl
theorem rdB {l : List ByteArray} {i : Nat} (h : i < l.length) : rdOf ByteArray.empty l (i : Int) = l[i] := by
 unfold rdOf
 rw [Int.toNat_natCast, List.getD_eq_getElem?_getD, List.getElem?_eq_getElem h]
 rfl
inductive Light : S27 → Prop where
 | mk {v : S27} (h3 : v.f3.length ≤ 3000) (h2 : v.f2.length ≤ 3000) (h1 : v.f1.size ≤ 3000) (hk : ∀ (i : Nat) (h : i < v.f2.length), (v.f2[i]).size ≤ 3000) (hl : ∀ x ∈ v.f3, Light x) : Light v
theorem Light.out {v : S27} (h : Light v) : v.f3.length ≤ 3000 ∧ v.f2.length ≤ 3000 ∧ v.f1.size ≤ 3000 ∧ (∀ (i : Nat) (h : i < v.f2.length), (v.f2[i]).size ≤ 3000) ∧ ∀ x ∈ v.f3, Light x := by
 cases h with
 | mk h3 h2 h1 hk hl => exact ⟨h3, h2, h1, hk, hl⟩
theorem light_l1 {n : Nat} (ih : ∀ v d, szS v ≤ n → 0 ≤ d → d ≤ 91 → ∃ b, Ev (fun k => whetstonelaw04_light.f k v.f0 v.f1 v.f2 v.f3 d) b ∧ (b = true → Light v)) {v : S27} {d : Int} (hn : szL v.f3 ≤ n) (hd0 : 0 ≤ d) (hd1 : d ≤ 90) (h3 : v.f3.length ≤ 100) :
  ∀ m i : Nat, v.f3.length - i = m → i ≤ v.f3.length → ∃ b, Ev (fun k => whetstonelaw04_light.l1 k d (i : Int) v.f0 v.f1 v.f2 v.f3) b ∧ (b = true → ∀ j, i ≤ j → (h : j < v.f3.length) → Light v.f3[j]) := by
 intro m
 induction m with
 | zero =>
  intro i hm hi
  refine ⟨true, Ev.step (fun k => rfl) ?_, fun _ j h1 h2 => by omega⟩
  simp only [whetstonelaw04_light.l1]
  exact Evneg (by omega) (Ev.now _)
 | succ m im =>
  intro i hm hi
  have hlt : i < v.f3.length := by omega
  obtain ⟨b, hb, hL⟩ := ih v.f3[i] (d + 1) (Nat.le_trans (szL_mem (List.getElem_mem hlt)) hn) (by omega) (by omega)
  have hw : wrap64 (d + 1) = d + 1 := by unfold wrap64; omega
  cases b with
  | false =>
   refine ⟨false, Ev.step (fun k => rfl) ?_, fun h => by cases h⟩
   simp only [whetstonelaw04_light.l1, rd25 hlt, hw]
   exact Evpos (by omega) (Evpos (by omega) (Ev.bind hb (Evneg (by simp) (Ev.now _))))
  | true =>
   obtain ⟨b2, hb2, hL2⟩ := im (i + 1) (by omega) (by omega)
   refine ⟨b2, Ev.step (fun k => rfl) ?_, fun h j h1 h2 => ?_⟩
   ·simp only [whetstonelaw04_light.l1, rd25 hlt, hw]
    refine Evpos (by omega) (Evpos (by omega) (Ev.bind hb (Evpos rfl ?_)))
    rw [w64 (by omega)]
    exact hb2
   ·by_cases hj : j = i
    ·subst hj; exact hL rfl
    ·exact hL2 h j (by omega) h2
theorem light_l0 {v : S27} {d : Int} {b1 : Bool} (h1 : Ev (fun k => whetstonelaw04_light.l1 k d 0 v.f0 v.f1 v.f2 v.f3) b1) (h2 : v.f2.length ≤ 100) :
  ∀ m i : Nat, v.f2.length - i = m → i ≤ v.f2.length → ∃ b, Ev (fun k => whetstonelaw04_light.l0 k d (i : Int) v.f0 v.f1 v.f2 v.f3) b ∧ (b = true → b1 = true ∧ ∀ j, i ≤ j → (h : j < v.f2.length) → (v.f2[j]).size ≤ 200) := by
 intro m
 induction m with
 | zero =>
  intro i hm hi
  refine ⟨b1, Ev.step (fun k => rfl) ?_, fun h => ⟨h, fun j h1 h2 => by omega⟩⟩
  simp only [whetstonelaw04_light.l0]
  exact Evneg (by omega) h1
 | succ m im =>
  intro i hm hi
  have hlt : i < v.f2.length := by omega
  by_cases hs : ((v.f2[i]).size : Int) > 200
  ·refine ⟨false, Ev.step (fun k => rfl) ?_, fun h => by cases h⟩
   simp only [whetstonelaw04_light.l0, rdB hlt]
   exact Evpos (by omega) (Evpos (by omega) (Evpos hs (Ev.now _)))
  ·obtain ⟨b2, hb2, hL2⟩ := im (i + 1) (by omega) (by omega)
   refine ⟨b2, Ev.step (fun k => rfl) ?_, fun h => ⟨(hL2 h).1, fun j h1 h2 => ?_⟩⟩
   ·simp only [whetstonelaw04_light.l0, rdB hlt]
    refine Evpos (by omega) (Evpos (by omega) (Evneg hs ?_))
    rw [w64 (by omega)]
    exact hb2
   ·by_cases hj : j = i
    ·subst hj; omega
    ·exact (hL2 h).2 j (by omega) h2
theorem light_val : ∀ n v d, szS v ≤ n → 0 ≤ d → d ≤ 91 → ∃ b, Ev (fun k => whetstonelaw04_light.f k v.f0 v.f1 v.f2 v.f3 d) b ∧ (b = true → Light v) := by
 intro n
 induction n with
 | zero => intro v d h; rw [szS_eq] at h; omega
 | succ n ih =>
  intro v d h hd0 hd1
  rw [szS_eq] at h
  have no : Ev (fun k => whetstonelaw04_light.j0 k d true v.f0 v.f1 v.f2 v.f3) false := Ev.step (fun k => rfl) (by simp only [whetstonelaw04_light.j0]; exact Evpos (by trivial) (Ev.now _))
  by_cases h3 : (v.f3.length : Int) > 100
  ·exact ⟨false, Ev.step (fun k => rfl) (by simp only [whetstonelaw04_light.f]; exact Evpos h3 no), fun h => by cases h⟩
  by_cases h2 : (v.f2.length : Int) > 100
  ·exact ⟨false, Ev.step (fun k => rfl) (by simp only [whetstonelaw04_light.f]; exact Evneg h3 (Evpos h2 no)), fun h => by cases h⟩
  by_cases h1 : (v.f1.size : Int) > 1000
  ·exact ⟨false, Ev.step (fun k => rfl) (by simp only [whetstonelaw04_light.f]; exact Evneg h3 (Evneg h2 (Evpos h1 no))), fun h => by cases h⟩
  by_cases hd : d > 90
  ·refine ⟨false, Ev.step (fun k => rfl) ?_, fun h => by cases h⟩
   simp only [whetstonelaw04_light.f, hd, decide_true]
   exact Evneg h3 (Evneg h2 (Evneg h1 no))
  obtain ⟨b1, hb1, hL1⟩ := light_l1 ih (v := v) (d := d) (by omega) hd0 (by omega) (by omega) _ 0 rfl (by omega)
  obtain ⟨b0, hb0, hL0⟩ := light_l0 hb1 (by omega) _ 0 rfl (by omega)
  refine ⟨b0, Ev.step (fun k => rfl) ?_, fun h => ?_⟩
  ·simp only [whetstonelaw04_light.f, hd, decide_false]
   refine Evneg h3 (Evneg h2 (Evneg h1 (Ev.step (fun k => rfl) ?_)))
   simp only [whetstonelaw04_light.j0]
   exact Evneg (by simp) hb0
  ·obtain ⟨e1, e2⟩ := hL0 h
   refine Light.mk (by omega) (by omega) (by omega) (fun i hi => Nat.le_trans (e2 i (by omega) hi) (by omega)) fun x hx => ?_
   obtain ⟨j, hj, rfl⟩ := List.mem_iff_getElem.1 hx
   exact hL1 e1 j (by omega) hj
theorem of_l0 {n : Nat} (ih : ∀ v, szS v ≤ n → Light v → Ev (fun k => whetstonelaw04_of.f k v.f0 v.f1 v.f2 v.f3) (v.f0, v.f1, v.f2, ofL v.f3)) {v : S27} (hn : szL v.f3 ≤ n) (hL : Light v) {a : Int} {b : ByteArray} {c : List ByteArray} :
  ∀ m i : Nat, v.f3.length - i = m → i ≤ v.f3.length → Ev (fun k => whetstonelaw04_of.l0 k (i : Int) v.f0 v.f1 v.f2 v.f3 a b c (ofL (v.f3.take i))) (a, b, c, ofL v.f3) := by
 obtain ⟨h3, _, _, _, hl⟩ := hL.out
 intro m
 induction m with
 | zero =>
  intro i hm hi
  refine Ev.step (fun k => rfl) ?_
  simp only [whetstonelaw04_of.l0]
  rw [List.take_of_length_le (by omega)]
  exact Evneg (by omega) (Ev.now _)
 | succ m im =>
  intro i hm hi
  have hlt : i < v.f3.length := by omega
  have hb := ih v.f3[i] (Nat.le_trans (szL_mem (List.getElem_mem hlt)) hn) (hl _ (List.getElem_mem hlt))
  refine Ev.step (fun k => rfl) ?_
  simp only [whetstonelaw04_of.l0, rd25 hlt]
  refine Evpos (by omega) (Evpos (by omega) (Ev.bind hb (Evpos (by rw [ofL_map, List.length_map, List.length_take]; omega) ?_)))
  rw [w64 (by omega)]
  have := im (i + 1) (by omega) (by omega)
  rw [List.take_succ_eq_append_getElem hlt, ofL_map, List.map_append, ← ofL_map, List.map_cons, List.map_nil, ofS_eq] at this
  exact this
theorem of_val : ∀ n v, szS v ≤ n → Light v → Ev (fun k => whetstonelaw04_of.f k v.f0 v.f1 v.f2 v.f3) (v.f0, v.f1, v.f2, ofL v.f3) := by
 intro n
 induction n with
 | zero => intro v h; rw [szS_eq] at h; omega
 | succ n ih =>
  intro v h hL
  rw [szS_eq] at h
  refine Ev.step (fun k => rfl) ?_
  simp only [whetstonelaw04_of.f]
  exact of_l0 ih (by omega) hL _ 0 rfl (by omega)
theorem count_l0 {n : Nat} (ih : ∀ v, szS v ≤ n → Light v → ∃ r, Ev (fun k => whetstoneref04_Count.f k v.f0 v.f1 v.f2 (ofL v.f3)) r) {v : S27} (hn : szL v.f3 ≤ n) (hL : Light v) :
  ∀ m i : Nat, ∀ x y : Int, v.f3.length - i = m → i ≤ v.f3.length → ∃ r, Ev (fun k => whetstoneref04_Count.l0 k x y (i : Int) v.f0 v.f1 v.f2 (ofL v.f3)) r := by
 obtain ⟨h3, _, _, _, hl⟩ := hL.out
 have hll : (ofL v.f3).length = v.f3.length := by rw [ofL_map, List.length_map]
 intro m
 induction m with
 | zero =>
  intro i x y hm hi
  refine ⟨(x, wrap64 (y + 1)), Ev.step (fun k => rfl) ?_⟩
  simp only [whetstoneref04_Count.l0]
  exact Evneg (by omega) (Ev.now _)
 | succ m im =>
  intro i x y hm hi
  have hlt : i < v.f3.length := by omega
  obtain ⟨⟨r1, r2⟩, hb⟩ := ih v.f3[i] (Nat.le_trans (szL_mem (List.getElem_mem hlt)) hn) (hl _ (List.getElem_mem hlt))
  have hr : rd_T44 (ofL v.f3) (i : Int) = ⟨v.f3[i].f0, v.f3[i].f1, v.f3[i].f2, ofL v.f3[i].f3⟩ := by
   rw [rd41 (by omega), ← ofS_eq]
   simp only [ofL_map, List.getElem_map]
  by_cases hc : r2 > y
  ·obtain ⟨r, hr2⟩ := im (i + 1) (wrap64 (x + r1)) r2 (by omega) (by omega)
   refine ⟨r, Ev.step (fun k => rfl) ?_⟩
   simp only [whetstoneref04_Count.l0, hr]
   refine Evpos (by omega) (Evpos (by omega) (Ev.bind hb (Evpos hc ?_)))
   rw [w64 (by omega)]
   exact hr2
  ·obtain ⟨r, hr2⟩ := im (i + 1) (wrap64 (x + r1)) y (by omega) (by omega)
   refine ⟨r, Ev.step (fun k => rfl) ?_⟩
   simp only [whetstoneref04_Count.l0, hr]
   refine Evpos (by omega) (Evpos (by omega) (Ev.bind hb (Evneg hc ?_)))
   rw [w64 (by omega)]
   exact hr2
theorem count_val : ∀ n v, szS v ≤ n → Light v → ∃ r, Ev (fun k => whetstoneref04_Count.f k v.f0 v.f1 v.f2 (ofL v.f3)) r := by
 intro n
 induction n with
 | zero => intro v h; rw [szS_eq] at h; omega
 | succ n ih =>
  intro v h hL
  rw [szS_eq] at h
  obtain ⟨r, hr⟩ := count_l0 ih (v := v) (by omega) hL _ 0 1 0 rfl (by omega)
  refine ⟨r, Ev.step (fun k => rfl) ?_⟩
  simp only [whetstoneref04_Count.f]
  exact hr
theorem few_val (v : S27) : ∃ b, Ev (fun k => whetstonelaw04_few.f k v.f0 v.f1 v.f2 v.f3) b ∧ (b = true → Light v) := by
 obtain ⟨b, hb, hL⟩ := light_val _ v 0 (Nat.le_refl _) (by omega) (by omega)
 cases b with
 | false => exact ⟨false, Ev.bind hb (Evneg (by simp) (Ev.now _)), fun h => by cases h⟩
 | true =>
  have hL' := hL rfl
  obtain ⟨r, hr⟩ := count_val _ v (Nat.le_refl _) hL'
  exact ⟨_, Ev.bind hb (Evpos rfl (Ev.bind (of_val _ v (Nat.le_refl _) hL') (Ev.bind hr (Ev.now _)))), fun _ => hL'⟩
end Go.Proofs.YteighppcdpaekaaDoor.Eq4
end
section
namespace Go.Proofs.YteighppcdpaekaaDoor.Eq4
open Go.RowKit Go.Proofs.YteighppcdpaekaaDoorW.PrintWords Go.Proofs.YteighppcdpaekaaDoor.P
def eqK : List ByteArray → List ByteArray → Bool
 | a :: r, b :: s => (a.toList == b.toList) && eqK r s
 | _, _ => true
mutual
def eqS : S27 → S27 → Bool
 | ⟨k1, t1, ks1, l1⟩, ⟨k2, t2, ks2, l2⟩ =>
  if k1 = k2 then (if k1 = 3 ∨ k1 = 4 then t1.toList == t2.toList
   else if k1 = 5 ∨ k1 = 6 then (decide (l1.length = l2.length) && ((if k1 = 6 then decide (ks1.length = ks2.length) && eqK ks1 ks2 else true) && eqL l1 l2)) else true) else false
def eqL : List S27 → List S27 → Bool
 | a :: r, b :: s => eqS a b && eqL r s
 | _, _ => true
end
theorem eqS_eq (a b : S27) : eqS a b = if a.f0 = b.f0 then (if a.f0 = 3 ∨ a.f0 = 4 then a.f1.toList == b.f1.toList
      else if a.f0 = 5 ∨ a.f0 = 6 then (decide (a.f3.length = b.f3.length) && ((if a.f0 = 6 then decide (a.f2.length = b.f2.length) && eqK a.f2 b.f2 else true) && eqL a.f3 b.f3)) else true) else false := by
  cases a; cases b; simp only [eqS]
theorem drop_get {α : Type} {l : List α} {i : Nat} (h : i < l.length) : l.drop i = l[i] :: l.drop (i + 1) := List.drop_eq_getElem_cons h
theorem eqK_refl (l : List ByteArray) : eqK l l = true := by
 induction l with
 | nil => rfl
 | cons a r ih => simp [eqK, ih]
theorem eqS_refl : ∀ n v, szS v ≤ n → eqS v v = true := by
 intro n
 induction n with
 | zero => intro v h; rw [szS_eq] at h; omega
 | succ n ih =>
  intro v h
  rw [szS_eq] at h
  have hl : ∀ l : List S27, szL l ≤ n → eqL l l = true := by
   intro l hl
   induction l with
   | nil => simp [eqL]
   | cons a r ir =>
    simp only [szL] at hl
    simp only [eqL]
    rw [ih a (by omega), ir (by omega)]
    rfl
  rw [eqS_eq, if_pos rfl, eqK_refl, hl _ (by omega)]
  split
  ·simp
  ·split
   ·simp
   ·rfl
theorem ref_l1 {n : Nat} (ih : ∀ a b, szS a ≤ n → Light a → Ev (fun k => whetstoneref04_Equal.f k a.f0 a.f1 a.f2 (ofL a.f3) b.f0 b.f1 b.f2 (ofL b.f3)) (eqS a b)) {a b : S27} (hn : szL a.f3 ≤ n) (hL : Light a) (hlen3 : a.f3.length = b.f3.length) :
  ∀ m i : Nat, a.f3.length - i = m → i ≤ a.f3.length → Ev (fun k => whetstoneref04_Equal.l1 k (i : Int) a.f0 a.f1 a.f2 (ofL a.f3) b.f0 b.f1 b.f2 (ofL b.f3)) (eqL (a.f3.drop i) (b.f3.drop i)) := by
 obtain ⟨h3, h2, _, _, hl⟩ := hL.out
 have hla : (ofL a.f3).length = a.f3.length := by rw [ofL_map, List.length_map]
 have hlb : (ofL b.f3).length = b.f3.length := by rw [ofL_map, List.length_map]
 intro m
 induction m with
 | zero =>
  intro i hm hi
  refine Ev.step (fun k => rfl) ?_
  simp only [whetstoneref04_Equal.l1]
  rw [List.drop_eq_nil_of_le (by omega)]
  simp only [eqL]
  exact Evneg (by omega) (Ev.now _)
 | succ m im =>
  intro i hm hi
  have hlt : i < a.f3.length := by omega
  have hlt2 : i < b.f3.length := by omega
  have hb := ih a.f3[i] b.f3[i] (Nat.le_trans (szL_mem (List.getElem_mem hlt)) hn) (hl _ (List.getElem_mem hlt))
  have hn := im (i + 1) (by omega) (by omega)
  have hra : rd_T44 (ofL a.f3) (i : Int) = ⟨a.f3[i].f0, a.f3[i].f1, a.f3[i].f2, ofL a.f3[i].f3⟩ := by
   rw [rd41 (by omega), ← ofS_eq]
   simp only [ofL_map, List.getElem_map]
  have hrb : rd_T44 (ofL b.f3) (i : Int) = ⟨b.f3[i].f0, b.f3[i].f1, b.f3[i].f2, ofL b.f3[i].f3⟩ := by
   rw [rd41 (by omega), ← ofS_eq]
   simp only [ofL_map, List.getElem_map]
  refine Ev.step (fun k => rfl) ?_
  simp only [whetstoneref04_Equal.l1, hra, hrb]
  rw [drop_get hlt, drop_get hlt2]
  simp only [eqL]
  refine Evpos (by omega) (Evpos (by omega) (Evpos (by omega) (Ev.bind hb ?_)))
  cases he : eqS a.f3[i] b.f3[i] with
  | true =>
   rw [w64 (by omega), Bool.true_and]
   exact Evpos rfl hn
  | false => simp only [Bool.false_and]; exact Evneg (by simp) (Ev.now _)
theorem ref_l0 {a b : S27} {x : Bool} (h1 : Ev (fun k => whetstoneref04_Equal.l1 k 0 a.f0 a.f1 a.f2 (ofL a.f3) b.f0 b.f1 b.f2 (ofL b.f3)) x) (hk : a.f2.length ≤ 3000) (hlen : a.f0 = 6 → a.f2.length = b.f2.length) :
  ∀ m i : Nat, a.f2.length - i = m → i ≤ a.f2.length → Ev (fun k => whetstoneref04_Equal.l0 k (i : Int) a.f0 a.f1 a.f2 (ofL a.f3) b.f0 b.f1 b.f2 (ofL b.f3)) ((if a.f0 = 6 then eqK (a.f2.drop i) (b.f2.drop i) else true) && x) := by
 have j4no : ∀ i : Int, Ev (fun k => whetstoneref04_Equal.j4 k i false a.f0 a.f1 a.f2 (ofL a.f3) b.f0 b.f1 b.f2 (ofL b.f3)) x := fun i => Ev.step (fun k => rfl) (by simp only [whetstoneref04_Equal.j4]; exact Evneg (by simp) h1)
 intro m
 induction m with
 | zero =>
  intro i hm hi
  refine Ev.step (fun k => rfl) ?_
  simp only [whetstoneref04_Equal.l0]
  rw [List.drop_eq_nil_of_le (by omega)]
  refine Evneg (by omega) ?_
  simp only [eqK]
  rw [show (if a.f0 = 6 then true else true) = true by split <;> rfl, Bool.true_and]
  exact j4no _
 | succ m im =>
  intro i hm hi
  have hlt : i < a.f2.length := by omega
  have hn := im (i + 1) (by omega) (by omega)
  refine Ev.step (fun k => rfl) ?_
  simp only [whetstoneref04_Equal.l0]
  refine Evpos (by omega) ?_
  by_cases h6 : a.f0 = 6
  ·have hlt2 : i < b.f2.length := by have := hlen h6; omega
   rw [if_pos h6] at hn ⊢
   rw [show (a.f0 == 6) = true by simp [h6], drop_get hlt, drop_get hlt2]
   simp only [eqK]
   refine Ev.step (fun k => rfl) ?_
   simp only [whetstoneref04_Equal.j4, rdB hlt, rdB hlt2]
   refine Evpos (by trivial) (Evpos (by omega) (Evpos (by omega) (Evpos (by omega) ?_)))
   by_cases he : (a.f2[i]).toList = (b.f2[i]).toList
   ·rw [w64 (by omega), show ((a.f2[i]).toList == (b.f2[i]).toList) = true by simpa using he, Bool.true_and]
    exact Evpos he hn
   ·rw [show ((a.f2[i]).toList == (b.f2[i]).toList) = false by simpa using he, Bool.false_and, Bool.false_and]
    exact Evneg he (Ev.now _)
  ·rw [if_neg h6, show (a.f0 == 6) = false by simp [h6], Bool.true_and]
   exact j4no _
theorem ref_val : ∀ n a b, szS a ≤ n → Light a → Ev (fun k => whetstoneref04_Equal.f k a.f0 a.f1 a.f2 (ofL a.f3) b.f0 b.f1 b.f2 (ofL b.f3)) (eqS a b) := by
 intro n
 induction n with
 | zero => intro v b h; rw [szS_eq] at h; omega
 | succ n ih =>
  intro a b h hL
  rw [szS_eq] at h
  have hla : (ofL a.f3).length = a.f3.length := by rw [ofL_map, List.length_map]
  have hlb : (ofL b.f3).length = b.f3.length := by rw [ofL_map, List.length_map]
  rw [eqS_eq]
  refine Ev.step (fun k => rfl) ?_
  simp only [whetstoneref04_Equal.f]
  by_cases hk : a.f0 = b.f0
  rotate_left
  ·rw [if_neg hk]
   exact Evneg hk (Ev.now _)
  rw [if_pos hk]
  refine Evpos hk ?_
  have txt : Ev (fun k => whetstoneref04_Equal.j0 k true a.f0 a.f1 a.f2 (ofL a.f3) b.f0 b.f1 b.f2 (ofL b.f3)) (a.f1.toList == b.f1.toList) := Ev.step (fun k => rfl) (by simp only [whetstoneref04_Equal.j0]; exact Evpos (by trivial) (Ev.now _))
  by_cases h3 : a.f0 = 3
  ·rw [if_pos (.inl h3)]
   exact Evpos h3 txt
  refine Evneg h3 ?_
  by_cases h4 : a.f0 = 4
  ·rw [if_pos (.inr h4), show (a.f0 == 4) = true by simp [h4]]
   exact txt
  rw [if_neg (by omega), show (a.f0 == 4) = false by simp [h4]]
  have j2no : Ev (fun k => whetstoneref04_Equal.j2 k true a.f0 a.f1 a.f2 (ofL a.f3) b.f0 b.f1 b.f2 (ofL b.f3)) false := Ev.step (fun k => rfl) (by simp only [whetstoneref04_Equal.j2]; exact Evpos (by trivial) (Ev.now _))
  have j1 : ∀ (h56 : a.f0 = 5 ∨ a.f0 = 6), Ev (fun k => whetstoneref04_Equal.j1 k false a.f0 a.f1 a.f2 (ofL a.f3) b.f0 b.f1 b.f2 (ofL b.f3)) (decide (a.f3.length = b.f3.length) && ((if a.f0 = 6 then decide (a.f2.length = b.f2.length) && eqK a.f2 b.f2 else true) && eqL a.f3 b.f3)) := by
   intro h56
   refine Ev.step (fun k => rfl) ?_
   simp only [whetstoneref04_Equal.j1]
   refine Evneg (by simp) ?_
   by_cases h3 : a.f3.length = b.f3.length
   rotate_left
   ·rw [show decide (a.f3.length = b.f3.length) = false by simpa using h3, Bool.false_and]
    exact Evneg (by omega) j2no
   rw [show decide (a.f3.length = b.f3.length) = true by simpa using h3, Bool.true_and]
   refine Evpos (by omega) ?_
   have go : (a.f0 = 6 → a.f2.length = b.f2.length) → Ev (fun k => whetstoneref04_Equal.j2 k false a.f0 a.f1 a.f2 (ofL a.f3) b.f0 b.f1 b.f2 (ofL b.f3)) ((if a.f0 = 6 then eqK a.f2 b.f2 else true) && eqL a.f3 b.f3) := by
    intro hlen
    refine Ev.step (fun k => rfl) ?_
    simp only [whetstoneref04_Equal.j2]
    exact Evneg (by simp) (ref_l0 (ref_l1 ih (by omega) hL h3 _ 0 rfl (by omega)) hL.out.2.1 hlen _ 0 rfl (by omega))
   by_cases h6 : a.f0 = 6
   ·rw [if_pos h6]
    refine Evpos h6 ?_
    by_cases h2 : a.f2.length = b.f2.length
    ·rw [show ((a.f2.length : Int) != (b.f2.length : Int)) = false by simp [h2], show decide (a.f2.length = b.f2.length) = true by simpa using h2, Bool.true_and]
     have := go fun _ => h2
     rw [if_pos h6] at this
     exact this
    ·rw [show ((a.f2.length : Int) != (b.f2.length : Int)) = true by simp; omega, show decide (a.f2.length = b.f2.length) = false by simpa using h2, Bool.false_and, Bool.false_and]
     exact j2no
   ·rw [if_neg h6, Bool.true_and]
    refine Evneg h6 ?_
    have := go fun h => absurd h h6
    rw [if_neg h6, Bool.true_and] at this
    exact this
  refine Ev.step (fun k => rfl) ?_
  simp only [whetstoneref04_Equal.j0]
  refine Evneg (by simp) ?_
  by_cases h5 : a.f0 = 5
  ·rw [if_pos (.inl h5)]
   exact Evpos h5 (j1 (.inl h5))
  refine Evneg h5 ?_
  by_cases h6 : a.f0 = 6
  ·rw [if_pos (.inr h6), show (a.f0 != 6) = false by simp [h6]]
   exact j1 (.inr h6)
  ·rw [if_neg (by omega), show (a.f0 != 6) = true by simp [h6]]
   exact Ev.step (fun k => rfl) (by simp only [whetstoneref04_Equal.j1]; exact Evpos (by trivial) (Ev.now _))
end Go.Proofs.YteighppcdpaekaaDoor.Eq4
end
section
namespace Go.Proofs.YteighppcdpaekaaDoor.Num
open Go.Lib Go.Proofs.YteighppcdpaekaaDoor.P
def magOk (m : Bool) (s : List UInt8) : Bool := decide (1 ≤ s.length) && decide (s.length ≤ 9) && !(s.head? == some 48 && (decide (s.length > 1) || m))
def refC (m : Bool) (s : List UInt8) : Int × Bool :=
 match magOk m s with
 | true => match decFrom 0 s with
  | some n => (match m with | true => -(n : Int) | false => (n : Int), true)
  | none => (0, false)
 | false => (0, false)
def refI (L : List UInt8) : Int × Bool := refC (L.head? == some 45) (match L.head? == some 45 with | true => L.tail | false => L)
theorem core (m : Bool) (s : List UInt8) : refC m s = (0, false) ∨ ∃ n, magOk m s = true ∧ decFrom 0 s = some n ∧ refC m s = (match m with | true => -(n : Int) | false => (n : Int), true) := by
 unfold refC
 cases hk : magOk m s with
 | false => exact .inl rfl
 | true =>
  cases hd : decFrom 0 s with
  | none => exact .inl rfl
  | some n => exact .inr ⟨n, rfl, rfl, rfl⟩
def sgn (m : Bool) (n : Nat) : Int := match m with | true => -(n : Int) | false => (n : Int)
theorem core_mk {m : Bool} {s : List UInt8} {n : Nat} (h1 : magOk m s = true) (h2 : decFrom 0 s = some n) : refC m s = (sgn m n, true) := by
 rcases core m s with h | ⟨k, _, h3, h⟩
 ·unfold refC at h
  rw [h1] at h
  simp only [h2] at h
  exact absurd (congrArg Prod.snd h) (by simp)
 ·rw [h]
  obtain rfl := Option.some.inj (h2.symm.trans h3)
  rfl
theorem mag_t {s : List UInt8} : magOk true s = true ↔ (1 ≤ s.length ∧ s.length ≤ 9) ∧ s.head? ≠ some 48 := by
 simp [magOk]
theorem mag_f {s : List UInt8} : magOk false s = true ↔ (1 ≤ s.length ∧ s.length ≤ 9) ∧ (s.head? = some 48 → ¬ s.length > 1) := by
 simp [magOk]
 intro _ _
 by_cases h : s.head? = some 48 <;> simp [h]
theorem decFrom_snoc (c : UInt8) : ∀ (l : List UInt8) (acc : Nat), decFrom acc (l ++ [c]) = (decFrom acc l).bind fun m => (digitVal c).map (fun d => m * 10 + d)
 | [], acc => by
  simp only [List.nil_append, decFrom, Option.bind_some]
  cases digitVal c <;> simp
 | b :: r, acc => by
  simp only [List.cons_append, decFrom]
  cases digitVal b with
  | none => rfl
  | some d => exact decFrom_snoc c r _
theorem u8_val (d : Nat) (h : d < 10) : (UInt8.ofNat (48 + d)).toNat = 48 + d := by
 rw [UInt8.toNat_ofNat']
 omega
theorem digit_of (d : Nat) (h : d < 10) : digitVal (UInt8.ofNat (48 + d)) = some d := by
 unfold digitVal
 rw [u8_val d h, if_pos (by omega)]
 congr 1; omega
theorem digit_is {c : UInt8} {d : Nat} (h : digitVal c = some d) : c = UInt8.ofNat (48 + d) ∧ d < 10 := by
 unfold digitVal at h
 split at h
 ·obtain rfl := Option.some.inj h
  refine ⟨?_, by omega⟩
  apply UInt8.toNat_inj.1
  rw [u8_val _ (by omega)]
  omega
 ·cases h
theorem dec_back (u : Nat) : decFrom 0 (decDigits u) = some u := by
 induction u using Nat.strongRecOn with
 | _ u ih =>
  by_cases h : u < 10
  ·rw [decDigits_one h]
   show (match digitVal (UInt8.ofNat (48 + u)) with | some d => decFrom (0 * 10 + d) [] | none => none) = some u
   rw [digit_of u h]
   simp [decFrom]
  ·rw [decDigits, dif_neg h, decFrom_snoc, ih (u / 10) (by omega), digit_of _ (by omega)]
   simp; omega
theorem dec_head (u : Nat) : 1 ≤ u → ∃ d, 1 ≤ d ∧ d < 10 ∧ (decDigits u).head? = some (UInt8.ofNat (48 + d)) := by
 induction u using Nat.strongRecOn with
 | _ u ih =>
  intro h1
  by_cases h : u < 10
  ·exact ⟨u, h1, h, by rw [decDigits_one h]; rfl⟩
  ·obtain ⟨d, a, b, c⟩ := ih (u / 10) (by omega) (by omega)
   refine ⟨d, a, b, ?_⟩
   rw [decDigits, dif_neg h, List.head?_append, c]
   rfl
theorem nd_le : ∀ (k u : Nat), u < 10 ^ (k + 1) → nDigits u ≤ k + 1
 | 0, u, h => by rw [nDigits_small (by simpa using h)]; exact Nat.le_refl _
 | k + 1, u, h => by
  by_cases hu : u < 10
  ·rw [nDigits_small hu]; omega
  ·rw [nDigits_big hu]
   have := nd_le k (u / 10) (by rw [Nat.pow_succ] at h; omega)
   omega
theorem dec_len (u : Nat) (h : u ≤ 999999999) : 1 ≤ (decDigits u).length ∧ (decDigits u).length ≤ 9 := by
 rw [decDigits_length]
 exact ⟨nDigits_pos u, nd_le 8 u (by omega)⟩
theorem dec_canon : ∀ (k : Nat) (s : List UInt8) (n : Nat), s.length = k + 1 → s.head? ≠ some 48 → decFrom 0 s = some n → decDigits n = s ∧ 1 ≤ n ∧ n < 10 ^ (k + 1)
 | 0, s, n, hl, hh, h => by
  obtain ⟨c, rfl⟩ : ∃ c, s = [c] := by
   match s, hl with
   | [c], _ => exact ⟨c, rfl⟩
  simp only [decFrom] at h
  cases hd : digitVal c with
  | none => rw [hd] at h; cases h
  | some d =>
   rw [hd] at h
   obtain rfl : d = n := by simpa using h
   obtain ⟨rfl, h2⟩ := digit_is hd
   refine ⟨decDigits_one h2, ?_, by omega⟩
   rcases Nat.eq_zero_or_pos d with rfl | h3
   ·exact absurd rfl hh
   ·exact h3
 | k + 1, s, n, hl, hh, h => by
  obtain ⟨r, c, rfl⟩ : ∃ r c, s = r ++ [c] := by
   have hne : s ≠ [] := by intro e; rw [e] at hl; cases hl
   exact ⟨s.dropLast, s.getLast hne, (List.dropLast_concat_getLast hne).symm⟩
  have hr : r.length = k + 1 := by simpa using hl
  rw [decFrom_snoc] at h
  cases hm : decFrom 0 r with
  | none => rw [hm] at h; cases h
  | some m =>
   rw [hm, Option.bind_some] at h
   cases hd : digitVal c with
   | none => rw [hd] at h; cases h
   | some d =>
    rw [hd] at h
    obtain rfl : m * 10 + d = n := by simpa using h
    obtain ⟨rfl, h2⟩ := digit_is hd
    have hne : r ≠ [] := by intro e; rw [e] at hr; cases hr
    obtain ⟨a, b, c'⟩ := dec_canon k r m hr (by
     intro e
     apply hh
     rw [List.head?_append, e]
     rfl) hm
    refine ⟨?_, by omega, by rw [Nat.pow_succ]; omega⟩
    rw [decDigits, dif_neg (by omega), show (m * 10 + d) / 10 = m by omega, show (m * 10 + d) % 10 = d by omega, a]
theorem itoa_pos (u : Nat) : itoa (u : Int) = decDigits u := by unfold itoa; rw [if_neg (by omega)]; rfl
theorem itoa_minus (u : Nat) (h : 1 ≤ u) : itoa (-(u : Int)) = 45 :: decDigits u := by unfold itoa; rw [if_pos (by omega)]; congr 2; omega
theorem head_ne {d : Nat} {b : UInt8} (h1 : 1 ≤ d) (h2 : d < 10) (hb : b.toNat ≤ 48) : (some (UInt8.ofNat (48 + d)) : Option UInt8) ≠ some b := by
 intro e
 have := congrArg UInt8.toNat (Option.some.inj e)
 rw [u8_val d h2] at this
 omega
theorem back_false {L : List UInt8} {v : Int} (h : refI L = (v, false)) : v = 0 := by
 unfold refI at h
 rcases core (L.head? == some 45) (match L.head? == some 45 with | true => L.tail | false => L) with h2 | ⟨n, _, _, h2⟩
 ·rw [h2] at h; exact (congrArg Prod.fst h).symm
 ·rw [h2] at h; exact absurd (congrArg Prod.snd h) (by simp)
theorem back_true {L : List UInt8} {v : Int} (h : refI L = (v, true)) : L = itoa v ∧ -999999999 ≤ v ∧ v ≤ 999999999 := by
 unfold refI at h
 cases hm : (L.head? == some 45) with
 | true =>
  rw [hm] at h
  obtain ⟨s, rfl⟩ : ∃ s, L = 45 :: s := by
   cases L with
   | nil => simp at hm
   | cons c s => exact ⟨s, by simp at hm; rw [hm]⟩
  have h : refC true s = (v, true) := h
  rcases core true s with h2 | ⟨n, hk, hn, h2⟩
  ·rw [h2] at h; exact absurd (congrArg Prod.snd h) (by simp)
  ·rw [h2] at h
   obtain rfl : -(n : Int) = v := congrArg Prod.fst h
   have hk := mag_t.1 hk
   obtain ⟨k, hk2⟩ : ∃ k, s.length = k + 1 := ⟨s.length - 1, by omega⟩
   obtain ⟨a, b, c⟩ := dec_canon k s n hk2 hk.2 hn
   have : 10 ^ (k + 1) ≤ 10 ^ 9 := Nat.pow_le_pow_right (by omega) (by omega)
   exact ⟨by rw [itoa_minus n b, a], by omega, by omega⟩
 | false =>
  rw [hm] at h
  have h : refC false L = (v, true) := h
  rcases core false L with h2 | ⟨n, hk, hn, h2⟩
  ·rw [h2] at h; exact absurd (congrArg Prod.snd h) (by simp)
  ·rw [h2] at h
   obtain rfl : (n : Int) = v := congrArg Prod.fst h
   have hk := mag_f.1 hk
   obtain ⟨k, hk2⟩ : ∃ k, L.length = k + 1 := ⟨L.length - 1, by omega⟩
   have hp : 10 ^ (k + 1) ≤ 10 ^ 9 := Nat.pow_le_pow_right (by omega) (by omega)
   by_cases hh : L.head? = some 48
   ·obtain ⟨c, rfl⟩ : ∃ c, L = [c] := by
     have h1 := hk.2 hh
     match L, hk2, h1 with
     | [c], _, _ => exact ⟨c, rfl⟩
     | a :: b :: r, _, h1 => simp at h1
    obtain rfl : c = 48 := by simpa using hh
    obtain rfl : 0 = n := by simpa [decFrom, digitVal] using hn
    exact ⟨by rw [itoa_pos 0, decDigits_one (by omega)]; rfl, by omega, by omega⟩
   ·obtain ⟨a, b, c⟩ := dec_canon k L n hk2 hh hn
    exact ⟨by rw [itoa_pos n, a], by omega, by omega⟩
theorem forth (v : Int) (h0 : -999999999 ≤ v) (h1 : v ≤ 999999999) : refI (itoa v) = (v, true) := by
 by_cases hv : v < 0
 ·obtain ⟨u, rfl⟩ : ∃ u : Nat, v = -(u : Int) := ⟨v.natAbs, by omega⟩
  have hu : 1 ≤ u := by omega
  obtain ⟨d, a, b, c⟩ := dec_head u hu
  have hl := dec_len u (by omega)
  rw [itoa_minus u hu]
  show refC true (decDigits u) = _
  exact core_mk (mag_t.2 ⟨hl, by rw [c]; exact head_ne a b (by decide)⟩) (dec_back u)
 ·obtain ⟨u, rfl⟩ : ∃ u : Nat, v = (u : Int) := ⟨v.toNat, by omega⟩
  rw [itoa_pos u]
  rcases Nat.eq_zero_or_pos u with rfl | hu
  ·rw [decDigits_one (by omega)]; rfl
  ·obtain ⟨d, a, b, c⟩ := dec_head u hu
   have hl := dec_len u (by omega)
   have hm : ((decDigits u).head? == some 45) = false := beq_eq_false_iff_ne.2 (by rw [c]; exact head_ne a b (by decide))
   unfold refI
   rw [hm]
   show refC false (decDigits u) = _
   exact core_mk (mag_f.2 ⟨hl, fun e => absurd e (by rw [c]; exact head_ne a b (by decide))⟩) (dec_back u)
theorem atoi_itoa (v : Int) (h0 : -999999999 ≤ v) (h1 : v ≤ 999999999) : atoiAll (itoa v) = .ok v := by
 by_cases hv : v < 0
 ·obtain ⟨u, rfl⟩ : ∃ u : Nat, v = -(u : Int) := ⟨v.natAbs, by omega⟩
  have hu : 1 ≤ u := by omega
  have hl := dec_len u (by omega)
  rw [itoa_minus u hu, atoiAll_short _ (by simp; omega)]
  have hn : decNat (decDigits u) = some u := by
   unfold decNat
   rw [if_neg (by intro e; rw [List.isEmpty_iff] at e; rw [e] at hl; simp at hl), dec_back]
  simp [atoi, hn, NumEnd.ofOption]
 ·obtain ⟨u, rfl⟩ : ∃ u : Nat, v = (u : Int) := ⟨v.toNat, by omega⟩
  have hl := dec_len u (by omega)
  rw [itoa_pos u, atoiAll_short _ (by omega)]
  have hn : decNat (decDigits u) = some u := by
   unfold decNat
   rw [if_neg (by intro e; rw [List.isEmpty_iff] at e; rw [e] at hl; simp at hl), dec_back]
  rcases Nat.eq_zero_or_pos u with rfl | hu
  ·rw [decDigits_one (by omega)]; rfl
  ·obtain ⟨d, a, b, c⟩ := dec_head u hu
   cases hD : decDigits u with
   | nil => rw [hD] at c; cases c
   | cons x r =>
    rw [hD] at c hn
    obtain rfl : x = UInt8.ofNat (48 + d) := by simpa using c
    have e1 : ((UInt8.ofNat (48 + d)) == 45) = false := beq_eq_false_iff_ne.2 (fun e => head_ne a b (b := 45) (by decide) (congrArg some e))
    have e2 : ((UInt8.ofNat (48 + d)) == 43) = false := beq_eq_false_iff_ne.2 (fun e => head_ne a b (b := 43) (by decide) (congrArg some e))
    show NumEnd.ofOption (if ((UInt8.ofNat (48 + d)) == 45) = true then _ else if ((UInt8.ofNat (48 + d)) == 43) = true then _ else (decNat (UInt8.ofNat (48 + d) :: r)).map _) = _
    rw [e1, e2, if_neg (by decide), if_neg (by decide), hn]
    rfl
theorem intT_itoa (v : Int) (h0 : -999999999 ≤ v) (h1 : v ≤ 999999999) : intT (itoa v) = (v, true) := by
 unfold intT
 rw [atoi_itoa v h0 h1]
 simp only
 rw [if_pos ⟨trivial, h0, h1⟩]
theorem intT_eq (L : List UInt8) : intT L = refI L := by
 cases hr : refI L with
 | mk v b =>
  cases b with
  | true =>
   obtain ⟨rfl, h0, h1⟩ := back_true hr
   exact intT_itoa v h0 h1
  | false =>
   obtain rfl := back_false hr
   unfold intT
   rcases ha : atoiAll L with w | _ | _
   ·simp only
    split
    ·rename_i hc
     obtain ⟨rfl, h0, h1⟩ := hc
     rw [forth w h0 h1] at hr
     cases hr
    ·rfl
   · rfl
   · rfl
end Go.Proofs.YteighppcdpaekaaDoor.Num
end
section
namespace Go.Proofs.YteighppcdpaekaaDoor.P
open Go.RowKit Go.Proofs.YteighppcdpaekaaDoorW.PrintWords Go.Proofs.YteighppcdpaekaaDoorW.PrintLast Go.Proofs.YteighppcdpaekaaDoorW.PrintMore
attribute [local go_sem] max2_int min2_int max_two min_two max_three min_three max_four min_four
set_option linter.unusedVariables false
set_option linter.unusedSimpArgs false
mutual
def whetstoneref04_Int.j0 : Nat → ByteArray → Bool → Option (Int × Bool)
 | 0, _, _ => none
 | k + 1, x4, x5 => if x5 = true then (if 1 ≤ (x4.size : Int) then (whetstoneref04_Int.j1 k (x4.extract 1 x4.size) x5) else (none)) else (whetstoneref04_Int.j1 k x4 x5)
def whetstoneref04_Int.j1 : Nat → ByteArray → Bool → Option (Int × Bool)
 | 0, _, _ => none
 | k + 1, x4, x5 => if (x4.size : Int) < 1 then (whetstoneref04_Int.j2 k x4 x5 true) else (if (x4.size : Int) > 9 then (whetstoneref04_Int.j2 k x4 x5 true) else (if 0 < (x4.size : Int) then (if (bt x4 0) = 48 then (if (x4.size : Int) > 1 then (whetstoneref04_Int.j2 k x4 x5 true) else (whetstoneref04_Int.j2 k x4 x5 x5)) else (whetstoneref04_Int.j2 k x4 x5 false)) else (none)))
def whetstoneref04_Int.j2 : Nat → ByteArray → Bool → Bool → Option (Int × Bool)
 | 0, _, _, _ => none
 | k + 1, x4, x5, x44 => if x44 = true then (some (0, false)) else (whetstoneref04_Int.l0 k x4 x5 0 0)
def whetstoneref04_Int.l0 : Nat → ByteArray → Bool → Int → Int → Option (Int × Bool)
 | 0, _, _, _, _ => none
 | k + 1, x4, x5, x6, x7 => if x7 < (x4.size : Int) then (if 0 ≤ x7 then (if (bt x4 x7) < 48 then (some (0, false)) else (if (bt x4 x7) > 57 then (some (0, false)) else (whetstoneref04_Int.l0 k x4 x5 (wrap64 ((wrap64 (x6 * 10)) + (((bt x4 x7) - 48) % 256))) (wrap64 (x7 + 1))))) else (none)) else (if x5 = true then (some (wrap64 (-x6), true)) else (some (x6, true)))
end
def whetstoneref04_Int.f (k : Nat) (a0_0 : Int) (a0_1 : ByteArray) (l0_2 : List ByteArray) (l0_3 : List (S44)) : Option (Int × Bool) := if a0_0 = 3 then (if (a0_1.size : Int) > 0 then (if 0 < (a0_1.size : Int) then (whetstoneref04_Int.j0 k a0_1 ((bt a0_1 0) == 45)) else (none)) else (whetstoneref04_Int.j0 k a0_1 false)) else (some (0, false))
set_option maxHeartbeats 8000000 in
set_option maxRecDepth 100000 in
theorem whetstoneref04_Int.calls (k : Nat) (a0_0 : Int) (a0_1 : ByteArray) (A0_2 : Option Addr) (c0_2 : Nat) (l0_2 : List ByteArray) (A0_3 : Option Addr) (c0_3 : Nat) (l0_3 : List (S44)) (r1 : Int) (r2 : Bool) (w : World) (hr0_2 : Kd.C Kd.string w A0_2 l0_2.length l0_2) (hc0_2 : l0_2.length ≤ c0_2) (hr0_3 : Kd.C k44 w A0_3 l0_3.length l0_3) (hc0_3 : l0_3.length ≤ c0_3) (h : whetstoneref04_Int.f k a0_0 a0_1 l0_2 l0_3 = some (r1, r2)) :
  Calls Tryd.prog 30 #[.agg #[.int .i64 a0_0, .string a0_1, .slice A0_2 l0_2.length c0_2, .slice A0_3 l0_3.length c0_3]] w fun e w' => e = .returned (.tuple #[.int .i64 r1, .bool r2]) ∧ Below w.heap.size w w' := by
 have hu44 := Tryd.underlying44
 have HR0_2 := Aside0.mk hr0_2
 have HC0_2 := Aside0.mk hc0_2
 clear hr0_2 hc0_2
 have HR0_3 := Aside0.mk hr0_3
 have HC0_3 := Aside0.mk hc0_3
 clear hr0_3 hc0_3
 have HB := Aside0.mk (Below.refl w.heap.size w)
 have H : (if a0_0 = 3 then (if (a0_1.size : Int) > 0 then (if 0 < (a0_1.size : Int) then (whetstoneref04_Int.j0 k a0_1 ((bt a0_1 0) == 45)) else (none)) else (whetstoneref04_Int.j0 k a0_1 false)) else (some (0, false))) = some (r1, r2) := h
 clear h
 by_cases c2 : a0_0 = 3
 ·rw [if_pos c2] at H
  have c2b0 : (a0_0 == 3) = true := beq_iff_eq.mpr c2
  have c2b1 : (a0_0 != 3) = false := bne_eq_false_iff_eq.mpr c2
  clear c2
  have HC3 := Aside0.mk H
  clear H
  go_enter Tryd.func30, Tryd.ntmps30
  go_upto_region 4 with (first | ((with_reducible refine gate_dst (N := 1) rfl ?_); (try (refine gate_guard (by rfl) ?_; dsimp only)); refine box_event ?hg (N := 1) ?hd (cs := #[.int .i64 a0_0, .string a0_1, .slice A0_2 l0_2.length c0_2, .slice A0_3 l0_3.length c0_3]) (t := 44) ?hr ?_; (case hd => rfl); (case hg => rfl); (case hr => first | (go_simp; done) | (go_simp; rfl)); intro gb270 hg w4 hbox hb; have n0_ := Aside0.mk (below_step (by repeat (first | (with_reducible first | exact HB.out | apply below_alloc | apply pw_below_drewN | apply below_drew1) | exact HB.out)) hb); have n1_ := Aside0.mk (hbox); have n2_ := Aside0.mk ((by rw [hg]; exact (below_size (by repeat (first | (with_reducible first | exact HB.out | apply below_alloc | apply pw_below_drewN | apply below_drew1) | exact HB.out))) : w.heap.size ≤ gb270)); have n3_ := Aside0.mk ((by rw [hg]; exact (below_size (by repeat (first | (with_reducible first | exact HB.out | apply below_alloc | apply pw_below_drewN | apply below_drew1) | exact HB.out))) : w.heap.size ≤ gb270)); clear HB; have HB := n0_; have BK270 := n1_; have GW270 := n2_; have GE270 := n3_; clear n0_ n1_ n2_ n3_; clear hb hbox hg; have hcz5_0 : w4.cell? ⟨gb270, 0, none⟩ = some (.int .i64 a0_0) := (blk_cell BK270.out 0).trans rfl; have hcz5_1 : w4.cell? ⟨gb270, 1, none⟩ = some (.string a0_1) := (blk_cell BK270.out 1).trans rfl; have hcz5_2 : w4.cell? ⟨gb270, 2, none⟩ = some (.slice A0_2 l0_2.length c0_2) := (blk_cell BK270.out 2).trans rfl; have hcz5_3 : w4.cell? ⟨gb270, 3, none⟩ = some (.slice A0_3 l0_3.length c0_3) := (blk_cell BK270.out 3).trans rfl; have hfz5_0 := blk_frozen BK270.out 0; have hfz5_1 := blk_frozen BK270.out 1; have hfz5_2 := blk_frozen BK270.out 2; have hfz5_3 := blk_frozen BK270.out 3))
  (try simp only [Act.put, List.setIfInBounds_toArray, List.set_cons_zero, List.set_cons_succ])
  go_cut [5] (fun v5 wc => ∃ (kq : Nat) (x5_2 : Bool), v5 = .bool x5_2 ∧ Aside0 (whetstoneref04_Int.j0 kq a0_1 x5_2 = some (r1, r2)) ∧ Aside0 (kq ≤ k) ∧ Aside0 (wc.heap[gb270]? = some (.cells #[.int .i64 a0_0, .string a0_1, (.slice A0_2 l0_2.length c0_2), (.slice A0_3 l0_3.length c0_3)] 44 (0, 0))) ∧ Aside0 (Below w.heap.size w wc))
  case first =>
   have H := HC3.out
   clear HC3
   by_cases c6 : (a0_1.size : Int) > 0
   ·rw [if_pos c6] at H
    have c6b0 : decide (0 < (a0_1.size : Int)) = true := decide_eq_true c6
    have c6b1 : decide (0 < a0_1.size) = true := decide_eq_true (by omega)
    clear c6
    (first | rw [c6b0] | (simp only [i64_w, i32_w]; rw [c6b0]) | skip)
    by_cases c7 : 0 < (a0_1.size : Int)
    ·rw [if_pos c7] at H
     have c7b0 : decide (0 < (a0_1.size : Int)) = true := decide_eq_true c7
     have c7b1 : decide (0 < a0_1.size) = true := decide_eq_true (by omega)
     clear c7
     have H' := Aside0.mk H
     clear H
     have p8 : 0 ≤ (0 : Int) := (by omega)
     have q8 : 0 < a0_1.size := (by have : (0 : Int) < (a0_1.size : Int) := of_decide_eq_true (by first | (with_reducible assumption) | assumption); omega)
     have hx8 : ∀ h : 0 < a0_1.size, ((a0_1[0]'h).toNat : Int) = bt a0_1 0 := bt_at a0_1 0
     clear p8
     have qi8 : (0 < (a0_1.size : Int)) = True := eq_true (of_decide_eq_true (by first | (with_reducible assumption) | assumption))
     replace q8 := eq_true q8
     go_wp2
     go_meet
     case rel => exact ⟨_, (((bt a0_1 0) == 45)), (by first | rfl | (simp; done) | (simp [*]; done)), H', ⟨by first | omega | exact Nat.le_refl _⟩, ⟨by (with_reducible repeat (first | refine blk_drewN ?_ _ | refine blk_drew ?_ | refine blk_alloc ?_ _)); exact BK270.out⟩, ⟨by repeat (first | (with_reducible first | exact HB.out | apply below_alloc | apply pw_below_drewN | apply below_drew1 | refine below_set ?_ GE270.out) | exact HB.out)⟩⟩
    ·rw [if_neg c7] at H
     exact absurd H (by simp)
   ·rw [if_neg c6] at H
    have c6b0 : decide (0 < (a0_1.size : Int)) = false := decide_eq_false c6
    have c6b1 : decide (0 < a0_1.size) = false := decide_eq_false (by omega)
    clear c6
    (first | rw [c6b0] | (simp only [i64_w, i32_w]; rw [c6b0]) | skip)
    have H' := Aside0.mk H
    clear H
    go_wp2
    go_meet
    case rel => exact ⟨_, (false), (by first | rfl | (simp; done) | (simp [*]; done)), H', ⟨by first | omega | exact Nat.le_refl _⟩, ⟨by (with_reducible repeat (first | refine blk_drewN ?_ _ | refine blk_drew ?_ | refine blk_alloc ?_ _)); exact BK270.out⟩, ⟨by repeat (first | (with_reducible first | exact HB.out | apply below_alloc | apply pw_below_drewN | apply below_drew1 | refine below_set ?_ GE270.out) | exact HB.out)⟩⟩
  case rest =>
   clear HC3
   try clear c2; try clear c2b0; try clear c2b1; try clear p2; try clear c3; try clear c6; try clear c6b0; try clear c6b1; try clear c7; try clear c7b0; try clear c7b1; try clear p8; try clear q8; try clear hx8; try clear qi8; try clear hcz5_0; try clear hcz5_1; try clear hcz5_2; try clear hcz5_3; try clear hfz5_0; try clear hfz5_1; try clear hfz5_2; try clear hfz5_3; try clear p8; try clear q8
   obtain ⟨kq, x5_2, rfl, HA, HJ2, BK270, HB⟩ := hcut
   cases kq with
   | zero => exact absurd HA.out (by simp [whetstoneref04_Int.j0])
   | succ kj2 =>
    have H := HA.out
    clear HA
    simp only [whetstoneref04_Int.j0] at H
    have HC9 := Aside0.mk H
    clear H
    go_upto_if 21 with (fail)
    go_cut [4] (fun v4 wc => ∃ (kq : Nat) (x4_8 : ByteArray), v4 = .string x4_8 ∧ Aside0 (whetstoneref04_Int.j1 kq x4_8 x5_2 = some (r1, r2)) ∧ Aside0 (kq ≤ kj2) ∧ Aside0 (wc.heap[gb270]? = some (.cells #[.int .i64 a0_0, .string a0_1, (.slice A0_2 l0_2.length c0_2), (.slice A0_3 l0_3.length c0_3)] 44 (0, 0))) ∧ Aside0 (Below w.heap.size w wc))
    case first =>
     have H := HC9.out
     clear HC9
     by_cases c10 : x5_2 = true
     ·subst c10
      have H1 : (if 1 ≤ (a0_1.size : Int) then (whetstoneref04_Int.j1 kj2 (a0_1.extract 1 a0_1.size) true) else (none)) = some (r1, r2) := by rw [if_pos rfl] at H; exact H
      clear H
      have H := H1
      clear H1
      by_cases c11 : 1 ≤ (a0_1.size : Int)
      ·rw [if_pos c11] at H
       have c11b0 := eq_true c11
       have c11b1 : decide (1 ≤ (a0_1.size : Int)) = true := decide_eq_true c11
       clear c11
       have H' := Aside0.mk H
       clear H
       go_wp2
       go_meet
       case rel => exact ⟨_, (a0_1.extract 1 a0_1.size), (by first | rfl | (simp; done) | (simp [*]; done)), H', ⟨by have := HJ2.out; first | omega | exact Nat.le_refl _⟩, ⟨by (with_reducible repeat (first | refine blk_drewN ?_ _ | refine blk_drew ?_ | refine blk_alloc ?_ _)); exact BK270.out⟩, ⟨by repeat (first | (with_reducible first | exact HB.out | apply below_alloc | apply pw_below_drewN | apply below_drew1 | refine below_set ?_ GE270.out) | exact HB.out)⟩⟩
      ·rw [if_neg c11] at H
       exact absurd H (by simp)
     ·replace c10 := Bool.eq_false_iff.mpr c10
      subst c10
      have H1 : (whetstoneref04_Int.j1 kj2 a0_1 false) = some (r1, r2) := by rw [if_neg (show ¬ (false = true) by decide)] at H; exact H
      clear H
      have H := H1
      clear H1
      have H' := Aside0.mk H
      clear H
      go_wp2
      go_meet
      case rel => exact ⟨_, (a0_1), (by first | rfl | (simp; done) | (simp [*]; done)), H', ⟨by have := HJ2.out; first | omega | exact Nat.le_refl _⟩, ⟨by (with_reducible repeat (first | refine blk_drewN ?_ _ | refine blk_drew ?_ | refine blk_alloc ?_ _)); exact BK270.out⟩, ⟨by repeat (first | (with_reducible first | exact HB.out | apply below_alloc | apply pw_below_drewN | apply below_drew1 | refine below_set ?_ GE270.out) | exact HB.out)⟩⟩
    case rest =>
     clear HC9
     try clear c1; try clear c2; try clear c2b0; try clear c2b1; try clear p2; try clear c3; try clear c6; try clear c6b0; try clear c6b1; try clear c7; try clear c7b0; try clear c7b1; try clear p8; try clear q8; try clear hx8; try clear qi8; try clear c10; try clear c11; try clear c11b0; try clear c11b1; try clear hcz5_0; try clear hcz5_1; try clear hcz5_2; try clear hcz5_3; try clear hfz5_0; try clear hfz5_1; try clear hfz5_2; try clear hfz5_3; try clear p2; try clear p8; try clear q8
     obtain ⟨kq, x4_8, rfl, HA, HJ8, BK270, HB⟩ := hcut
     cases kq with
     | zero => exact absurd HA.out (by simp [whetstoneref04_Int.j1])
     | succ kj8 =>
      have H := HA.out
      clear HA
      simp only [whetstoneref04_Int.j1] at H
      have HC12 := Aside0.mk H
      clear H
      go_upto_region 7 with (fail)
      go_cut [44] (fun v44 wc => ∃ (kq : Nat) (x44_11 : Bool), v44 = .bool x44_11 ∧ Aside0 (whetstoneref04_Int.j2 kq x4_8 x5_2 x44_11 = some (r1, r2)) ∧ Aside0 (kq ≤ kj8) ∧ Aside0 (wc.heap[gb270]? = some (.cells #[.int .i64 a0_0, .string a0_1, (.slice A0_2 l0_2.length c0_2), (.slice A0_3 l0_3.length c0_3)] 44 (0, 0))) ∧ Aside0 (Below w.heap.size w wc))
      case first =>
       have H := HC12.out
       clear HC12
       by_cases c13 : (x4_8.size : Int) < 1
       ·rw [if_pos c13] at H
        have c13b0 : decide ((x4_8.size : Int) < 1) = true := decide_eq_true c13
        have c13b1 : decide (x4_8.size < 1) = true := decide_eq_true (by omega)
        clear c13
        (first | rw [c13b0] | (simp only [i64_w, i32_w]; rw [c13b0]) | skip)
        have H' := Aside0.mk H
        clear H
        go_wp2
        go_meet
        case rel => exact ⟨_, (true), (by first | rfl | (simp; done) | (simp [*]; done)), H', ⟨by have := HJ2.out; have := HJ8.out; first | omega | exact Nat.le_refl _⟩, ⟨by (with_reducible repeat (first | refine blk_drewN ?_ _ | refine blk_drew ?_ | refine blk_alloc ?_ _)); exact BK270.out⟩, ⟨by repeat (first | (with_reducible first | exact HB.out | apply below_alloc | apply pw_below_drewN | apply below_drew1 | refine below_set ?_ GE270.out) | exact HB.out)⟩⟩
       ·rw [if_neg c13] at H
        have c13b0 : decide ((x4_8.size : Int) < 1) = false := decide_eq_false c13
        have c13b1 : decide (x4_8.size < 1) = false := decide_eq_false (by omega)
        clear c13
        (first | rw [c13b0] | (simp only [i64_w, i32_w]; rw [c13b0]) | skip)
        by_cases c14 : (x4_8.size : Int) > 9
        ·rw [if_pos c14] at H
         have c14b0 : decide (9 < (x4_8.size : Int)) = true := decide_eq_true c14
         have c14b1 : decide (9 < x4_8.size) = true := decide_eq_true (by omega)
         clear c14
         have H' := Aside0.mk H
         clear H
         go_wp2
         go_meet
         case rel => exact ⟨_, (true), (by first | rfl | (simp; done) | (simp [*]; done)), H', ⟨by have := HJ2.out; have := HJ8.out; first | omega | exact Nat.le_refl _⟩, ⟨by (with_reducible repeat (first | refine blk_drewN ?_ _ | refine blk_drew ?_ | refine blk_alloc ?_ _)); exact BK270.out⟩, ⟨by repeat (first | (with_reducible first | exact HB.out | apply below_alloc | apply pw_below_drewN | apply below_drew1 | refine below_set ?_ GE270.out) | exact HB.out)⟩⟩
        ·rw [if_neg c14] at H
         have c14b0 : decide (9 < (x4_8.size : Int)) = false := decide_eq_false c14
         have c14b1 : decide (9 < x4_8.size) = false := decide_eq_false (by omega)
         clear c14
         by_cases c15 : 0 < (x4_8.size : Int)
         ·rw [if_pos c15] at H
          have c15b0 : decide (0 < (x4_8.size : Int)) = true := decide_eq_true c15
          have c15b1 : decide (0 < x4_8.size) = true := decide_eq_true (by omega)
          clear c15
          by_cases c17 : (bt x4_8 0) = 48
          ·rw [if_pos c17] at H
           have c17b0 : ((bt x4_8 0) == 48) = true := beq_iff_eq.mpr c17
           have c17b1 : ((bt x4_8 0) != 48) = false := bne_eq_false_iff_eq.mpr c17
           clear c17
           by_cases c18 : (x4_8.size : Int) > 1
           ·rw [if_pos c18] at H
            have c18b0 : decide (1 < (x4_8.size : Int)) = true := decide_eq_true c18
            have c18b1 : decide (1 < x4_8.size) = true := decide_eq_true (by omega)
            clear c18
            have H' := Aside0.mk H
            clear H
            have p16 : 0 ≤ (0 : Int) := (by omega)
            have q16 : 0 < x4_8.size := (by have : (0 : Int) < (x4_8.size : Int) := of_decide_eq_true (by first | (with_reducible assumption) | assumption); omega)
            have hx16 : ∀ h : 0 < x4_8.size, ((x4_8[0]'h).toNat : Int) = bt x4_8 0 := bt_at x4_8 0
            clear p16
            have qi16 : (0 < (x4_8.size : Int)) = True := eq_true (of_decide_eq_true (by first | (with_reducible assumption) | assumption))
            replace q16 := eq_true q16
            go_wp2
            go_meet
            case rel => exact ⟨_, (true), (by first | rfl | (simp; done) | (simp [*]; done)), H', ⟨by have := HJ2.out; have := HJ8.out; first | omega | exact Nat.le_refl _⟩, ⟨by (with_reducible repeat (first | refine blk_drewN ?_ _ | refine blk_drew ?_ | refine blk_alloc ?_ _)); exact BK270.out⟩, ⟨by repeat (first | (with_reducible first | exact HB.out | apply below_alloc | apply pw_below_drewN | apply below_drew1 | refine below_set ?_ GE270.out) | exact HB.out)⟩⟩
           ·rw [if_neg c18] at H
            have c18b0 : decide (1 < (x4_8.size : Int)) = false := decide_eq_false c18
            have c18b1 : decide (1 < x4_8.size) = false := decide_eq_false (by omega)
            clear c18
            have H' := Aside0.mk H
            clear H
            have p16 : 0 ≤ (0 : Int) := (by omega)
            have q16 : 0 < x4_8.size := (by have : (0 : Int) < (x4_8.size : Int) := of_decide_eq_true (by first | (with_reducible assumption) | assumption); omega)
            have hx16 : ∀ h : 0 < x4_8.size, ((x4_8[0]'h).toNat : Int) = bt x4_8 0 := bt_at x4_8 0
            clear p16
            have qi16 : (0 < (x4_8.size : Int)) = True := eq_true (of_decide_eq_true (by first | (with_reducible assumption) | assumption))
            replace q16 := eq_true q16
            go_wp2
            go_meet
            case rel => exact ⟨_, (x5_2), (by first | rfl | (simp; done) | (simp [*]; done)), H', ⟨by have := HJ2.out; have := HJ8.out; first | omega | exact Nat.le_refl _⟩, ⟨by (with_reducible repeat (first | refine blk_drewN ?_ _ | refine blk_drew ?_ | refine blk_alloc ?_ _)); exact BK270.out⟩, ⟨by repeat (first | (with_reducible first | exact HB.out | apply below_alloc | apply pw_below_drewN | apply below_drew1 | refine below_set ?_ GE270.out) | exact HB.out)⟩⟩
          ·rw [if_neg c17] at H
           have c17b0 : ((bt x4_8 0) == 48) = false := beq_eq_false_iff_ne.mpr c17
           have c17b1 : ((bt x4_8 0) != 48) = true := bne_iff_ne.mpr c17
           have H' := Aside0.mk H
           clear H
           have p16 : 0 ≤ (0 : Int) := (by omega)
           have q16 : 0 < x4_8.size := (by have : (0 : Int) < (x4_8.size : Int) := of_decide_eq_true (by first | (with_reducible assumption) | assumption); omega)
           have hx16 : ∀ h : 0 < x4_8.size, ((x4_8[0]'h).toNat : Int) = bt x4_8 0 := bt_at x4_8 0
           clear p16
           have qi16 : (0 < (x4_8.size : Int)) = True := eq_true (of_decide_eq_true (by first | (with_reducible assumption) | assumption))
           replace q16 := eq_true q16
           go_wp2
           go_meet
           case rel => exact ⟨_, (false), (by first | rfl | (simp; done) | (simp [*]; done)), H', ⟨by have := HJ2.out; have := HJ8.out; first | omega | exact Nat.le_refl _⟩, ⟨by (with_reducible repeat (first | refine blk_drewN ?_ _ | refine blk_drew ?_ | refine blk_alloc ?_ _)); exact BK270.out⟩, ⟨by repeat (first | (with_reducible first | exact HB.out | apply below_alloc | apply pw_below_drewN | apply below_drew1 | refine below_set ?_ GE270.out) | exact HB.out)⟩⟩
         ·rw [if_neg c15] at H
          exact absurd H (by simp)
      case rest =>
       clear HC12
       try clear c1; try clear p1; try clear q1; try clear hx1; try clear qi1; try clear c2; try clear c2b0; try clear c2b1; try clear p2; try clear c3; try clear c6; try clear c6b0; try clear c6b1; try clear c7; try clear c7b0; try clear c7b1; try clear p8; try clear q8; try clear hx8; try clear qi8; try clear c10; try clear c11; try clear c11b0; try clear c11b1; try clear c13; try clear c13b0; try clear c13b1; try clear c14; try clear c14b0; try clear c14b1; try clear c15; try clear c15b0; try clear c15b1; try clear p16; try clear q16; try clear hx16; try clear qi16; try clear c17; try clear c17b0; try clear c17b1; try clear c18; try clear c18b0; try clear c18b1; try clear hcz5_0; try clear hcz5_1; try clear hcz5_2; try clear hcz5_3; try clear hfz5_0; try clear hfz5_1; try clear hfz5_2; try clear hfz5_3; try clear p16; try clear p2; try clear p8; try clear q16; try clear q8
       obtain ⟨kq, x44_11, rfl, HA, HJ11, BK270, HB⟩ := hcut
       cases kq with
       | zero => exact absurd HA.out (by simp [whetstoneref04_Int.j2])
       | succ kj11 =>
        have H := HA.out
        clear HA
        simp only [whetstoneref04_Int.j2] at H
        by_cases c19 : x44_11 = true
        ·subst c19
         have H1 : (some (0, false)) = some (r1, r2) := by rw [if_pos rfl] at H; exact H
         clear H
         have H := H1
         clear H1
         simp only [Option.some.injEq, Prod.mk.injEq] at H
         obtain ⟨rfl, rfl⟩ := H
         go_wp2
         go_ret2
         exact ⟨by first | rfl | (simp [errW_none, errW_some] <;> rfl) | (simp [*, errW_none, errW_some] <;> rfl), by repeat (first | (with_reducible first | exact HB.out | apply below_alloc | apply pw_below_drewN | apply below_drew1 | refine below_set ?_ GE270.out) | exact HB.out)⟩
        ·replace c19 := Bool.eq_false_iff.mpr c19
         subst c19
         have H1 : (whetstoneref04_Int.l0 kj11 x4_8 x5_2 0 0) = some (r1, r2) := by rw [if_neg (show ¬ (false = true) by decide)] at H; exact H
         clear H
         have H := H1
         clear H1
         have H' := Aside0.mk H
         clear H
         go_wp2
         go_loopg [6, 7] kj11 (fun kq v6 v7 w' => ∃ (x6_4 : Int) (x7_4 : Int), v6 = .int .i64 x6_4 ∧ v7 = .int .i64 x7_4 ∧ Aside0 (whetstoneref04_Int.l0 kq x4_8 x5_2 x6_4 x7_4 = some (r1, r2)) ∧ Aside0 (kq ≤ kj11) ∧ Aside0 (w'.heap[gb270]? = some (.cells #[.int .i64 a0_0, .string a0_1, (.slice A0_2 l0_2.length c0_2), (.slice A0_3 l0_3.length c0_3)] 44 (0, 0))) ∧ Aside0 (Below w.heap.size w w'))
         case atStart => exact ⟨(0), (0), (by first | rfl | (simp; done) | (simp [*]; done)), (by first | rfl | (simp; done) | (simp [*]; done)), H', ⟨Nat.le_refl _⟩, ⟨by (with_reducible repeat (first | refine blk_drewN ?_ _ | refine blk_drew ?_ | refine blk_alloc ?_ _)); exact BK270.out⟩, ⟨by repeat (first | (with_reducible first | exact HB.out | apply below_alloc | apply pw_below_drewN | apply below_drew1 | refine below_set ?_ GE270.out) | exact HB.out)⟩⟩
         case round =>
          clear H'
          try clear c1; try clear p1; try clear q1; try clear hx1; try clear qi1; try clear c2; try clear c2b0; try clear c2b1; try clear p2; try clear c3; try clear c6; try clear c6b0; try clear c6b1; try clear c7; try clear c7b0; try clear c7b1; try clear p8; try clear q8; try clear hx8; try clear qi8; try clear c10; try clear c11; try clear c11b0; try clear c11b1; try clear c13; try clear c13b0; try clear c13b1; try clear c14; try clear c14b0; try clear c14b1; try clear c15; try clear c15b0; try clear c15b1; try clear p16; try clear q16; try clear hx16; try clear qi16; try clear c17; try clear c17b0; try clear c17b1; try clear c18; try clear c18b0; try clear c18b1; try clear c19; try clear hcz5_0; try clear hcz5_1; try clear hcz5_2; try clear hcz5_3; try clear hfz5_0; try clear hfz5_1; try clear hfz5_2; try clear hfz5_3; try clear p1; try clear p16; try clear p2; try clear p8; try clear q1; try clear q16; try clear q8
          obtain ⟨x6_4, x7_4, rfl, rfl, HA, HK4, BK270, HB⟩ := hrel
          cases gk with
          | zero => exact absurd HA.out (by simp [whetstoneref04_Int.l0])
          | succ k4 =>
           have H := HA.out
           clear HA
           simp only [whetstoneref04_Int.l0] at H
           by_cases c20 : x7_4 < (x4_8.size : Int)
           ·rw [if_pos c20] at H
            have c20b0 : decide (x7_4 < (x4_8.size : Int)) = true := decide_eq_true c20
            clear c20
            by_cases c21 : 0 ≤ x7_4
            ·rw [if_pos c21] at H
             have c21b0 : decide (0 ≤ x7_4) = true := decide_eq_true c21
             clear c21
             by_cases c23 : (bt x4_8 x7_4) < 48
             ·rw [if_pos c23] at H
              have c23b0 : decide ((bt x4_8 x7_4) < 48) = true := decide_eq_true c23
              clear c23
              simp only [Option.some.injEq, Prod.mk.injEq] at H
              obtain ⟨rfl, rfl⟩ := H
              have p22 : 0 ≤ (x7_4 : Int) := of_decide_eq_true (by first | (with_reducible assumption) | assumption)
              have q22 : x7_4 < (x4_8.size : Int) := of_decide_eq_true (by first | (with_reducible assumption) | assumption)
              have hx22 := bt_at x4_8 x7_4
              replace p22 := eq_true p22
              replace q22 := eq_true q22
              go_wp2
              go_ret2
              exact ⟨by first | rfl | (simp [errW_none, errW_some] <;> rfl) | (simp [*, errW_none, errW_some] <;> rfl), by repeat (first | (with_reducible first | exact HB.out | apply below_alloc | apply pw_below_drewN | apply below_drew1 | refine below_set ?_ GE270.out) | exact HB.out)⟩
             ·rw [if_neg c23] at H
              have c23b0 : decide ((bt x4_8 x7_4) < 48) = false := decide_eq_false c23
              clear c23
              by_cases c25 : (bt x4_8 x7_4) > 57
              ·rw [if_pos c25] at H
               have c25b0 : decide (57 < (bt x4_8 x7_4)) = true := decide_eq_true c25
               clear c25
               simp only [Option.some.injEq, Prod.mk.injEq] at H
               obtain ⟨rfl, rfl⟩ := H
               have p22 : 0 ≤ (x7_4 : Int) := of_decide_eq_true (by first | (with_reducible assumption) | assumption)
               have q22 : x7_4 < (x4_8.size : Int) := of_decide_eq_true (by first | (with_reducible assumption) | assumption)
               have hx22 := bt_at x4_8 x7_4
               replace p22 := eq_true p22
               replace q22 := eq_true q22
               have p24 : 0 ≤ (x7_4 : Int) := of_decide_eq_true (by first | (with_reducible assumption) | assumption)
               have q24 : x7_4 < (x4_8.size : Int) := of_decide_eq_true (by first | (with_reducible assumption) | assumption)
               have hx24 := bt_at x4_8 x7_4
               replace p24 := eq_true p24
               replace q24 := eq_true q24
               go_wp2
               go_ret2
               exact ⟨by first | rfl | (simp [errW_none, errW_some] <;> rfl) | (simp [*, errW_none, errW_some] <;> rfl), by repeat (first | (with_reducible first | exact HB.out | apply below_alloc | apply pw_below_drewN | apply below_drew1 | refine below_set ?_ GE270.out) | exact HB.out)⟩
              ·rw [if_neg c25] at H
               have c25b0 : decide (57 < (bt x4_8 x7_4)) = false := decide_eq_false c25
               clear c25
               have H' := Aside0.mk H
               clear H
               have p22 : 0 ≤ (x7_4 : Int) := of_decide_eq_true (by first | (with_reducible assumption) | assumption)
               have q22 : x7_4 < (x4_8.size : Int) := of_decide_eq_true (by first | (with_reducible assumption) | assumption)
               have hx22 := bt_at x4_8 x7_4
               replace p22 := eq_true p22
               replace q22 := eq_true q22
               have p24 : 0 ≤ (x7_4 : Int) := of_decide_eq_true (by first | (with_reducible assumption) | assumption)
               have q24 : x7_4 < (x4_8.size : Int) := of_decide_eq_true (by first | (with_reducible assumption) | assumption)
               have hx24 := bt_at x4_8 x7_4
               replace p24 := eq_true p24
               replace q24 := eq_true q24
               have p26 : 0 ≤ (x7_4 : Int) := of_decide_eq_true (by first | (with_reducible assumption) | assumption)
               have q26 : x7_4 < (x4_8.size : Int) := of_decide_eq_true (by first | (with_reducible assumption) | assumption)
               have hx26 := bt_at x4_8 x7_4
               replace p26 := eq_true p26
               replace q26 := eq_true q26
               go_wp2
               go_roundg k4
               case measure => have := HJ2.out; have := HJ8.out; have := HJ11.out; have := HK4.out; omega
               case rel => exact ⟨(wrap64 ((wrap64 (x6_4 * 10)) + (((bt x4_8 x7_4) - 48) % 256))), (wrap64 (x7_4 + 1)), (by first | rfl | (simp; done) | (simp [*]; done)), (by first | rfl | (simp; done) | (simp [*]; done)), H', ⟨by have := HJ2.out; have := HJ8.out; have := HJ11.out; have := HK4.out; omega⟩, ⟨by (with_reducible repeat (first | refine blk_drewN ?_ _ | refine blk_drew ?_ | refine blk_alloc ?_ _)); exact BK270.out⟩, ⟨by repeat (first | (with_reducible first | exact HB.out | apply below_alloc | apply pw_below_drewN | apply below_drew1 | refine below_set ?_ GE270.out) | exact HB.out)⟩⟩
            ·rw [if_neg c21] at H
             exact absurd H (by simp)
           ·rw [if_neg c20] at H
            have c20b0 : decide (x7_4 < (x4_8.size : Int)) = false := decide_eq_false c20
            clear c20
            by_cases c27 : x5_2 = true
            ·subst c27
             have H1 : (some (wrap64 (-x6_4), true)) = some (r1, r2) := by rw [if_pos rfl] at H; exact H
             clear H
             have H := H1
             clear H1
             simp only [Option.some.injEq, Prod.mk.injEq] at H
             obtain ⟨rfl, rfl⟩ := H
             go_wp2
             go_ret2
             exact ⟨by first | rfl | (simp [errW_none, errW_some] <;> rfl) | (simp [*, errW_none, errW_some] <;> rfl), by repeat (first | (with_reducible first | exact HB.out | apply below_alloc | apply pw_below_drewN | apply below_drew1 | refine below_set ?_ GE270.out) | exact HB.out)⟩
            ·replace c27 := Bool.eq_false_iff.mpr c27
             subst c27
             have H1 : (some (x6_4, true)) = some (r1, r2) := by rw [if_neg (show ¬ (false = true) by decide)] at H; exact H
             clear H
             have H := H1
             clear H1
             simp only [Option.some.injEq, Prod.mk.injEq] at H
             obtain ⟨rfl, rfl⟩ := H
             go_wp2
             go_ret2
             exact ⟨by first | rfl | (simp [errW_none, errW_some] <;> rfl) | (simp [*, errW_none, errW_some] <;> rfl), by repeat (first | (with_reducible first | exact HB.out | apply below_alloc | apply pw_below_drewN | apply below_drew1 | refine below_set ?_ GE270.out) | exact HB.out)⟩
 ·rw [if_neg c2] at H
  have c2b0 : (a0_0 == 3) = false := beq_eq_false_iff_ne.mpr c2
  have c2b1 : (a0_0 != 3) = true := bne_iff_ne.mpr c2
  simp only [Option.some.injEq, Prod.mk.injEq] at H
  obtain ⟨rfl, rfl⟩ := H
  go_enter Tryd.func30, Tryd.ntmps30
  go_wp2_with (first | ((with_reducible refine gate_dst (N := 1) rfl ?_); (try (refine gate_guard (by rfl) ?_; dsimp only)); refine box_event ?hg (N := 1) ?hd (cs := #[.int .i64 a0_0, .string a0_1, .slice A0_2 l0_2.length c0_2, .slice A0_3 l0_3.length c0_3]) (t := 44) ?hr ?_; (case hd => rfl); (case hg => rfl); (case hr => first | (go_simp; done) | (go_simp; rfl)); intro gb270 hg w28 hbox hb; have n0_ := Aside0.mk (below_step (by repeat (first | (with_reducible first | exact HB.out | apply below_alloc | apply pw_below_drewN | apply below_drew1) | exact HB.out)) hb); have n1_ := Aside0.mk (hbox); have n2_ := Aside0.mk ((by rw [hg]; exact (below_size (by repeat (first | (with_reducible first | exact HB.out | apply below_alloc | apply pw_below_drewN | apply below_drew1) | exact HB.out))) : w.heap.size ≤ gb270)); have n3_ := Aside0.mk ((by rw [hg]; exact (below_size (by repeat (first | (with_reducible first | exact HB.out | apply below_alloc | apply pw_below_drewN | apply below_drew1) | exact HB.out))) : w.heap.size ≤ gb270)); clear HB; have HB := n0_; have BK270 := n1_; have GW270 := n2_; have GE270 := n3_; clear n0_ n1_ n2_ n3_; clear hb hbox hg; have hcz29_0 : w28.cell? ⟨gb270, 0, none⟩ = some (.int .i64 a0_0) := (blk_cell BK270.out 0).trans rfl; have hcz29_1 : w28.cell? ⟨gb270, 1, none⟩ = some (.string a0_1) := (blk_cell BK270.out 1).trans rfl; have hcz29_2 : w28.cell? ⟨gb270, 2, none⟩ = some (.slice A0_2 l0_2.length c0_2) := (blk_cell BK270.out 2).trans rfl; have hcz29_3 : w28.cell? ⟨gb270, 3, none⟩ = some (.slice A0_3 l0_3.length c0_3) := (blk_cell BK270.out 3).trans rfl; have hfz29_0 := blk_frozen BK270.out 0; have hfz29_1 := blk_frozen BK270.out 1; have hfz29_2 := blk_frozen BK270.out 2; have hfz29_3 := blk_frozen BK270.out 3))
  go_ret2
  exact ⟨by first | rfl | (simp [errW_none, errW_some] <;> rfl) | (simp [*, errW_none, errW_some] <;> rfl), by repeat (first | (with_reducible first | exact HB.out | apply below_alloc | apply pw_below_drewN | apply below_drew1 | refine below_set ?_ GE270.out) | exact HB.out)⟩
end Go.Proofs.YteighppcdpaekaaDoor.P
end
section
namespace Go.Proofs.YteighppcdpaekaaDoor.Num
open Go.Lib Go.RowKit Go.Proofs.YteighppcdpaekaaDoorW.PrintWords Go.Proofs.YteighppcdpaekaaDoor.P
section
variable {α : Type} {r : α}
theorem evT {c : Prop} [Decidable c] {A B : Nat → Option α} (hc : c) (h : Ev A r) : Ev (fun k => if c then A k else B k) r := by simpa only [if_pos hc] using h
theorem evF {c : Prop} [Decidable c] {A B : Nat → Option α} (hc : ¬ c) (h : Ev B r) : Ev (fun k => if c then A k else B k) r := by simpa only [if_neg hc] using h
end
theorem size_len (s : ByteArray) : s.size = s.data.toList.length := by rw [Array.length_toList]; rfl
theorem bt_at (s : ByteArray) (i : Nat) (h : i < s.data.toList.length) : bt s (i : Int) = ((s.data.toList[i]).toNat : Int) := by
 unfold bt
 have h2 : ((i : Int)).toNat < s.size := by rw [size_len]; exact h
 rw [dif_pos h2]
 rfl
def endI (m : Bool) (o : Option Nat) : Int × Bool := match o with
 | some n => (sgn m n, true)
 | none => (0, false)
theorem loop (s : ByteArray) (m : Bool) (hl : s.data.toList.length ≤ 9) : ∀ (j i acc : Nat), i + j = s.data.toList.length → acc < 10 ^ i →
  Ev (fun k => whetstoneref04_Int.l0 k s m (acc : Int) (i : Int)) (endI m (decFrom acc (s.data.toList.drop i)))
 | 0, i, acc, h, ha => by
  have hp : 10 ^ i ≤ 10 ^ 9 := Nat.pow_le_pow_right (by omega) (by omega)
  rw [List.drop_eq_nil_of_le (by omega)]
  refine Ev.step (fun k => rfl) ?_
  refine evF (by rw [size_len]; omega) ?_
  cases m with
  | true =>
   refine evT rfl ?_
   have : wrap64 (-(acc : Int)) = sgn true acc := by show wrap64 (-(acc : Int)) = -(acc : Int); unfold wrap64; omega
   rw [this]
   exact Ev.now _
  | false => exact evF (c := false = true) (by decide) (Ev.now _)
 | j + 1, i, acc, h, ha => by
  have hi : i < s.data.toList.length := by omega
  have hp : 10 ^ i ≤ 10 ^ 8 := Nat.pow_le_pow_right (by omega) (by omega)
  rw [List.drop_eq_getElem_cons hi]
  refine Ev.step (fun k => rfl) ?_
  refine evT (by rw [size_len]; omega) ?_
  refine evT (by omega) ?_
  rw [bt_at s i hi]
  simp only [decFrom]
  generalize hc : s.data.toList[i] = c
  have hcl : c.toNat < 256 := c.toNat_lt
  by_cases h1 : (c.toNat : Int) < 48
  ·have : digitVal c = none := by unfold digitVal; rw [if_neg (by omega)]
   rw [this]
   exact evT h1 (Ev.now _)
  ·refine evF h1 ?_
   by_cases h2 : (c.toNat : Int) > 57
   ·have : digitVal c = none := by unfold digitVal; rw [if_neg (by omega)]
    rw [this]
    exact evT h2 (Ev.now _)
   ·refine evF h2 ?_
    have hd : digitVal c = some (c.toNat - 48) := by unfold digitVal; rw [if_pos (by omega)]
    rw [hd]
    have e1 : wrap64 (wrap64 ((acc : Int) * 10) + ((c.toNat : Int) - 48) % 256) = ((acc * 10 + (c.toNat - 48) : Nat) : Int) := by unfold wrap64; omega
    have e2 : wrap64 ((i : Int) + 1) = ((i + 1 : Nat) : Int) := by unfold wrap64; omega
    rw [e1, e2]
    exact loop s m hl j (i + 1) _ (by omega) (by rw [Nat.pow_succ]; omega)
theorem j1_ev (s : ByteArray) (m : Bool) : Ev (fun k => whetstoneref04_Int.j1 k s m) (refC m s.data.toList) := by
  have hz := size_len s
  have bad : magOk m s.data.toList = false → Ev (fun k => whetstoneref04_Int.j2 k s m true) (refC m s.data.toList) := fun hb => by
    rcases core m s.data.toList with h | ⟨n, h, _⟩
    · rw [h]
      refine Ev.step (fun k => rfl) ?_
      exact Ev.now _
    · rw [hb] at h; cases h
  have good : magOk m s.data.toList = true → Ev (fun k => whetstoneref04_Int.j2 k s m false) (refC m s.data.toList) := fun hb => by
    have hl : s.data.toList.length ≤ 9 := by
      cases m with
      | true => exact (mag_t.1 hb).1.2
      | false => exact (mag_f.1 hb).1.2
    have h0 := loop s m hl s.data.toList.length 0 0 (by omega) (by decide)
    have he : endI m (decFrom 0 (s.data.toList.drop 0)) = refC m s.data.toList := by
      rw [List.drop_zero]
      cases hd : decFrom 0 s.data.toList with
      | none =>
        rcases core m s.data.toList with h | ⟨n, _, h, _⟩
        · rw [h]; rfl
        · rw [hd] at h; cases h
      | some n => rw [core_mk hb hd]; rfl
    rw [he] at h0
    refine Ev.step (fun k => rfl) ?_
    exact h0
  refine Ev.step (fun k => rfl) ?_
  by_cases h1 : (s.size : Int) < 1
  · refine evT h1 (bad ?_)
    cases hk : magOk m s.data.toList with
    | false => rfl
    | true => cases m with
      | true => have := (mag_t.1 hk).1.1; omega
      | false => have := (mag_f.1 hk).1.1; omega
  · refine evF h1 ?_
    by_cases h2 : (s.size : Int) > 9
    · refine evT h2 (bad ?_)
      cases hk : magOk m s.data.toList with
      | false => rfl
      | true => cases m with
        | true => have := (mag_t.1 hk).1.2; omega
        | false => have := (mag_f.1 hk).1.2; omega
    · refine evF h2 ?_
      refine evT (by omega) ?_
      obtain ⟨c, r, hL⟩ : ∃ c r, s.data.toList = c :: r := by
        cases hL : s.data.toList with
        | nil => have h9 : s.size = 0 := by (rw [hz, hL]; rfl)
                 omega
        | cons c r => exact ⟨c, r, rfl⟩
      have hb0 : bt s 0 = (c.toNat : Int) := by
        have := bt_at s 0 (by rw [hL]; simp)
        rw [show ((0 : Nat) : Int) = (0 : Int) from rfl] at this
        rw [this]
        simp [hL]
      have hh : s.data.toList.head? = some c := by rw [hL]; rfl
      have hlen : 1 ≤ s.data.toList.length ∧ s.data.toList.length ≤ 9 := by omega
      have hc48 : c = 48 ↔ (c.toNat : Int) = 48 := ⟨fun e => by rw [e]; rfl, fun e => UInt8.toNat_inj.1 (by show c.toNat = 48; omega)⟩
      by_cases h3 : bt s 0 = 48
      · refine evT h3 ?_
        have hc : c = 48 := hc48.2 (by omega)
        by_cases h4 : (s.size : Int) > 1
        · refine evT h4 (bad ?_)
          cases hk : magOk m s.data.toList with
          | false => rfl
          | true => cases m with
            | true => exact absurd (by rw [hh, hc]) (mag_t.1 hk).2
            | false => exact absurd (by omega) ((mag_f.1 hk).2 (by rw [hh, hc]))
        · refine evF h4 ?_
          cases m with
          | true =>
            refine bad ?_
            cases hk : magOk true s.data.toList with
            | false => rfl
            | true => exact absurd (by rw [hh, hc]) (mag_t.1 hk).2
          | false => exact good (mag_f.2 ⟨hlen, fun _ => by omega⟩)
      · refine evF h3 (good ?_)
        have hne : s.data.toList.head? ≠ some 48 := by
          rw [hh]
          intro e
          exact h3 (by rw [hb0]; exact hc48.1 (Option.some.inj e))
        cases m with
        | true => exact mag_t.2 ⟨hlen, hne⟩
        | false => exact mag_f.2 ⟨hlen, fun e => absurd e hne⟩
theorem tail_of (s : ByteArray) : (s.extract 1 s.size).data.toList = s.data.toList.tail := by
 rw [ByteArray.data_extract, Array.toList_extract, size_len]
 simp only [List.extract_eq_take_drop, List.drop_one]
 exact List.take_of_length_le (by rw [List.length_tail]; exact Nat.le_refl _)
theorem int_ev (z : Int) (s : ByteArray) (l2 : List ByteArray) (l3 : List S44) : Ev (fun k => whetstoneref04_Int.f k z s l2 l3) (if z = 3 then intT s.data.toList else (0, false)) := by
  have hz := size_len s
  by_cases h : z = 3
  · rw [if_pos h, intT_eq]
    unfold refI
    show Ev (fun k => if z = 3 then _ else _) _
    refine evT h ?_
    by_cases h1 : (s.size : Int) > 0
    · refine evT h1 ?_
      refine evT h1 ?_
      obtain ⟨c, r, hL⟩ : ∃ c r, s.data.toList = c :: r := by
        cases hL : s.data.toList with
        | nil => have h9 : s.size = 0 := by (rw [hz, hL]; rfl)
                 omega
        | cons c r => exact ⟨c, r, rfl⟩
      have hb0 : bt s 0 = (c.toNat : Int) := by
        have := bt_at s 0 (by rw [hL]; simp)
        rw [show ((0 : Nat) : Int) = (0 : Int) from rfl] at this
        rw [this]
        simp [hL]
      have hh : (s.data.toList.head? == some 45) = (bt s 0 == 45) := by
        rw [hL, hb0, List.head?_cons, Bool.eq_iff_iff, beq_iff_eq, beq_iff_eq]
        exact ⟨fun e => by rw [Option.some.inj e]; rfl, fun e => congrArg some (UInt8.toNat_inj.1 (by show c.toNat = 45; omega))⟩
      rw [hh]
      cases hm : (bt s 0 == 45) with
      | true =>
        refine Ev.step (fun k => rfl) ?_
        have := j1_ev (s.extract 1 s.size) true
        rw [tail_of] at this
        exact evT (c := 1 ≤ (s.size : Int)) (B := fun _ => none) (by omega) this
      | false =>
        show Ev (fun k => whetstoneref04_Int.j0 k s false) (refC false s.data.toList)
        refine Ev.step (fun k => rfl) ?_
        exact j1_ev s false
    · refine evF h1 ?_
      have hL : s.data.toList = [] := List.eq_nil_of_length_eq_zero (by omega)
      have := j1_ev s false
      rw [hL] at this ⊢
      show Ev (fun k => whetstoneref04_Int.j0 k s false) (refC false [])
      refine Ev.step (fun k => rfl) ?_
      exact this
  · rw [if_neg h]
    exact evF h (Ev.now _)
end Go.Proofs.YteighppcdpaekaaDoor.Num
end
