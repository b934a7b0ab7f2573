/- Walks and words of this session, put together by a program of this session (pack.py). Conditions: as each text says. -/
import Derived.Test.YteighppcdpaekaaRows
import Derived.Test.YteighppcdpaekaaB2
import Derived.Test.YteighppcdpaekaaB3
import Derived.Test.YteighppcdpaekaaB4
set_option linter.unusedVariables false
set_option linter.unusedSimpArgs false
section
namespace Go.Proofs.Yteighppcdpaekaa.P
open Go.RowKit Go.Proofs.YteighppcdpaekaaW.PrintWords Go.Proofs.YteighppcdpaekaaW.PrintLast Go.Proofs.YteighppcdpaekaaW.PrintMore
attribute [local go_sem] max2_int min2_int max_two min_two max_three min_three max_four min_four
set_option linter.unusedVariables false
set_option linter.unusedSimpArgs false
end Go.Proofs.Yteighppcdpaekaa.P
end
section
namespace Go.Proofs.Yteighppcdpaekaa.P
open Go.RowKit Go.Proofs.YteighppcdpaekaaW.PrintWords Go.Proofs.YteighppcdpaekaaW.PrintLast Go.Proofs.YteighppcdpaekaaW.PrintMore
attribute [local go_sem] max2_int min2_int max_two min_two max_three min_three max_four min_four
set_option linter.unusedVariables false
set_option linter.unusedSimpArgs false
end Go.Proofs.Yteighppcdpaekaa.P
end
section
namespace Go.Proofs.Yteighppcdpaekaa.Eq4
open Go.RowKit Go.Proofs.YteighppcdpaekaaW.PrintWords Go.Proofs.Yteighppcdpaekaa.P
section
variable {α β : Type} {r : α}
theorem Evpos {c : Prop} [Decidable c] {A B : Nat → Option α} (hc : c) (h : Ev A r) : Ev (fun k => if c then A k else B k) r := by simpa only [if_pos hc] using h
theorem Evneg {c : Prop} [Decidable c] {A B : Nat → Option α} (hc : ¬ c) (h : Ev B r) : Ev (fun k => if c then A k else B k) r := by simpa only [if_neg hc] using h
end
theorem w64 {i : Nat} (h : i < 1000000000000) : wrap64 ((i : Int) + 1) = ((i + 1 : Nat) : Int) := by unfold wrap64; omega
mutual
def szS : S25 → Nat
 | ⟨_, _, _, l⟩ => szL l + 1
def szL : List S25 → Nat
 | [] => 0
 | x :: r => szS x + szL r
end
mutual
def ofS : S25 → S41
 | ⟨a, b, c, l⟩ => ⟨a, b, c, ofL l⟩
def ofL : List S25 → List S41
 | [] => []
 | x :: r => ofS x :: ofL r
end
theorem S25_eta (v : S25) : (⟨v.f0, v.f1, v.f2, v.f3⟩ : S25) = v := by cases v; rfl
theorem szS_eq (v : S25) : szS v = szL v.f3 + 1 := by cases v; simp [szS]
theorem ofS_eq (v : S25) : ofS v = ⟨v.f0, v.f1, v.f2, ofL v.f3⟩ := by cases v; simp [ofS]
theorem ofL_map (l : List S25) : ofL l = l.map ofS := by
 induction l with
 | nil => simp [ofL]
 | cons x r ih => simp [ofL, ih]
theorem szL_mem {x : S25} {l : List S25} (h : x ∈ l) : szS x ≤ szL l := by
 induction l with
 | nil => cases h
 | cons y r ih =>
  simp only [szL]
  rcases List.mem_cons.1 h with rfl | h
  ·omega
  ·have := ih h; omega
theorem rd25 {l : List S25} {i : Nat} (h : i < l.length) : rd_T25 l (i : Int) = l[i] := by
 unfold rd_T25
 rw [Int.toNat_natCast, List.getD_eq_getElem?_getD, List.getElem?_eq_getElem h]
 rfl
theorem rd41 {l : List S41} {i : Nat} (h : i < l.length) : rd_T41 l (i : Int) = l[i] := by
 unfold rd_T41
 rw [Int.toNat_natCast, List.getD_eq_getElem?_getD, List.getElem?_eq_getElem h]
 rfl
theorem rdB {l : List ByteArray} {i : Nat} (h : i < l.length) : rdOf ByteArray.empty l (i : Int) = l[i] := by
 unfold rdOf
 rw [Int.toNat_natCast, List.getD_eq_getElem?_getD, List.getElem?_eq_getElem h]
 rfl
inductive Light : S25 → Prop where
 | mk {v : S25} (h3 : v.f3.length ≤ 3000) (h2 : v.f2.length ≤ 3000) (h1 : v.f1.size ≤ 3000) (hk : ∀ (i : Nat) (h : i < v.f2.length), (v.f2[i]).size ≤ 3000) (hl : ∀ x ∈ v.f3, Light x) : Light v
theorem Light.out {v : S25} (h : Light v) : v.f3.length ≤ 3000 ∧ v.f2.length ≤ 3000 ∧ v.f1.size ≤ 3000 ∧ (∀ (i : Nat) (h : i < v.f2.length), (v.f2[i]).size ≤ 3000) ∧ ∀ x ∈ v.f3, Light x := by
 cases h with
 | mk h3 h2 h1 hk hl => exact ⟨h3, h2, h1, hk, hl⟩
theorem light_l1 {n : Nat} (ih : ∀ v d, szS v ≤ n → 0 ≤ d → d ≤ 91 → ∃ b, Ev (fun k => whetstonelaw04_light.f k v.f0 v.f1 v.f2 v.f3 d) b ∧ (b = true → Light v)) {v : S25} {d : Int} (hn : szL v.f3 ≤ n) (hd0 : 0 ≤ d) (hd1 : d ≤ 90) (h3 : v.f3.length ≤ 100) :
  ∀ m i : Nat, v.f3.length - i = m → i ≤ v.f3.length → ∃ b, Ev (fun k => whetstonelaw04_light.l1 k d (i : Int) v.f0 v.f1 v.f2 v.f3) b ∧ (b = true → ∀ j, i ≤ j → (h : j < v.f3.length) → Light v.f3[j]) := by
 intro m
 induction m with
 | zero =>
  intro i hm hi
  refine ⟨true, Ev.step (fun k => rfl) ?_, fun _ j h1 h2 => by omega⟩
  simp only [whetstonelaw04_light.l1]
  exact Evneg (by omega) (Ev.now _)
 | succ m im =>
  intro i hm hi
  have hlt : i < v.f3.length := by omega
  obtain ⟨b, hb, hL⟩ := ih v.f3[i] (d + 1) (Nat.le_trans (szL_mem (List.getElem_mem hlt)) hn) (by omega) (by omega)
  have hw : wrap64 (d + 1) = d + 1 := by unfold wrap64; omega
  cases b with
  | false =>
   refine ⟨false, Ev.step (fun k => rfl) ?_, fun h => by cases h⟩
   simp only [whetstonelaw04_light.l1, rd25 hlt, hw]
   exact Evpos (by omega) (Evpos (by omega) (Ev.bind hb (Evneg (by simp) (Ev.now _))))
  | true =>
   obtain ⟨b2, hb2, hL2⟩ := im (i + 1) (by omega) (by omega)
   refine ⟨b2, Ev.step (fun k => rfl) ?_, fun h j h1 h2 => ?_⟩
   ·simp only [whetstonelaw04_light.l1, rd25 hlt, hw]
    refine Evpos (by omega) (Evpos (by omega) (Ev.bind hb (Evpos rfl ?_)))
    rw [w64 (by omega)]
    exact hb2
   ·by_cases hj : j = i
    ·subst hj; exact hL rfl
    ·exact hL2 h j (by omega) h2
theorem light_l0 {v : S25} {d : Int} {b1 : Bool} (h1 : Ev (fun k => whetstonelaw04_light.l1 k d 0 v.f0 v.f1 v.f2 v.f3) b1) (h2 : v.f2.length ≤ 100) :
  ∀ m i : Nat, v.f2.length - i = m → i ≤ v.f2.length → ∃ b, Ev (fun k => whetstonelaw04_light.l0 k d (i : Int) v.f0 v.f1 v.f2 v.f3) b ∧ (b = true → b1 = true ∧ ∀ j, i ≤ j → (h : j < v.f2.length) → (v.f2[j]).size ≤ 200) := by
 intro m
 induction m with
 | zero =>
  intro i hm hi
  refine ⟨b1, Ev.step (fun k => rfl) ?_, fun h => ⟨h, fun j h1 h2 => by omega⟩⟩
  simp only [whetstonelaw04_light.l0]
  exact Evneg (by omega) h1
 | succ m im =>
  intro i hm hi
  have hlt : i < v.f2.length := by omega
  by_cases hs : ((v.f2[i]).size : Int) > 200
  ·refine ⟨false, Ev.step (fun k => rfl) ?_, fun h => by cases h⟩
   simp only [whetstonelaw04_light.l0, rdB hlt]
   exact Evpos (by omega) (Evpos (by omega) (Evpos hs (Ev.now _)))
  ·obtain ⟨b2, hb2, hL2⟩ := im (i + 1) (by omega) (by omega)
   refine ⟨b2, Ev.step (fun k => rfl) ?_, fun h => ⟨(hL2 h).1, fun j h1 h2 => ?_⟩⟩
   ·simp only [whetstonelaw04_light.l0, rdB hlt]
    refine Evpos (by omega) (Evpos (by omega) (Evneg hs ?_))
    rw [w64 (by omega)]
    exact hb2
   ·by_cases hj : j = i
    ·subst hj; omega
    ·exact (hL2 h).2 j (by omega) h2
theorem light_val : ∀ n v d, szS v ≤ n → 0 ≤ d → d ≤ 91 → ∃ b, Ev (fun k => whetstonelaw04_light.f k v.f0 v.f1 v.f2 v.f3 d) b ∧ (b = true → Light v) := by
 intro n
 induction n with
 | zero => intro v d h; rw [szS_eq] at h; omega
 | succ n ih =>
  intro v d h hd0 hd1
  rw [szS_eq] at h
  have no : Ev (fun k => whetstonelaw04_light.j0 k d true v.f0 v.f1 v.f2 v.f3) false := Ev.step (fun k => rfl) (by simp only [whetstonelaw04_light.j0]; exact Evpos (by trivial) (Ev.now _))
  by_cases h3 : (v.f3.length : Int) > 100
  ·exact ⟨false, Ev.step (fun k => rfl) (by simp only [whetstonelaw04_light.f]; exact Evpos h3 no), fun h => by cases h⟩
  by_cases h2 : (v.f2.length : Int) > 100
  ·exact ⟨false, Ev.step (fun k => rfl) (by simp only [whetstonelaw04_light.f]; exact Evneg h3 (Evpos h2 no)), fun h => by cases h⟩
  by_cases h1 : (v.f1.size : Int) > 1000
  ·exact ⟨false, Ev.step (fun k => rfl) (by simp only [whetstonelaw04_light.f]; exact Evneg h3 (Evneg h2 (Evpos h1 no))), fun h => by cases h⟩
  by_cases hd : d > 90
  ·refine ⟨false, Ev.step (fun k => rfl) ?_, fun h => by cases h⟩
   simp only [whetstonelaw04_light.f, hd, decide_true]
   exact Evneg h3 (Evneg h2 (Evneg h1 no))
  obtain ⟨b1, hb1, hL1⟩ := light_l1 ih (v := v) (d := d) (by omega) hd0 (by omega) (by omega) _ 0 rfl (by omega)
  obtain ⟨b0, hb0, hL0⟩ := light_l0 hb1 (by omega) _ 0 rfl (by omega)
  refine ⟨b0, Ev.step (fun k => rfl) ?_, fun h => ?_⟩
  ·simp only [whetstonelaw04_light.f, hd, decide_false]
   refine Evneg h3 (Evneg h2 (Evneg h1 (Ev.step (fun k => rfl) ?_)))
   simp only [whetstonelaw04_light.j0]
   exact Evneg (by simp) hb0
  ·obtain ⟨e1, e2⟩ := hL0 h
   refine Light.mk (by omega) (by omega) (by omega) (fun i hi => Nat.le_trans (e2 i (by omega) hi) (by omega)) fun x hx => ?_
   obtain ⟨j, hj, rfl⟩ := List.mem_iff_getElem.1 hx
   exact hL1 e1 j (by omega) hj
theorem of_l0 {n : Nat} (ih : ∀ v, szS v ≤ n → Light v → Ev (fun k => whetstonelaw04_of.f k v.f0 v.f1 v.f2 v.f3) (v.f0, v.f1, v.f2, ofL v.f3)) {v : S25} (hn : szL v.f3 ≤ n) (hL : Light v) {a : Int} {b : ByteArray} {c : List ByteArray} :
  ∀ m i : Nat, v.f3.length - i = m → i ≤ v.f3.length → Ev (fun k => whetstonelaw04_of.l0 k (i : Int) v.f0 v.f1 v.f2 v.f3 a b c (ofL (v.f3.take i))) (a, b, c, ofL v.f3) := by
 obtain ⟨h3, _, _, _, hl⟩ := hL.out
 intro m
 induction m with
 | zero =>
  intro i hm hi
  refine Ev.step (fun k => rfl) ?_
  simp only [whetstonelaw04_of.l0]
  rw [List.take_of_length_le (by omega)]
  exact Evneg (by omega) (Ev.now _)
 | succ m im =>
  intro i hm hi
  have hlt : i < v.f3.length := by omega
  have hb := ih v.f3[i] (Nat.le_trans (szL_mem (List.getElem_mem hlt)) hn) (hl _ (List.getElem_mem hlt))
  refine Ev.step (fun k => rfl) ?_
  simp only [whetstonelaw04_of.l0, rd25 hlt]
  refine Evpos (by omega) (Evpos (by omega) (Ev.bind hb (Evpos (by rw [ofL_map, List.length_map, List.length_take]; omega) ?_)))
  rw [w64 (by omega)]
  have := im (i + 1) (by omega) (by omega)
  rw [List.take_succ_eq_append_getElem hlt, ofL_map, List.map_append, ← ofL_map, List.map_cons, List.map_nil, ofS_eq] at this
  exact this
theorem of_val : ∀ n v, szS v ≤ n → Light v → Ev (fun k => whetstonelaw04_of.f k v.f0 v.f1 v.f2 v.f3) (v.f0, v.f1, v.f2, ofL v.f3) := by
 intro n
 induction n with
 | zero => intro v h; rw [szS_eq] at h; omega
 | succ n ih =>
  intro v h hL
  rw [szS_eq] at h
  refine Ev.step (fun k => rfl) ?_
  simp only [whetstonelaw04_of.f]
  exact of_l0 ih (by omega) hL _ 0 rfl (by omega)
theorem count_l0 {n : Nat} (ih : ∀ v, szS v ≤ n → Light v → ∃ r, Ev (fun k => whetstoneref04_Count.f k v.f0 v.f1 v.f2 (ofL v.f3)) r) {v : S25} (hn : szL v.f3 ≤ n) (hL : Light v) :
  ∀ m i : Nat, ∀ x y : Int, v.f3.length - i = m → i ≤ v.f3.length → ∃ r, Ev (fun k => whetstoneref04_Count.l0 k x y (i : Int) v.f0 v.f1 v.f2 (ofL v.f3)) r := by
 obtain ⟨h3, _, _, _, hl⟩ := hL.out
 have hll : (ofL v.f3).length = v.f3.length := by rw [ofL_map, List.length_map]
 intro m
 induction m with
 | zero =>
  intro i x y hm hi
  refine ⟨(x, wrap64 (y + 1)), Ev.step (fun k => rfl) ?_⟩
  simp only [whetstoneref04_Count.l0]
  exact Evneg (by omega) (Ev.now _)
 | succ m im =>
  intro i x y hm hi
  have hlt : i < v.f3.length := by omega
  obtain ⟨⟨r1, r2⟩, hb⟩ := ih v.f3[i] (Nat.le_trans (szL_mem (List.getElem_mem hlt)) hn) (hl _ (List.getElem_mem hlt))
  have hr : rd_T41 (ofL v.f3) (i : Int) = ⟨v.f3[i].f0, v.f3[i].f1, v.f3[i].f2, ofL v.f3[i].f3⟩ := by
   rw [rd41 (by omega), ← ofS_eq]
   simp only [ofL_map, List.getElem_map]
  by_cases hc : r2 > y
  ·obtain ⟨r, hr2⟩ := im (i + 1) (wrap64 (x + r1)) r2 (by omega) (by omega)
   refine ⟨r, Ev.step (fun k => rfl) ?_⟩
   simp only [whetstoneref04_Count.l0, hr]
   refine Evpos (by omega) (Evpos (by omega) (Ev.bind hb (Evpos hc ?_)))
   rw [w64 (by omega)]
   exact hr2
  ·obtain ⟨r, hr2⟩ := im (i + 1) (wrap64 (x + r1)) y (by omega) (by omega)
   refine ⟨r, Ev.step (fun k => rfl) ?_⟩
   simp only [whetstoneref04_Count.l0, hr]
   refine Evpos (by omega) (Evpos (by omega) (Ev.bind hb (Evneg hc ?_)))
   rw [w64 (by omega)]
   exact hr2
theorem count_val : ∀ n v, szS v ≤ n → Light v → ∃ r, Ev (fun k => whetstoneref04_Count.f k v.f0 v.f1 v.f2 (ofL v.f3)) r := by
 intro n
 induction n with
 | zero => intro v h; rw [szS_eq] at h; omega
 | succ n ih =>
  intro v h hL
  rw [szS_eq] at h
  obtain ⟨r, hr⟩ := count_l0 ih (v := v) (by omega) hL _ 0 1 0 rfl (by omega)
  refine ⟨r, Ev.step (fun k => rfl) ?_⟩
  simp only [whetstoneref04_Count.f]
  exact hr
theorem few_val (v : S25) : ∃ b, Ev (fun k => whetstonelaw04_few.f k v.f0 v.f1 v.f2 v.f3) b ∧ (b = true → Light v) := by
 obtain ⟨b, hb, hL⟩ := light_val _ v 0 (Nat.le_refl _) (by omega) (by omega)
 cases b with
 | false => exact ⟨false, Ev.bind hb (Evneg (by simp) (Ev.now _)), fun h => by cases h⟩
 | true =>
  have hL' := hL rfl
  obtain ⟨r, hr⟩ := count_val _ v (Nat.le_refl _) hL'
  exact ⟨_, Ev.bind hb (Evpos rfl (Ev.bind (of_val _ v (Nat.le_refl _) hL') (Ev.bind hr (Ev.now _)))), fun _ => hL'⟩
end Go.Proofs.Yteighppcdpaekaa.Eq4
end
section
namespace Go.Proofs.Yteighppcdpaekaa.P
open Go.RowKit Go.Proofs.YteighppcdpaekaaW.PrintWords Go.Proofs.Yteighppcdpaekaa Go.Proofs.Yteighppcdpaekaa.Eq4
open Go.ChangeShapes Go.WideShapes
theorem bulk_list {H : Type} : ∀ (l : List S25) (ds : List (DataW H)) (h : l.length = ds.length), (∀ i (hi : i < l.length), szS l[i] ≤ Rows.uptoBulk (ds[i]'(by omega))) → szL l ≤ Rows.uptoBulkAll ds := by
 intro l
 induction l with
 | nil => intro ds _ _; simp [szL]
 | cons a r ih =>
  intro ds h hs
  cases ds with
  | nil => simp at h
  | cons d e =>
   simp only [szL, Rows.uptoBulkAll]
   have h0 := hs 0 (by simp)
   have h1 := ih e (by simpa using h) (fun i hi => by have := hs (i + 1) (by simp; omega); simpa using this)
   simp at h0
   omega
section
variable {H : Type} {enc : TypeId × Value → H} {W : World} {sp : Nat → Bool} {held : Bool}
theorem openB25 : ∀ (fuel : Nat) (cs : List Value) (x : DataW H × List MemPlace), DataW.trod enc Try.prog W 0 sp held fuel 25 cs = some x → ∃ v : S25, k25.K W v cs ∧ szS v ≤ Rows.uptoBulk x.1 := by
 intro fuel
 induction fuel using Nat.strongRecOn with
 | _ fuel ih =>
  intro cs x h
  obtain ⟨xs, n, hn, rfl, hl, hlen, hf⟩ := DataW.trod_struct Try.underlying25 h
  rw [cells_25] at hl
  obtain ⟨a, b, c, d, rfl⟩ : ∃ a b c d, cs = [a, b, c, d] := by
   match cs, hl with
   | [a, b, c, d], _ => exact ⟨a, b, c, d, rfl⟩
  obtain ⟨y0, y1, y2, y3, rfl⟩ : ∃ a b c d, xs = [a, b, c, d] := by
   match xs, hlen with
   | [a, b, c, d], _ => exact ⟨a, b, c, d, rfl⟩
  have f0 : DataW.trod enc Try.prog W 0 sp held n 3 (([a, b, c, d].drop 0).take (Try.prog.cellsOf 3)) = some y0 := hf 0 _ rfl
  have f1 : DataW.trod enc Try.prog W 0 sp held n 9 (([a, b, c, d].drop 1).take (Try.prog.cellsOf 9)) = some y1 := hf 1 _ rfl
  have f2 : DataW.trod enc Try.prog W 0 sp held n 22 (([a, b, c, d].drop 2).take (Try.prog.cellsOf 22)) = some y2 := hf 2 _ rfl
  have f3 : DataW.trod enc Try.prog W 0 sp held n 23 (([a, b, c, d].drop 3).take (Try.prog.cellsOf 23)) = some y3 := hf 3 _ rfl
  rw [cells_3] at f0
  rw [cells_9] at f1
  rw [cells_22] at f2
  rw [cells_23] at f3
  obtain ⟨z, hz, _⟩ := DataW.trod_int Try.underlying3 f0
  obtain ⟨s, hs, _⟩ := DataW.trod_string Try.underlying9 f1
  obtain rfl : a = .int .i64 z := by simpa using hz
  obtain rfl : b = .string s := by simpa using hs
  have k2 : ∃ (l2 : List ByteArray) (A2 : Option Addr) (c2 : Nat), c = .slice A2 l2.length c2 ∧ l2.length ≤ c2 ∧ Kd.string.C W A2 l2.length l2 := by
   rcases open_strings Try.underlying22 Try.underlying9 cells_9 f2 with ⟨hc, _⟩ | ⟨ad, len, cap, ss, hc, _, h1, h2, h3, _, h5, _⟩
   ·obtain rfl : c = .slice none 0 0 := by simpa using hc
    exact ⟨[], none, 0, rfl, Nat.le_refl _, Kd.C_nil Kd.string W⟩
   ·obtain rfl : c = .slice (some ad) len cap := by simpa using hc
    have hss : len ≤ ss.length := by rw [h3]; split <;> omega
    have hll : (ss.take len).length = len := by rw [List.length_take]; omega
    refine ⟨ss.take len, some ad, cap, by rw [hll], by rw [hll]; exact h1, ?_⟩
    rw [hll]
    refine Kd.C_of_reads (enc := Value.string) (d := ByteArray.empty) (h1 := fun _ => rfl) ⟨hll, by unfold maxLen at h2; omega, fun _ => ⟨ad, rfl, fun j hj => ?_⟩⟩
    rw [h5 j (by omega)]
    simp only [List.getD_eq_getElem?_getD, List.getElem?_take_of_lt hj]
  have k3 : ∃ (l3 : List S25) (A3 : Option Addr) (c3 : Nat), d = .slice A3 l3.length c3 ∧ l3.length ≤ c3 ∧ k25.C W A3 l3.length l3 ∧ szL l3 ≤ Rows.uptoBulk y3.1 := by
   rcases DataW.trod_slice Try.underlying23 f3 with ⟨hc, _⟩ | ⟨ad, len, cap, elems, rest, n2, hn2, hc, hy3, _, h1, h2, h3, h4, _⟩
   ·obtain rfl : d = .slice none 0 0 := by simpa using hc
    exact ⟨[], none, 0, rfl, Nat.le_refl _, Kd.C_nil k25 W, by simp [szL]⟩
   ·obtain rfl : d = .slice (some ad) len cap := by simpa using hc
    obtain ⟨f, hff⟩ := Deep.choose_lt (α := S25) (n := len) (p := fun i v => ∃ cs, cs.length = 4 ∧ k25.K W v cs ∧ szS v ≤ Rows.uptoBulk (elems.getD i (.nil, [])).1 ∧ ∀ j u, cs[j]? = some u → W.cell? (ad.add (i * 4 + j)) = some u) (fun i hi => by
     have h5 := h4 i hi
     rw [List.getElem?_eq_getElem (by omega)] at h5
     obtain ⟨cs', h6, h7⟩ := Option.bind_eq_some_iff.1 h5
     rw [cells_25] at h6
     obtain ⟨_, h8, h9⟩ := World.cells?_some h6
     obtain ⟨v, hv, hsv⟩ := ih n2 (by omega) cs' _ h7
     refine ⟨v, cs', h8, hv, by rw [List.getD_eq_getElem?_getD, List.getElem?_eq_getElem (show i < elems.length by omega)]; exact hsv, fun j u hu => ?_⟩
     have hj : j < 4 := by have := (List.getElem?_eq_some_iff.1 hu).1; omega
     rw [← hu, ← h9 j hj, Deep.add_add])
    have hll : ((List.range len).map f).length = len := by simp
    refine ⟨(List.range len).map f, some ad, cap, by rw [hll], by rw [hll]; exact h1, ?_, ?_⟩
    rotate_left
    ·rw [hy3]
     simp only [Rows.uptoBulk]
     have := bulk_list ((List.range len).map f) (elems.map (·.1)) (by simp [h3]) (fun i hi => by
      rw [hll] at hi
      obtain ⟨_, _, _, e4, _⟩ := hff i hi
      simp only [List.getElem_map, List.getElem_range]
      rw [List.getD_eq_getElem?_getD, List.getElem?_eq_getElem (show i < elems.length by omega)] at e4
      exact e4)
     omega
    rw [hll]
    refine ⟨hll, by unfold maxLen at h2; omega, fun _ => ⟨ad, rfl, fun j p hj => ?_⟩⟩
    have hjl : j < len := by have := (List.getElem?_eq_some_iff.1 hj).1; rw [hll] at this; exact this
    obtain ⟨cs', e1, e2, _, e3⟩ := hff j hjl
    have : p = f j := by simpa [List.getElem?_range, hjl] using hj.symm
    subst this
    exact ⟨cs', e1, e2, e3⟩
  obtain ⟨l2, A2, c2, rfl, m2, g2⟩ := k2
  obtain ⟨l3, A3, c3, rfl, m3, g3, b3⟩ := k3
  refine ⟨⟨z, s, l2, l3⟩, k25_mk W ⟨z, s, l2, l3⟩ m2 g2 m3 g3, ?_⟩
  simp only [szS, List.map_cons, List.map_nil, Rows.uptoBulk, Rows.uptoBulkAll]
  omega
theorem openArgB25 {v : Value} {d : DataW H} {p : List MemPlace} (hv : Value.okWide Try.prog W .any 0 25 v) (h : DataW.Trod enc Try.prog W 0 sp held 25 v d p) :
  ∃ (s : S25) (A2 : Option Addr) (c2 : Nat) (A3 : Option Addr) (c3 : Nat), v = .agg #[.int .i64 s.f0, .string s.f1, .slice A2 s.f2.length c2, .slice A3 s.f3.length c3] ∧ s.f2.length ≤ c2 ∧ Kd.string.C W A2 s.f2.length s.f2 ∧ s.f3.length ≤ c3 ∧ k25.C W A3 s.f3.length s.f3 ∧ szS s ≤ Rows.uptoBulk d := by
 obtain ⟨cs, rfl, hsz⟩ := okWide_struct Try.underlying25 hv
 obtain ⟨fuel, hf⟩ := h
 obtain ⟨s, hs, hsb⟩ := openB25 fuel _ _ hf
 obtain ⟨A2, c2, A3, c3, he, m2, g2, m3, g3⟩ := k25_open hs
 refine ⟨s, A2, c2, A3, c3, ?_, m2, g2, m3, g3, hsb⟩
 have : cs.toList = [.int .i64 s.f0, .string s.f1, .slice A2 s.f2.length c2, .slice A3 s.f3.length c3] := by simpa [Value.cells] using he
 rw [← Array.toArray_toList (xs := cs), this]
end
end Go.Proofs.Yteighppcdpaekaa.P
end
section
namespace Go.Proofs.Yteighppcdpaekaa.Js
inductive Out (α : Type) where
 | ok (v : α) (p : Nat)
 | no (p : Nat) (e : Nat)
 deriving DecidableEq
def isBlank (c : Int) : Bool := c == 32 || c == 9 || c == 10 || c == 13
def isDigit (c : Int) : Bool := decide (48 ≤ c) && decide (c ≤ 57)
def blankLen : List Int → Nat
 | c :: r => if isBlank c then blankLen r + 1 else 0
 | [] => 0
def digitLen : List Int → Nat
 | c :: r => if isDigit c then digitLen r + 1 else 0
 | [] => 0
def blank (b : List Int) (p : Nat) : Nat := p + blankLen (b.drop p)
def next (b : List Int) (p : Nat) (c : Int) : Bool := b[p]? == some c
def word (b : List Int) : List Int → Nat → Out Unit
 | [], p => .ok () p
 | c :: r, p => match b[p]? with
  | none => .no p 11
  | some x => if x == c then word b r (p + 1) else .no p 6
def digits (b : List Int) (p : Nat) : Out Unit :=
 match b[p]? with
 | none => .no p 11
 | some c => if isDigit c then .ok () (p + digitLen (b.drop p)) else .no p 6
def numSign (b : List Int) (q : Nat) : Out Unit := digits b (if next b q 43 || next b q 45 then q + 1 else q)
def numExp (b : List Int) (q : Nat) : Out Unit := if next b q 101 || next b q 69 then numSign b (q + 1) else .ok () q
def numFrac (b : List Int) (q : Nat) : Out Unit :=
 if next b q 46 then match digits b (q + 1) with
  | .no x e => .no x e
  | .ok _ r => numExp b r
 else numExp b q
def numInt (b : List Int) (q : Nat) : Out Unit :=
 match b[q]? with
 | none => .no q 11
 | some c =>
  if c == 48 then numFrac b (q + 1)
  else match digits b q with
   | .no x e => .no x e
   | .ok _ r => numFrac b r
def number (b : List Int) (p : Nat) : Out Unit := numInt b (if next b p 45 then p + 1 else p)
def hexDigit (c : Int) : Option Int :=
 if 48 ≤ c ∧ c ≤ 57 then some (c - 48)
 else if 97 ≤ c ∧ c ≤ 102 then some (c - 87)
 else if 65 ≤ c ∧ c ≤ 70 then some (c - 55)
 else none
def hexTo (b : List Int) : Nat → Int → Nat → Out Int
 | 0, n, p => .ok n p
 | k + 1, n, p => match b[p]? with
  | none => .no p 11
  | some c => match hexDigit c with
   | none => .no p 6
   | some d => hexTo b k (n * 16 + d) (p + 1)
def hex (b : List Int) (p : Nat) : Out Int := hexTo b 4 0 p
def encode (r : Int) : Option (List Int) :=
 if r < 0 ∨ r > 0x10FFFF ∨ (0xD800 ≤ r ∧ r ≤ 0xDFFF) then none
 else if r < 0x80 then some [r]
 else if r < 0x800 then some [192 + r / 64, 128 + r % 64]
 else if r < 0x10000 then some [224 + r / 4096, 128 + r / 64 % 64, 128 + r % 64]
 else some [240 + r / 262144, 128 + r / 4096 % 64, 128 + r / 64 % 64, 128 + r % 64]
def unit (b : List Int) (p : Nat) : Out (List Int) :=
 let done (n : Int) (q : Nat) : Out (List Int) := match encode n with
  | some l => .ok l q
  | none => .no (p - 2) 6
 match hex b p with
 | .no x e => .no x e
 | .ok n q =>
  if 0xD800 ≤ n ∧ n ≤ 0xDBFF then
   if next b q 92 then
    match b[q + 1]? with
    | none => .no (q + 1) 11
    | some c =>
     if c == 117 then
      match hex b (q + 2) with
      | .no x e => .no x e
      | .ok low q => if low < 0xDC00 ∨ low > 0xDFFF then .no (p - 2) 6 else done (0x10000 + (n - 0xD800) * 1024 + low - 0xDC00) q
     else .no (p - 2) 6
   else .no (p - 2) 6
  else done n q
def escape (b : List Int) (p : Nat) : Out (List Int) :=
 match b[p]? with
 | none => .no p 11
 | some c =>
  if c == 34 || c == 92 || c == 47 then .ok [c] (p + 1)
  else if c == 98 then .ok [8] (p + 1)
  else if c == 102 then .ok [12] (p + 1)
  else if c == 110 then .ok [10] (p + 1)
  else if c == 114 then .ok [13] (p + 1)
  else if c == 116 then .ok [9] (p + 1)
  else if c == 117 then unit b (p + 1)
  else .no p 6
def textTo (b : List Int) : Nat → List Int → Nat → Option (Out (List Int))
 | 0, _, _ => none
 | k + 1, out, p => match b[p]? with
  | none => some (.no p 11)
  | some c =>
   if c == 34 then some (.ok out (p + 1))
   else if c == 92 then match escape b (p + 1) with
    | .no x e => some (.no x e)
    | .ok l q => textTo b k (out ++ l) q
   else if c < 32 then some (.no p 6)
   else textTo b k (out ++ [c]) (p + 1)
def text (b : List Int) (k p : Nat) : Option (Out (List Int)) :=
 match b[p]? with
 | none => some (.no p 11)
 | some c => if c == 34 then textTo b k [] (p + 1) else some (.no p 6)
inductive Val where
 | mk (kind : Int) (text : List Int) (keys : List (List Int)) (list : List Val)
def comma (b : List Int) (close : Int) (p : Nat) : Out Bool :=
 let q := blank b p
 match b[q]? with
 | none => .no q 11
 | some c =>
  if c == close then .ok false (q + 1)
  else if c == 44 then .ok true (blank b (q + 1))
  else .no q 6
def enter (b : List Int) (d p : Nat) : Out Unit := if d + 1 > 64 then .no p 13 else .ok () (blank b (p + 1))
mutual
def value (b : List Int) : Nat → Nat → Nat → Option (Out Val)
 | 0, _, _ => none
 | k + 1, d, p => match b[p]? with
  | none => some (.no p 11)
  | some c =>
   if c == 123 then match enter b d p with
    | .no x e => some (.no x e)
    | .ok _ q => match b[q]? with
     | none => some (.no q 11)
     | some c => if c == 125 then some (.ok (.mk 6 [] [] []) (q + 1)) else pairs b k (d + 1) [] [] q
   else if c == 91 then match enter b d p with
    | .no x e => some (.no x e)
    | .ok _ q => match b[q]? with
     | none => some (.no q 11)
     | some c => if c == 93 then some (.ok (.mk 5 [] [] []) (q + 1)) else items b k (d + 1) [] q
   else if c == 34 then (text b k p).map fun
    | .no x e => .no x e
    | .ok l q => .ok (.mk 4 l [] []) q
   else if c == 116 then some (match word b [116, 114, 117, 101] p with
    | .no x e => .no x e
    | .ok _ q => .ok (.mk 2 [] [] []) q)
   else if c == 102 then some (match word b [102, 97, 108, 115, 101] p with
    | .no x e => .no x e
    | .ok _ q => .ok (.mk 1 [] [] []) q)
   else if c == 110 then some (match word b [110, 117, 108, 108] p with
    | .no x e => .no x e
    | .ok _ q => .ok (.mk 0 [] [] []) q)
   else some (match number b p with
    | .no x e => .no x e
    | .ok _ q => .ok (.mk 3 ((b.take q).drop p) [] []) q)
def items (b : List Int) : Nat → Nat → List Val → Nat → Option (Out Val)
 | 0, _, _, _ => none
 | k + 1, d, l, p => match value b k d p with
  | none => none
  | some (.no x e) => some (.no x e)
  | some (.ok v q) => match comma b 93 q with
   | .no x e => some (.no x e)
   | .ok true q => items b k d (l ++ [v]) q
   | .ok false q => some (.ok (.mk 5 [] [] (l ++ [v])) q)
def pairs (b : List Int) : Nat → Nat → List (List Int) → List Val → Nat → Option (Out Val)
 | 0, _, _, _, _ => none
 | k + 1, d, ks, l, p => match text b k p with
  | none => none
  | some (.no x e) => some (.no x e)
  | some (.ok key q) =>
   if ks.contains key then some (.no p 23)
   else
    let q := blank b q
    match b[q]? with
    | none => some (.no q 11)
    | some c =>
     if c == 58 then match value b k d (blank b (q + 1)) with
      | none => none
      | some (.no x e) => some (.no x e)
      | some (.ok v q) => match comma b 125 q with
       | .no x e => some (.no x e)
       | .ok true q => pairs b k d (ks ++ [key]) (l ++ [v]) q
       | .ok false q => some (.ok (.mk 6 [] (ks ++ [key]) (l ++ [v])) q)
     else some (.no q 6)
end
def arr (b : List Int) (k d p : Nat) : Option (Out Val) :=
 match enter b d p with
 | .no x e => some (.no x e)
 | .ok _ q => match b[q]? with
  | none => some (.no q 11)
  | some c => if c == 93 then some (.ok (.mk 5 [] [] []) (q + 1)) else items b k (d + 1) [] q
def obj (b : List Int) (k d p : Nat) : Option (Out Val) :=
 match enter b d p with
 | .no x e => some (.no x e)
 | .ok _ q => match b[q]? with
  | none => some (.no q 11)
  | some c => if c == 125 then some (.ok (.mk 6 [] [] []) (q + 1)) else pairs b k (d + 1) [] [] q
def strV : Out (List Int) → Out Val
 | .no x e => .no x e
 | .ok l q => .ok (.mk 4 l [] []) q
def wordV (kind : Int) : Out Unit → Out Val
 | .no x e => .no x e
 | .ok _ q => .ok (.mk kind [] [] []) q
def numV (b : List Int) (p : Nat) : Out Unit → Out Val
 | .no x e => .no x e
 | .ok _ q => .ok (.mk 3 ((b.take q).drop p) [] []) q
theorem value_succ (b : List Int) (k d p : Nat) : value b (k + 1) d p = match b[p]? with
  | none => some (.no p 11)
  | some c =>
   if c == 123 then obj b k d p
   else if c == 91 then arr b k d p
   else if c == 34 then (text b k p).map strV
   else if c == 116 then some (wordV 2 (word b [116, 114, 117, 101] p))
   else if c == 102 then some (wordV 1 (word b [102, 97, 108, 115, 101] p))
   else if c == 110 then some (wordV 0 (word b [110, 117, 108, 108] p))
   else some (numV b p (number b p)) := by rw [value]; rfl
theorem drop_some {b : List Int} {p : Nat} {x : Int} (h : b[p]? = some x) : b.drop p = x :: b.drop (p + 1) := by
 obtain ⟨hl, hx⟩ := List.getElem?_eq_some_iff.1 h
 rw [← hx, List.drop_eq_getElem_cons hl]
theorem drop_none {b : List Int} {p : Nat} (h : b[p]? = none) : b.drop p = [] := List.drop_eq_nil_of_le (by simpa using h)
theorem blank_step {b : List Int} {p : Nat} {x : Int} (h : b[p]? = some x) (hx : isBlank x = true) : blankLen (b.drop p) = blankLen (b.drop (p + 1)) + 1 := by rw [drop_some h]; simp [blankLen, hx]
theorem blank_stop {b : List Int} {p : Nat} {x : Int} (h : b[p]? = some x) (hx : isBlank x = false) : blankLen (b.drop p) = 0 := by rw [drop_some h]; simp [blankLen, hx]
theorem blank_end {b : List Int} {p : Nat} (h : b[p]? = none) : blankLen (b.drop p) = 0 := by rw [drop_none h]; rfl
theorem digit_step {b : List Int} {p : Nat} {x : Int} (h : b[p]? = some x) (hx : isDigit x = true) : digitLen (b.drop p) = digitLen (b.drop (p + 1)) + 1 := by rw [drop_some h]; simp [digitLen, hx]
theorem digit_stop {b : List Int} {p : Nat} {x : Int} (h : b[p]? = some x) (hx : isDigit x = false) : digitLen (b.drop p) = 0 := by rw [drop_some h]; simp [digitLen, hx]
theorem digit_end {b : List Int} {p : Nat} (h : b[p]? = none) : digitLen (b.drop p) = 0 := by rw [drop_none h]; rfl
theorem digitLen_le (l : List Int) : digitLen l ≤ l.length := by
 induction l with
 | nil => simp [digitLen]
 | cons c r ih => simp only [digitLen]; split <;> simp <;> omega
theorem blankLen_le (l : List Int) : blankLen l ≤ l.length := by
 induction l with
 | nil => simp [blankLen]
 | cons c r ih => simp only [blankLen]; split <;> simp <;> omega
theorem digits_le {b : List Int} {p q : Nat} (h : digits b p = .ok () q) : p < q ∧ q ≤ b.length := by
 unfold digits at h
 cases hx : b[p]? with
 | none => simp [hx] at h
 | some c =>
  have hp : p < b.length := (List.getElem?_eq_some_iff.1 hx).1
  simp only [hx] at h
  split at h
  ·rename_i hd
   have h1 := digit_step hx hd
   have h2 := digitLen_le (b.drop (p + 1))
   simp at h h2
   omega
  ·cases h
theorem next_lt {b : List Int} {p : Nat} {c : Int} (h : next b p c = true) : p < b.length := by
 unfold next at h
 cases hx : b[p]? with
 | none => simp [hx] at h
 | some x => exact (List.getElem?_eq_some_iff.1 hx).1
theorem numSign_le {b : List Int} {p q : Nat} (h : numSign b p = .ok () q) : p < q ∧ q ≤ b.length := by
 unfold numSign at h
 have := digits_le h
 split at this <;> omega
theorem numExp_le {b : List Int} {p q : Nat} (hp : p ≤ b.length) (h : numExp b p = .ok () q) : p ≤ q ∧ q ≤ b.length := by
 unfold numExp at h
 split at h
 ·have := numSign_le h; omega
 ·simp at h; omega
theorem numFrac_le {b : List Int} {p q : Nat} (hp : p ≤ b.length) (h : numFrac b p = .ok () q) : p ≤ q ∧ q ≤ b.length := by
 unfold numFrac at h
 split at h
 ·cases hd : digits b (p + 1) with
  | no x e => simp [hd] at h
  | ok u r =>
   simp only [hd] at h
   have h1 := digits_le hd
   have h2 := numExp_le (by omega) h
   omega
 ·exact numExp_le hp h
theorem numInt_le {b : List Int} {p q : Nat} (h : numInt b p = .ok () q) : p ≤ q ∧ q ≤ b.length := by
 unfold numInt at h
 cases hx : b[p]? with
 | none => simp [hx] at h
 | some c =>
  have hp : p < b.length := (List.getElem?_eq_some_iff.1 hx).1
  simp only [hx] at h
  split at h
  ·have := numFrac_le (by omega) h; omega
  ·cases hd : digits b p with
   | no x e => simp [hd] at h
   | ok u r =>
    simp only [hd] at h
    have h1 := digits_le hd
    have h2 := numFrac_le (by omega) h
    omega
theorem number_le {b : List Int} {p q : Nat} (h : number b p = .ok () q) : p ≤ q ∧ q ≤ b.length := by
 unfold number at h
 have := numInt_le h
 split at this <;> omega
theorem hexTo_le {b : List Int} {k p q : Nat} {n v : Int} (h : hexTo b k n p = .ok v q) : q = p + k ∧ (k = 0 ∨ q ≤ b.length) := by
 induction k generalizing n p with
 | zero => simp [hexTo] at h; omega
 | succ k ih =>
  simp only [hexTo] at h
  cases hx : b[p]? with
  | none => simp [hx] at h
  | some c =>
   have hp : p < b.length := (List.getElem?_eq_some_iff.1 hx).1
   simp only [hx] at h
   cases hd : hexDigit c with
   | none => simp [hd] at h
   | some d =>
    simp only [hd] at h
    have := ih h
    omega
theorem hex_le {b : List Int} {p q : Nat} {v : Int} (h : hex b p = .ok v q) : q = p + 4 ∧ q ≤ b.length := by
 have := hexTo_le h
 omega
theorem unit_le {b : List Int} {p q : Nat} {l : List Int} (h : unit b p = .ok l q) : p < q ∧ q ≤ b.length := by
 unfold unit at h
 cases he : hex b p with
 | no x e => simp [he] at h
 | ok n r =>
  have h1 := hex_le he
  simp only [he] at h
  split at h
  ·split at h
   ·cases hx : b[r + 1]? with
    | none => simp [hx] at h
    | some c =>
     simp only [hx] at h
     split at h
     ·cases he2 : hex b (r + 2) with
      | no x e => simp [he2] at h
      | ok low s =>
       have h2 := hex_le he2
       simp only [he2] at h
       split at h
       ·cases h
       ·split at h
        ·simp at h; omega
        ·cases h
     ·cases h
   ·cases h
  ·split at h
   ·simp at h; omega
   ·cases h
theorem escape_le {b : List Int} {p q : Nat} {l : List Int} (h : escape b p = .ok l q) : p < q ∧ q ≤ b.length := by
 unfold escape at h
 cases hx : b[p]? with
 | none => simp [hx] at h
 | some c =>
  have hp : p < b.length := (List.getElem?_eq_some_iff.1 hx).1
  simp only [hx] at h
  repeat' split at h
  all_goals first
   | (have := unit_le h; omega)
   | (simp at h; omega)
   | cases h
theorem blank_le {b : List Int} {p : Nat} (h : p ≤ b.length) : p ≤ blank b p ∧ blank b p ≤ b.length := by
 unfold blank
 have := blankLen_le (b.drop p)
 simp at this
 omega
theorem comma_le {b : List Int} {cl : Int} {p q : Nat} {t : Bool} (hp : p ≤ b.length) (h : comma b cl p = .ok t q) : p < q ∧ q ≤ b.length := by
 unfold comma at h
 have h1 := blank_le hp
 simp only at h
 cases hx : b[blank b p]? with
 | none => simp [hx] at h
 | some c =>
  have hl : blank b p < b.length := (List.getElem?_eq_some_iff.1 hx).1
  simp only [hx] at h
  split at h
  ·simp at h; omega
  ·split at h
   ·have h2 := blank_le (b := b) (p := blank b p + 1) (by omega)
    simp at h; omega
   ·cases h
theorem word_le {b l : List Int} {p q : Nat} {u : Unit} (h : word b l p = .ok u q) : q = p + l.length ∧ (l = [] ∨ q ≤ b.length) := by
 induction l generalizing p with
 | nil => simp [word] at h; simp [h]
 | cons c r ih =>
  simp only [word] at h
  cases hx : b[p]? with
  | none => simp [hx] at h
  | some x =>
   have hl : p < b.length := (List.getElem?_eq_some_iff.1 hx).1
   simp only [hx] at h
   split at h
   ·have := ih h
    rw [List.length_cons]
    refine ⟨by omega, .inr ?_⟩
    rcases this with ⟨h1, h3 | h2⟩
    ·rw [h3, List.length_nil] at h1; omega
    ·omega
   ·cases h
theorem textTo_le {b : List Int} {k p q : Nat} {out l : List Int} (hp : p ≤ b.length) (h : textTo b k out p = some (.ok l q)) : p < q ∧ q ≤ b.length := by
 induction k generalizing out p with
 | zero => simp [textTo] at h
 | succ k ih =>
  simp only [textTo] at h
  cases hx : b[p]? with
  | none => simp [hx] at h
  | some c =>
   have hl : p < b.length := (List.getElem?_eq_some_iff.1 hx).1
   simp only [hx] at h
   split at h
   ·simp at h; omega
   ·split at h
    ·cases he : escape b (p + 1) with
     | no x e => simp [he] at h
     | ok l2 r =>
      simp only [he] at h
      have h1 := escape_le he
      have h2 := ih h1.2 h
      omega
    ·split at h
     ·cases h
     ·have h2 := ih (by omega) h
      omega
theorem text_le {b : List Int} {k p q : Nat} {l : List Int} (h : text b k p = some (.ok l q)) : p < q ∧ q ≤ b.length := by
 unfold text at h
 cases hx : b[p]? with
 | none => simp [hx] at h
 | some c =>
  have hl : p < b.length := (List.getElem?_eq_some_iff.1 hx).1
  simp only [hx] at h
  split at h
  ·have := textTo_le (by omega) h; omega
  ·cases h
theorem number_lt {b : List Int} {p q : Nat} {u : Unit} (h : number b p = .ok u q) : p < q ∧ q ≤ b.length := by
 unfold number at h
 split at h
 ·have := numInt_le h; omega
 ·unfold numInt at h
  cases hx : b[p]? with
  | none => simp [hx] at h
  | some c =>
   have hl : p < b.length := (List.getElem?_eq_some_iff.1 hx).1
   simp only [hx] at h
   split at h
   ·have := numFrac_le (by omega) h; omega
   ·cases hd : digits b p with
    | no x e => simp [hd] at h
    | ok u2 r =>
     simp only [hd] at h
     have h1 := digits_le hd
     have h2 := numFrac_le (by omega) h
     omega
theorem all_le (b : List Int) (k : Nat) : (∀ d p v q, value b k d p = some (.ok v q) → p < q ∧ q ≤ b.length) ∧ (∀ d l p v q, p ≤ b.length → items b k d l p = some (.ok v q) → p < q ∧ q ≤ b.length) ∧
  (∀ d ks l p v q, p ≤ b.length → pairs b k d ks l p = some (.ok v q) → p < q ∧ q ≤ b.length) := by
 induction k with
 | zero => refine ⟨fun d p v q h => ?_, fun d l p v q _ h => ?_, fun d ks l p v q _ h => ?_⟩ <;> simp [value, items, pairs] at h
 | succ k ih =>
  obtain ⟨i1, i2, i3⟩ := ih
  refine ⟨fun d p v q h => ?_, fun d l p v q hp h => ?_, fun d ks l p v q hp h => ?_⟩
  ·rw [value_succ] at h
   cases hx : b[p]? with
   | none => simp [hx] at h
   | some c =>
    have hl : p < b.length := (List.getElem?_eq_some_iff.1 hx).1
    have hbl := blank_le (b := b) (p := p + 1) (by omega)
    simp only [hx] at h
    split at h
    ·unfold obj enter at h
     split at h
     ·rename_i he
      split at he <;> simp at h
     ·rename_i u q1 he
      split at he
      ·cases he
      ·simp at he
       subst he
       cases hy : b[blank b (p + 1)]? with
       | none => simp [hy] at h
       | some c2 =>
        have hl2 := (List.getElem?_eq_some_iff.1 hy).1
        simp only [hy] at h
        split at h
        ·simp at h; omega
        ·have := i3 _ _ _ _ _ _ (by omega) h; omega
    split at h
    ·unfold arr enter at h
     split at h
     ·rename_i he
      split at he <;> simp at h
     ·rename_i u q1 he
      split at he
      ·cases he
      ·simp at he
       subst he
       cases hy : b[blank b (p + 1)]? with
       | none => simp [hy] at h
       | some c2 =>
        have hl2 := (List.getElem?_eq_some_iff.1 hy).1
        simp only [hy] at h
        split at h
        ·simp at h; omega
        ·have := i2 _ _ _ _ _ (by omega) h; omega
    split at h
    ·cases ht : text b k p with
     | none => simp [ht] at h
     | some o =>
      cases o with
      | no x e => simp [ht, strV] at h
      | ok l r => have := text_le ht; simp [ht, strV] at h; omega
    split at h
    ·cases hw : word b [116, 114, 117, 101] p with
     | no x e => simp [hw, wordV] at h
     | ok u r => have := word_le hw; simp [hw, wordV] at h; simp at this; omega
    split at h
    ·cases hw : word b [102, 97, 108, 115, 101] p with
     | no x e => simp [hw, wordV] at h
     | ok u r => have := word_le hw; simp [hw, wordV] at h; simp at this; omega
    split at h
    ·cases hw : word b [110, 117, 108, 108] p with
     | no x e => simp [hw, wordV] at h
     | ok u r => have := word_le hw; simp [hw, wordV] at h; simp at this; omega
    ·cases hw : number b p with
     | no x e => simp [hw, numV] at h
     | ok u r => have := number_lt hw; simp [hw, numV] at h; omega
  ·simp only [items] at h
   cases hv : value b k d p with
   | none => simp [hv] at h
   | some o =>
    cases o with
    | no x e => simp [hv] at h
    | ok v1 r =>
     have h1 := i1 _ _ _ _ hv
     simp only [hv] at h
     cases hc : comma b 93 r with
     | no x e => simp [hc] at h
     | ok t s =>
      have h2 := comma_le h1.2 hc
      cases t with
      | true => simp only [hc] at h; have := i2 _ _ _ _ _ h2.2 h; omega
      | false => simp [hc] at h; omega
  ·simp only [pairs] at h
   cases ht : text b k p with
   | none => simp [ht] at h
   | some o =>
    cases o with
    | no x e => simp [ht] at h
    | ok key q1 =>
     have h0 := text_le ht
     simp only [ht] at h
     split at h
     ·cases h
     have h01 := blank_le (b := b) (p := q1) h0.2
     cases hx : b[blank b q1]? with
     | none => simp [hx] at h
     | some c =>
      have hl : blank b q1 < b.length := (List.getElem?_eq_some_iff.1 hx).1
      simp only [hx] at h
      split at h
      ·have h02 := blank_le (b := b) (p := blank b q1 + 1) (by omega)
       cases hv : value b k d (blank b (blank b q1 + 1)) with
       | none => simp [hv] at h
       | some o =>
        cases o with
        | no x e => simp [hv] at h
        | ok v1 r =>
         have h1 := i1 _ _ _ _ hv
         simp only [hv] at h
         cases hc : comma b 125 r with
         | no x e => simp [hc] at h
         | ok t s =>
          have h2 := comma_le h1.2 hc
          cases t with
          | true => simp only [hc] at h; have := i3 _ _ _ _ _ _ h2.2 h; omega
          | false => simp [hc] at h; omega
      ·cases h
theorem value_le {b : List Int} {k d p q : Nat} {v : Val} (h : value b k d p = some (.ok v q)) : p < q ∧ q ≤ b.length := (all_le b k).1 _ _ _ _ h
theorem encode_bytes {r : Int} {l : List Int} (h : encode r = some l) : (∀ x ∈ l, 0 ≤ x ∧ x ≤ 255) ∧ l.length ≤ 4 := by
 unfold encode at h
 repeat' split at h
 all_goals first
  | (cases h; done)
  | (simp at h; subst h; simp; omega)
theorem unit_enc {b : List Int} {p q : Nat} {l : List Int} (h : unit b p = .ok l q) : (∃ n, encode n = some l) ∧ p + 4 ≤ q := by
 unfold unit at h
 cases he : hex b p with
 | no x e => simp [he] at h
 | ok n r =>
  have h1 := hex_le he
  simp only [he] at h
  split at h
  ·split at h
   ·cases hx : b[r + 1]? with
    | none => simp [hx] at h
    | some c =>
     simp only [hx] at h
     split at h
     ·cases he2 : hex b (r + 2) with
      | no x e => simp [he2] at h
      | ok low s =>
       have h2 := hex_le he2
       simp only [he2] at h
       split at h
       ·cases h
       ·split at h
        ·rename_i l2 hl2
         simp at h
         exact ⟨⟨_, h.1 ▸ hl2⟩, by omega⟩
        ·cases h
     ·cases h
   ·cases h
  ·split at h
   ·rename_i l2 hl2
    simp at h
    exact ⟨⟨_, h.1 ▸ hl2⟩, by omega⟩
   ·cases h
theorem escape_bytes {b : List Int} {p q : Nat} {l : List Int} (hb : ∀ x ∈ b, 0 ≤ x ∧ x ≤ 255) (h : escape b p = .ok l q) : (∀ x ∈ l, 0 ≤ x ∧ x ≤ 255) ∧ l.length + p ≤ q := by
 unfold escape at h
 cases hx : b[p]? with
 | none => simp [hx] at h
 | some c =>
  have hc := hb c (List.mem_of_getElem? hx)
  simp only [hx] at h
  repeat' split at h
  all_goals first
   | (obtain ⟨⟨n, hn⟩, h2⟩ := unit_enc h; have h3 := encode_bytes hn; exact ⟨h3.1, by omega⟩)
   | (simp at h; obtain ⟨h1, h2⟩ := h; subst h1; subst h2; simp; try omega)
   | cases h
theorem textTo_bytes {b : List Int} {k p q : Nat} {out l : List Int} (hb : ∀ x ∈ b, 0 ≤ x ∧ x ≤ 255) (ho : ∀ x ∈ out, 0 ≤ x ∧ x ≤ 255) (h : textTo b k out p = some (.ok l q)) : (∀ x ∈ l, 0 ≤ x ∧ x ≤ 255) ∧ l.length + p ≤ out.length + q := by
 induction k generalizing out p with
 | zero => simp [textTo] at h
 | succ k ih =>
  simp only [textTo] at h
  cases hx : b[p]? with
  | none => simp [hx] at h
  | some c =>
   have hc := hb c (List.mem_of_getElem? hx)
   simp only [hx] at h
   split at h
   ·simp at h
    obtain ⟨h1, h2⟩ := h
    subst h1
    exact ⟨ho, by omega⟩
   ·split at h
    ·cases he : escape b (p + 1) with
     | no x e => simp [he] at h
     | ok l2 r =>
      simp only [he] at h
      have h1 := escape_bytes hb he
      have h2 := ih (by intro x hm; rcases List.mem_append.1 hm with hm | hm; exact ho x hm; exact h1.1 x hm) h
      rw [List.length_append] at h2
      exact ⟨h2.1, by omega⟩
    ·split at h
     ·cases h
     ·have h2 := ih (by intro x hm; rcases List.mem_append.1 hm with hm | hm; exact ho x hm; simp at hm; subst hm; exact hc) h
      rw [List.length_append] at h2
      exact ⟨h2.1, by simp at h2; omega⟩
theorem text_bytes {b : List Int} {k p q : Nat} {l : List Int} (hb : ∀ x ∈ b, 0 ≤ x ∧ x ≤ 255) (h : text b k p = some (.ok l q)) : (∀ x ∈ l, 0 ≤ x ∧ x ≤ 255) ∧ l.length + p ≤ q := by
 unfold text at h
 cases hx : b[p]? with
 | none => simp [hx] at h
 | some c =>
  simp only [hx] at h
  split at h
  ·have := textTo_bytes hb (by simp) h
   exact ⟨this.1, by have := this.2; simp at this; omega⟩
  ·cases h
theorem textTo_mono {b : List Int} {k p : Nat} {out : List Int} {o : Out (List Int)} (h : textTo b k out p = some o) : textTo b (k + 1) out p = some o := by
 induction k generalizing out p with
 | zero => simp [textTo] at h
 | succ k ih =>
  rw [textTo] at h
  rw [textTo]
  cases hx : b[p]? with
  | none => simpa [hx] using h
  | some c =>
   simp only [hx] at h ⊢
   split at h
   ·rename_i hc; rw [if_pos hc]; exact h
   ·rename_i hc
    rw [if_neg hc]
    split at h
    ·rename_i hc2
     rw [if_pos hc2]
     cases he : escape b (p + 1) with
     | no x e => simpa [he] using h
     | ok l q => simp only [he] at h ⊢; exact ih h
    ·rename_i hc2
     rw [if_neg hc2]
     split at h
     ·rename_i hc3; rw [if_pos hc3]; exact h
     ·rename_i hc3; rw [if_neg hc3]; exact ih h
theorem text_mono {b : List Int} {k p : Nat} {o : Out (List Int)} (h : text b k p = some o) : text b (k + 1) p = some o := by
 unfold text at h ⊢
 cases hx : b[p]? with
 | none => simpa [hx] using h
 | some c =>
  simp only [hx] at h ⊢
  split at h
  ·rename_i hc; rw [if_pos hc]; exact textTo_mono h
  ·rename_i hc; rw [if_neg hc]; exact h
theorem all_mono (b : List Int) (k : Nat) : (∀ d p o, value b k d p = some o → value b (k + 1) d p = some o) ∧ (∀ d l p o, items b k d l p = some o → items b (k + 1) d l p = some o) ∧
  (∀ d ks l p o, pairs b k d ks l p = some o → pairs b (k + 1) d ks l p = some o) := by
 induction k with
 | zero => refine ⟨fun d p o h => ?_, fun d l p o h => ?_, fun d ks l p o h => ?_⟩ <;> simp [value, items, pairs] at h
 | succ k ih =>
  obtain ⟨i1, i2, i3⟩ := ih
  refine ⟨fun d p o h => ?_, fun d l p o h => ?_, fun d ks l p o h => ?_⟩
  ·rw [value_succ] at h
   rw [value_succ]
   cases hx : b[p]? with
   | none => simpa [hx] using h
   | some c =>
    simp only [hx] at h ⊢
    split at h
    ·rename_i hc
     rw [if_pos hc]
     unfold obj at h ⊢
     cases he : enter b d p with
     | no x e => simpa [he] using h
     | ok u q =>
      simp only [he] at h ⊢
      cases hy : b[q]? with
      | none => simpa [hy] using h
      | some c2 =>
       simp only [hy] at h ⊢
       split at h
       ·rename_i hc2; rw [if_pos hc2]; exact h
       ·rename_i hc2; rw [if_neg hc2]; exact i3 _ _ _ _ _ h
    rename_i hc
    rw [if_neg hc]
    split at h
    ·rename_i hc
     rw [if_pos hc]
     unfold arr at h ⊢
     cases he : enter b d p with
     | no x e => simpa [he] using h
     | ok u q =>
      simp only [he] at h ⊢
      cases hy : b[q]? with
      | none => simpa [hy] using h
      | some c2 =>
       simp only [hy] at h ⊢
       split at h
       ·rename_i hc2; rw [if_pos hc2]; exact h
       ·rename_i hc2; rw [if_neg hc2]; exact i2 _ _ _ _ h
    rename_i hc
    rw [if_neg hc]
    split at h
    ·rename_i hc
     rw [if_pos hc]
     cases ht : text b k p with
     | none => simp [ht] at h
     | some ot => rw [text_mono ht]; rw [ht] at h; exact h
    ·rename_i hc
     rw [if_neg hc]
     exact h
  ·rw [items] at h
   rw [items]
   cases hv : value b k d p with
   | none => simp [hv] at h
   | some ov =>
    rw [i1 _ _ _ hv]
    rw [hv] at h
    cases ov with
    | no x e => exact h
    | ok v q =>
     simp only at h ⊢
     cases hc : comma b 93 q with
     | no x e => simpa [hc] using h
     | ok t s =>
      cases t with
      | true => simp only [hc] at h ⊢; exact i2 _ _ _ _ h
      | false => simpa [hc] using h
  ·rw [pairs] at h
   rw [pairs]
   cases ht : text b k p with
   | none => simp [ht] at h
   | some ot =>
    rw [text_mono ht]
    rw [ht] at h
    cases ot with
    | no x e => exact h
    | ok key q1 =>
     simp only at h ⊢
     split at h
     ·rename_i hc; rw [if_pos hc]; exact h
     ·rename_i hc
      rw [if_neg hc]
      cases hx : b[blank b q1]? with
      | none => simpa [hx] using h
      | some c =>
       simp only [hx] at h ⊢
       split at h
       ·rename_i hc2
        rw [if_pos hc2]
        cases hv : value b k d (blank b (blank b q1 + 1)) with
        | none => simp [hv] at h
        | some ov =>
         rw [i1 _ _ _ hv]
         rw [hv] at h
         cases ov with
         | no x e => exact h
         | ok v q =>
          simp only at h ⊢
          cases hc : comma b 125 q with
          | no x e => simpa [hc] using h
          | ok t s =>
           cases t with
           | true => simp only [hc] at h ⊢; exact i3 _ _ _ _ _ h
           | false => simpa [hc] using h
       ·rename_i hc2; rw [if_neg hc2]; exact h
theorem value_mono {b : List Int} {k d p : Nat} {o : Out Val} (h : value b k d p = some o) : value b (k + 1) d p = some o := (all_mono b k).1 _ _ _ h
end Go.Proofs.Yteighppcdpaekaa.Js
end
section
namespace Go.Proofs.Yteighppcdpaekaa.Js
theorem at_lt {b : List Int} {p : Nat} {c : Int} (h : b[p]? = some c) : p < b.length := (List.getElem?_eq_some_iff.1 h).1
theorem at_none {b : List Int} {p : Nat} (h : b.length ≤ p) : b[p]? = none := by simpa using h
theorem at_cons {b : List Int} {p : Nat} {c : Int} {s : List Int} (h : b.drop p = c :: s) : b[p]? = some c ∧ b.drop (p + 1) = s := by
 refine ⟨?_, ?_⟩
 ·have := congrArg (fun l => l[0]?) h
  simpa using this
 ·rw [← List.drop_drop, h]
  rfl
theorem textTo_total (b : List Int) : ∀ (n p : Nat) (out : List Int), b.length - p ≤ n → ∃ o, textTo b (n + 1) out p = some o := by
 intro n
 induction n with
 | zero =>
  intro p out h
  exact ⟨_, by rw [textTo, at_none (by omega)]⟩
 | succ n ih =>
  intro p out h
  cases hx : b[p]? with
  | none => exact ⟨_, by rw [textTo, hx]⟩
  | some c =>
   have hl := at_lt hx
   rw [textTo]
   simp only [hx]
   split
   ·exact ⟨_, rfl⟩
   ·split
    ·cases he : escape b (p + 1) with
     | no x e => exact ⟨_, rfl⟩
     | ok l q => have := escape_le he; exact ih q _ (by omega)
    ·split
     ·exact ⟨_, rfl⟩
     ·exact ih _ _ (by omega)
theorem textTo_more {b : List Int} {k p : Nat} {out : List Int} {o : Out (List Int)} (h : textTo b k out p = some o) {m : Nat} (hm : k ≤ m) : textTo b m out p = some o := by
 obtain ⟨j, rfl⟩ : ∃ j, m = k + j := ⟨m - k, by omega⟩
 clear hm
 induction j with
 | zero => exact h
 | succ j ih => exact textTo_mono ih
theorem value_more {b : List Int} {k d p : Nat} {o : Out Val} (h : value b k d p = some o) {m : Nat} (hm : k ≤ m) : value b m d p = some o := by
 obtain ⟨j, rfl⟩ : ∃ j, m = k + j := ⟨m - k, by omega⟩
 clear hm
 induction j with
 | zero => exact h
 | succ j ih => exact value_mono ih
theorem items_more {b : List Int} {k d p : Nat} {l : List Val} {o : Out Val} (h : items b k d l p = some o) {m : Nat} (hm : k ≤ m) : items b m d l p = some o := by
 obtain ⟨j, rfl⟩ : ∃ j, m = k + j := ⟨m - k, by omega⟩
 clear hm
 induction j with
 | zero => exact h
 | succ j ih => exact (all_mono b _).2.1 _ _ _ _ ih
theorem pairs_more {b : List Int} {k d p : Nat} {ks : List (List Int)} {l : List Val} {o : Out Val} (h : pairs b k d ks l p = some o) {m : Nat} (hm : k ≤ m) : pairs b m d ks l p = some o := by
 obtain ⟨j, rfl⟩ : ∃ j, m = k + j := ⟨m - k, by omega⟩
 clear hm
 induction j with
 | zero => exact h
 | succ j ih => exact (all_mono b _).2.2 _ _ _ _ _ ih
theorem text_total (b : List Int) (p k : Nat) (h : b.length - p < k) : ∃ o, text b k p = some o := by
 unfold text
 cases hx : b[p]? with
 | none => exact ⟨_, rfl⟩
 | some c =>
  simp only
  split
  ·obtain ⟨o, ho⟩ := textTo_total b (b.length - (p + 1)) (p + 1) [] (Nat.le_refl _)
   exact ⟨o, textTo_more ho (by omega)⟩
  ·exact ⟨_, rfl⟩
theorem all_total (b : List Int) : ∀ n, (∀ d p, b.length - p ≤ n → ∃ o, value b (2 * n + 3) d p = some o) ∧ (∀ d l p, b.length - p ≤ n → ∃ o, items b (2 * n + 4) d l p = some o) ∧ (∀ d ks l p, b.length - p ≤ n → ∃ o, pairs b (2 * n + 4) d ks l p = some o) := by
 intro n
 induction n with
 | zero =>
  have hv : ∀ d p, b.length - p ≤ 0 → value b 3 d p = some (.no p 11) := fun d p h => by rw [value_succ, at_none (by omega)]
  refine ⟨fun d p h => ⟨_, hv d p h⟩, fun d l p h => ⟨_, by rw [items, hv d p h]⟩, fun d ks l p h => ?_⟩
  have ht : text b 3 p = some (.no p 11) := by unfold text; rw [at_none (by omega)]
  exact ⟨_, by rw [pairs, ht]⟩
 | succ n ih =>
  obtain ⟨_, i2, i3⟩ := ih
  have hv : ∀ d p, b.length - p ≤ n + 1 → ∃ o, value b (2 * (n + 1) + 3) d p = some o := by
   intro d p h
   rw [show 2 * (n + 1) + 3 = (2 * n + 4) + 1 by omega, value_succ]
   cases hx : b[p]? with
   | none => exact ⟨_, rfl⟩
   | some c =>
    have hl := at_lt hx
    have hbl := blank_le (b := b) (p := p + 1) (by omega)
    simp only
    split
    ·unfold obj enter
     by_cases hd : d + 1 > 64
     ·rw [if_pos hd]; exact ⟨_, rfl⟩
     ·rw [if_neg hd]
      simp only
      cases hy : b[blank b (p + 1)]? with
      | none => exact ⟨_, rfl⟩
      | some c2 =>
       simp only
       split
       ·exact ⟨_, rfl⟩
       ·exact i3 _ _ _ _ (by omega)
    split
    ·unfold arr enter
     by_cases hd : d + 1 > 64
     ·rw [if_pos hd]; exact ⟨_, rfl⟩
     ·rw [if_neg hd]
      simp only
      cases hy : b[blank b (p + 1)]? with
      | none => exact ⟨_, rfl⟩
      | some c2 =>
       simp only
       split
       ·exact ⟨_, rfl⟩
       ·exact i2 _ _ _ (by omega)
    split
    ·obtain ⟨o, ho⟩ := text_total b p (2 * n + 4) (by omega)
     rw [ho]
     exact ⟨_, rfl⟩
    split
    ·exact ⟨_, rfl⟩
    split
    ·exact ⟨_, rfl⟩
    split
    ·exact ⟨_, rfl⟩
    ·exact ⟨_, rfl⟩
  refine ⟨hv, fun d l p h => ?_, fun d ks l p h => ?_⟩
  ·obtain ⟨o, ho⟩ := hv d p h
   rw [show 2 * (n + 1) + 4 = (2 * (n + 1) + 3) + 1 by omega, items, ho]
   cases o with
   | no x e => exact ⟨_, rfl⟩
   | ok v q =>
    have h1 := value_le ho
    simp only
    cases hc : comma b 93 q with
    | no x e => exact ⟨_, rfl⟩
    | ok t s =>
     have h2 := comma_le h1.2 hc
     cases t with
     | false => exact ⟨_, rfl⟩
     | true =>
      obtain ⟨o2, ho2⟩ := i2 d (l ++ [v]) s (by omega)
      exact ⟨o2, items_more ho2 (by omega)⟩
  ·obtain ⟨ot, hot⟩ := text_total b p (2 * (n + 1) + 3) (by omega)
   rw [show 2 * (n + 1) + 4 = (2 * (n + 1) + 3) + 1 by omega, pairs, hot]
   cases ot with
   | no x e => exact ⟨_, rfl⟩
   | ok key q =>
    have h0 := text_le hot
    have h01 := blank_le (b := b) (p := q) h0.2
    simp only
    split
    ·exact ⟨_, rfl⟩
    cases hx : b[blank b q]? with
    | none => exact ⟨_, rfl⟩
    | some c =>
     have hl := at_lt hx
     have h02 := blank_le (b := b) (p := blank b q + 1) (by omega)
     simp only
     split
     ·obtain ⟨o, ho⟩ := hv d (blank b (blank b q + 1)) (by omega)
      rw [ho]
      cases o with
      | no x e => exact ⟨_, rfl⟩
      | ok v r =>
       have h1 := value_le ho
       simp only
       cases hc : comma b 125 r with
       | no x e => exact ⟨_, rfl⟩
       | ok t s =>
        have h2 := comma_le h1.2 hc
        cases t with
        | false => exact ⟨_, rfl⟩
        | true =>
         obtain ⟨o2, ho2⟩ := i3 d (ks ++ [key]) (l ++ [v]) s (by omega)
         exact ⟨o2, pairs_more ho2 (by omega)⟩
     ·exact ⟨_, rfl⟩
theorem value_total (b : List Int) (d p : Nat) : ∃ k o, value b k d p = some o := by
 obtain ⟨o, ho⟩ := (all_total b (b.length - p)).1 d p (Nat.le_refl _)
 exact ⟨_, o, ho⟩
def Term (post : List Int) : Prop := ∀ c, post[0]? = some c → isDigit c = false ∧ c ≠ 46 ∧ c ≠ 101 ∧ c ≠ 69
theorem Term.nil : Term [] := fun c h => by simp at h
theorem digitLen_ext {l post : List Int} (h : Term post) : digitLen (l ++ post) = digitLen l := by
 induction l with
 | nil =>
  cases post with
  | nil => rfl
  | cons c r => simp [digitLen, (h c rfl).1]
 | cons c r ih => simp [digitLen, ih]
theorem digitLen_cut {l post : List Int} (h : digitLen (l ++ post) ≤ l.length) : digitLen l = digitLen (l ++ post) := by
 induction l with
 | nil => simp [digitLen] at h ⊢; omega
 | cons c r ih =>
  simp only [List.cons_append, digitLen] at h ⊢
  split
  ·rename_i hc
   rw [if_pos hc] at h
   rw [ih (by simp at h; exact h)]
  ·rfl
section
variable {b t post : List Int} {p : Nat} (hb : b.drop p = t ++ post)
include hb
theorem sub_at {i : Nat} (hi : i < t.length) : b[p + i]? = t[i]? := by
 have h := congrArg (fun l => l[i]?) hb
 simpa [List.getElem?_append_left hi] using h
theorem sub_end : b[p + t.length]? = post[0]? := by
 have h : (b.drop p)[t.length]? = (t ++ post)[t.length]? := by rw [hb]
 rw [List.getElem?_drop, List.getElem?_append_right (Nat.le_refl _), Nat.sub_self] at h
 exact h
theorem sub_drop {i : Nat} (hi : i ≤ t.length) : b.drop (p + i) = t.drop i ++ post := by
 rw [← List.drop_drop, hb, List.drop_append_of_le_length hi]
theorem digits_ext (ht : Term post) {i j : Nat} (h : digits t i = .ok () j) : digits b (p + i) = .ok () (p + j) := by
 have hl := digits_le h
 unfold digits at h ⊢
 rw [sub_at hb (by omega)]
 cases hx : t[i]? with
 | none => simp [hx] at h
 | some c =>
  simp only [hx] at h ⊢
  split at h
  ·rename_i hd
   rw [if_pos hd, sub_drop hb (by omega), digitLen_ext ht]
   simp at h ⊢
   omega
  ·cases h
theorem digits_cut {i j : Nat} (hj : j ≤ t.length) (h : digits b (p + i) = .ok () (p + j)) : digits t i = .ok () j := by
 have hl := digits_le h
 unfold digits at h ⊢
 rw [sub_at hb (by omega)] at h
 cases hx : t[i]? with
 | none => simp [hx] at h
 | some c =>
  simp only [hx] at h ⊢
  split at h
  ·rename_i hd
   rw [sub_drop hb (by omega)] at h
   simp only [Out.ok.injEq, true_and] at h
   have hle : digitLen (t.drop i ++ post) ≤ (t.drop i).length := by simp; omega
   rw [if_pos hd, digitLen_cut hle]
   simp
   omega
  ·cases h
theorem next_sub {i : Nat} (hi : i < t.length) (c : Int) : next b (p + i) c = next t i c := by
 unfold next
 rw [sub_at hb hi]
theorem next_end (ht : Term post) {c : Int} (hc : c = 46 ∨ c = 101 ∨ c = 69) : next b (p + t.length) c = false := by
 unfold next
 rw [sub_end hb]
 cases hx : post[0]? with
 | none => rfl
 | some d =>
  have := ht d hx
  simp
  intro e
  subst e
  omega
omit hb in
theorem next_out {i : Nat} (hi : t.length ≤ i) (c : Int) : next t i c = false := by
 unfold next
 rw [at_none hi]
 rfl
theorem numSign_ext (ht : Term post) {i j : Nat} (h : numSign t i = .ok () j) : numSign b (p + i) = .ok () (p + j) := by
 have hl := numSign_le h
 unfold numSign at h ⊢
 rw [next_sub hb (by omega), next_sub hb (by omega)]
 split at h
 ·rename_i hc; rw [if_pos hc, Nat.add_assoc]; exact digits_ext hb ht h
 ·rename_i hc; rw [if_neg hc]; exact digits_ext hb ht h
theorem numSign_cut {i j : Nat} (hj : j ≤ t.length) (h : numSign b (p + i) = .ok () (p + j)) : numSign t i = .ok () j := by
 have hl := numSign_le h
 unfold numSign at h ⊢
 rw [next_sub hb (by omega), next_sub hb (by omega)] at h
 split at h
 ·rename_i hc; rw [if_pos hc]; rw [Nat.add_assoc] at h; exact digits_cut hb hj h
 ·rename_i hc; rw [if_neg hc]; exact digits_cut hb hj h
theorem numExp_ext (ht : Term post) {i j : Nat} (hi : i ≤ t.length) (h : numExp t i = .ok () j) : numExp b (p + i) = .ok () (p + j) := by
 unfold numExp at h ⊢
 by_cases he : i < t.length
 ·rw [next_sub hb he, next_sub hb he]
  split at h
  ·rename_i hc; rw [if_pos hc, Nat.add_assoc]; exact numSign_ext hb ht h
  ·rename_i hc; rw [if_neg hc]; simp at h ⊢; omega
 ·obtain rfl : i = t.length := by omega
  rw [next_end hb ht (by omega), next_end hb ht (by omega)]
  rw [next_out (Nat.le_refl _), next_out (Nat.le_refl _)] at h
  simp at h ⊢
  exact h
theorem numExp_cut {i j : Nat} (hi : i ≤ j) (hj : j ≤ t.length) (h : numExp b (p + i) = .ok () (p + j)) : numExp t i = .ok () j := by
 unfold numExp at h ⊢
 by_cases he : i < t.length
 ·rw [next_sub hb he, next_sub hb he] at h
  split at h
  ·rename_i hc; rw [if_pos hc]; rw [Nat.add_assoc] at h; exact numSign_cut hb hj h
  ·rename_i hc; rw [if_neg hc]; simp at h ⊢; omega
 ·rw [next_out (by omega), next_out (by omega)]
  simp
  omega
theorem numFrac_ext (ht : Term post) {i j : Nat} (hi : i ≤ t.length) (h : numFrac t i = .ok () j) : numFrac b (p + i) = .ok () (p + j) := by
 unfold numFrac at h ⊢
 by_cases he : i < t.length
 ·rw [next_sub hb he]
  split at h
  ·rename_i hc
   rw [if_pos hc]
   cases hd : digits t (i + 1) with
   | no x e => simp [hd] at h
   | ok u r =>
    rw [Nat.add_assoc, digits_ext hb ht hd]
    simp only [hd] at h
    exact numExp_ext hb ht (digits_le hd).2 h
  ·rename_i hc; rw [if_neg hc]; exact numExp_ext hb ht hi h
 ·obtain rfl : i = t.length := by omega
  rw [next_end hb ht (by omega)]
  rw [next_out (Nat.le_refl _)] at h
  simp only [Bool.false_eq_true, if_false] at h ⊢
  exact numExp_ext hb ht hi h
theorem numFrac_cut {i j : Nat} (hpi : p + i ≤ b.length) (hj : j ≤ t.length) (h : numFrac b (p + i) = .ok () (p + j)) : numFrac t i = .ok () j := by
 have hle := numFrac_le hpi h
 unfold numFrac at h ⊢
 by_cases he : i < t.length
 ·rw [next_sub hb he] at h
  split at h
  ·rename_i hc
   rw [if_pos hc]
   cases hd : digits b (p + i + 1) with
   | no x e => simp [hd] at h
   | ok u r =>
    simp only [hd] at h
    have h1 := digits_le hd
    have h2 := numExp_le h1.2 h
    obtain ⟨r', rfl⟩ : ∃ r', r = p + r' := ⟨r - p, by omega⟩
    rw [Nat.add_assoc] at hd
    rw [digits_cut hb (by omega) hd]
    exact numExp_cut hb (by omega) hj h
  ·rename_i hc; rw [if_neg hc]; exact numExp_cut hb (by omega) hj h
 ·rw [next_out (by omega)]
  simp only [Bool.false_eq_true, if_false]
  obtain rfl : i = j := by omega
  unfold numExp
  rw [next_out (by omega), next_out (by omega)]
  simp
theorem numInt_ext (ht : Term post) {i j : Nat} (h : numInt t i = .ok () j) : numInt b (p + i) = .ok () (p + j) := by
 unfold numInt at h ⊢
 cases hx : t[i]? with
 | none => simp [hx] at h
 | some c =>
  have hl := at_lt hx
  rw [sub_at hb hl, hx]
  simp only [hx] at h ⊢
  split at h
  ·rename_i hc; rw [if_pos hc, Nat.add_assoc]; exact numFrac_ext hb ht (by omega) h
  ·rename_i hc
   rw [if_neg hc]
   cases hd : digits t i with
   | no x e => simp [hd] at h
   | ok u r =>
    rw [digits_ext hb ht hd]
    simp only [hd] at h
    exact numFrac_ext hb ht (digits_le hd).2 h
theorem numInt_cut {i j : Nat} (hij : i < j) (hj : j ≤ t.length) (h : numInt b (p + i) = .ok () (p + j)) : numInt t i = .ok () j := by
 unfold numInt at h ⊢
 rw [sub_at hb (by omega)] at h
 cases hx : t[i]? with
 | none => simp [hx] at h
 | some c =>
  have hpl : p + i < b.length := by
   have := sub_at hb (i := i) (by omega)
   rw [hx] at this
   exact at_lt this
  simp only [hx] at h ⊢
  split at h
  ·rename_i hc; rw [if_pos hc]; rw [Nat.add_assoc] at h; exact numFrac_cut hb (by omega) hj h
  ·rename_i hc
   rw [if_neg hc]
   cases hd : digits b (p + i) with
   | no x e => simp [hd] at h
   | ok u r =>
    simp only [hd] at h
    have h1 := digits_le hd
    have h2 := numFrac_le h1.2 h
    obtain ⟨r', rfl⟩ : ∃ r', r = p + r' := ⟨r - p, by omega⟩
    rw [digits_cut hb (by omega) hd]
    exact numFrac_cut hb h1.2 hj h
theorem number_ext (ht : Term post) (h : number t 0 = .ok () t.length) : number b p = .ok () (p + t.length) := by
 have hl := number_lt h
 unfold number at h ⊢
 have := next_sub hb (i := 0) (by omega) 45
 rw [Nat.add_zero] at this
 rw [this]
 split at h
 ·rename_i hc; rw [if_pos hc]; exact numInt_ext hb ht h
 ·rename_i hc; rw [if_neg hc]; exact numInt_ext hb ht (i := 0) h
theorem number_cut (h : number b p = .ok () (p + t.length)) : number t 0 = .ok () t.length := by
 have hl := number_lt h
 unfold number at h ⊢
 have := next_sub hb (i := 0) (by omega) 45
 rw [Nat.add_zero] at this
 rw [this] at h
 split at h
 ·rename_i hc
  rw [if_pos hc]
  have hle := numInt_le h
  by_cases h1 : 1 < t.length
  ·exact numInt_cut hb h1 (Nat.le_refl _) h
  ·exfalso
   have h2 : t.length = 1 := by omega
   rw [h2] at h
   unfold numInt at h
   cases hx : b[p + 1]? with
   | none => simp [hx] at h
   | some c =>
    have hpl := at_lt hx
    simp only [hx] at h
    split at h
    ·have := numFrac_le (by omega) h; omega
    ·cases hd : digits b (p + 1) with
     | no x e => simp [hd] at h
     | ok u r =>
      simp only [hd] at h
      have h1 := digits_le hd
      have h2 := numFrac_le h1.2 h
      omega
 ·rename_i hc; rw [if_neg hc]; exact numInt_cut hb (i := 0) (by omega) (Nat.le_refl _) h
end
def hexd (n : Int) : Int := if n < 10 then 48 + n else 87 + n
def escB (c : Int) : List Int :=
 if c = 34 ∨ c = 92 then [92, c] else if c = 8 then [92, 98] else if c = 9 then [92, 116] else if c = 10 then [92, 110] else if c = 12 then [92, 102] else if c = 13 then [92, 114]
 else if c < 32 then [92, 117, 48, 48, hexd (c / 16), hexd (c % 16)] else [c]
def Bytes (b : List Int) : Prop := ∀ x ∈ b, 0 ≤ x ∧ x ≤ 255
theorem hexDigit_hexd {n : Int} (h0 : 0 ≤ n) (h1 : n < 16) : hexDigit (hexd n) = some n := by
 unfold hexDigit hexd
 by_cases h : n < 10
 ·rw [if_pos h, if_pos (by omega)]; simp; omega
 ·rw [if_neg h, if_neg (by omega), if_pos (by omega)]; simp; omega
theorem escB_len (c : Int) : 1 ≤ (escB c).length ∧ (escB c).length ≤ 6 := by
 unfold escB
 repeat' split
 all_goals simp
theorem textTo_one {b : List Int} {k p : Nat} {out s : List Int} {c : Int} (h0 : 0 ≤ c) (h : b.drop p = escB c ++ s) : textTo b (k + 1) out p = textTo b k (out ++ [c]) (p + (escB c).length) := by
 have two : ∀ x : Int, ∀ y : Int, b.drop p = [92, x] ++ s → escape b (p + 1) = .ok [y] (p + 2) → textTo b (k + 1) out p = textTo b k (out ++ [y]) (p + 2) := by
  intro x y hb he
  obtain ⟨a0, _⟩ := at_cons (c := 92) (s := x :: s) (by simpa using hb)
  rw [textTo, a0]
  simp [he]
 have one : ∀ x : Int, b.drop p = [92, x] ++ s → b[p + 1]? = some x := fun x hb => (at_cons (at_cons (c := 92) (s := x :: s) (by simpa using hb)).2).1
 unfold escB at h ⊢
 by_cases e1 : c = 34 ∨ c = 92
 ·rw [if_pos e1] at h ⊢
  refine two _ _ h ?_
  unfold escape
  rw [one _ h]
  simp only
  rw [if_pos (by rcases e1 with e | e <;> subst e <;> rfl)]
 rw [if_neg e1] at h ⊢
 by_cases e2 : c = 8
 ·rw [if_pos e2] at h ⊢
  subst e2
  refine two _ _ h ?_
  unfold escape
  rw [one _ h]
  rfl
 rw [if_neg e2] at h ⊢
 by_cases e3 : c = 9
 ·rw [if_pos e3] at h ⊢
  subst e3
  refine two _ _ h ?_
  unfold escape
  rw [one _ h]
  rfl
 rw [if_neg e3] at h ⊢
 by_cases e4 : c = 10
 ·rw [if_pos e4] at h ⊢
  subst e4
  refine two _ _ h ?_
  unfold escape
  rw [one _ h]
  rfl
 rw [if_neg e4] at h ⊢
 by_cases e5 : c = 12
 ·rw [if_pos e5] at h ⊢
  subst e5
  refine two _ _ h ?_
  unfold escape
  rw [one _ h]
  rfl
 rw [if_neg e5] at h ⊢
 by_cases e6 : c = 13
 ·rw [if_pos e6] at h ⊢
  subst e6
  refine two _ _ h ?_
  unfold escape
  rw [one _ h]
  rfl
 rw [if_neg e6] at h ⊢
 by_cases e7 : c < 32
 ·rw [if_pos e7] at h ⊢
  obtain ⟨a0, h1⟩ := at_cons (c := 92) (s := 117 :: 48 :: 48 :: hexd (c / 16) :: hexd (c % 16) :: s) (by simpa using h)
  obtain ⟨a1, h2⟩ := at_cons h1
  obtain ⟨a2, h3⟩ := at_cons h2
  obtain ⟨a3, h4⟩ := at_cons h3
  obtain ⟨a4, h5⟩ := at_cons h4
  obtain ⟨a5, _⟩ := at_cons h5
  have d1 := hexDigit_hexd (n := c / 16) (by omega) (by omega)
  have d2 := hexDigit_hexd (n := c % 16) (by omega) (by omega)
  have hx : hex b (p + 2) = .ok c (p + 6) := by
   unfold hex
   simp only [hexTo, a2, a3, a4, a5, d1, d2, show hexDigit 48 = some 0 from rfl]
   simp
   omega
  have he : escape b (p + 1) = .ok [c] (p + 6) := by
   unfold escape
   rw [a1]
   simp only
   rw [if_neg (by decide), if_neg (by decide), if_neg (by decide), if_neg (by decide), if_neg (by decide), if_neg (by decide), if_pos (by decide)]
   unfold unit
   rw [hx]
   simp only
   rw [if_neg (by omega)]
   unfold encode
   rw [if_neg (by omega), if_pos (by omega)]
  rw [textTo, a0]
  simp [he]
 ·rw [if_neg e7] at h ⊢
  obtain ⟨a0, _⟩ := at_cons (c := c) (s := s) (by simpa using h)
  rw [textTo, a0]
  simp only
  rw [if_neg (by simp; omega), if_neg (by simp; omega), if_neg e7]
  rfl
theorem textTo_back {l : List Int} (hl : ∀ x ∈ l, 0 ≤ x) : ∀ {b : List Int} {k p : Nat} {out post : List Int}, b.drop p = l.flatMap escB ++ 34 :: post → l.length < k → textTo b k out p = some (.ok (out ++ l) (p + (l.flatMap escB).length + 1)) := by
 induction l with
 | nil =>
  intro b k p out post h hk
  obtain ⟨k, rfl⟩ : ∃ m, k = m + 1 := ⟨k - 1, by simp at hk; omega⟩
  obtain ⟨a0, _⟩ := at_cons (c := 34) (s := post) (by simpa using h)
  rw [textTo, a0]
  simp
 | cons c l ih =>
  intro b k p out post h hk
  obtain ⟨k, rfl⟩ : ∃ m, k = m + 1 := ⟨k - 1, by simp at hk; omega⟩
  have h' : b.drop p = escB c ++ (l.flatMap escB ++ 34 :: post) := by rw [h]; simp
  rw [textTo_one (hl c (List.mem_cons_self ..)) h', ih (fun x hx => hl x (List.mem_cons_of_mem _ hx)) (post := post) (by rw [← List.drop_drop, h']; simp) (by simp at hk; omega)]
  simp [Nat.add_assoc]
theorem text_back {l : List Int} (hl : ∀ x ∈ l, 0 ≤ x) {b : List Int} {k p : Nat} {post : List Int} (h : b.drop p = 34 :: l.flatMap escB ++ 34 :: post) (hk : l.length < k) : text b k p = some (.ok l (p + (l.flatMap escB).length + 2)) := by
 obtain ⟨a0, h1⟩ := at_cons (c := 34) (s := l.flatMap escB ++ 34 :: post) (by simpa using h)
 unfold text
 rw [a0]
 simp only
 rw [if_pos (by decide), textTo_back hl h1 hk]
 simp
 omega
theorem blank_none {b : List Int} {p : Nat} {c : Int} (h : b[p]? = some c) (hc : isBlank c = false) : blank b p = p := by
 unfold blank
 rw [blank_stop h hc]
 rfl
theorem blank_past {b : List Int} {p : Nat} (h : b[p]? = none) : blank b p = p := by
 unfold blank
 rw [blank_end h]
 rfl
end Go.Proofs.Yteighppcdpaekaa.Js
end
