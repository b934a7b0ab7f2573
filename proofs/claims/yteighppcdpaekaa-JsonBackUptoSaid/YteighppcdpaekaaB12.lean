/- Walks and words of this session, put together by a program of this session (pack.py). Conditions: as each text says. -/
import Derived.WalkKit
import Derived.ProofKit
import Derived.OpenShut
import Derived.JoinedCond
import Derived.ChangeOld
import Derived.Below
import Derived.Test.YteighppcdpaekaaB5
import Derived.Test.YteighppcdpaekaaB10
import Derived.Test.YteighppcdpaekaaB11
set_option linter.unusedVariables false
set_option linter.unusedSimpArgs false
section
namespace Go.Proofs.Yteighppcdpaekaa.Pr4
open Go.RowKit Go.Proofs.YteighppcdpaekaaW.PrintWords Go.Proofs.Yteighppcdpaekaa.P
open Go.Proofs.Yteighppcdpaekaa Go.Proofs.Yteighppcdpaekaa.Eq4
open Go.Proofs.Yteighppcdpaekaa.Js (Bytes escB hexd Term Out Val)
set_option linter.unusedVariables false
inductive G : S25 → Nat → Prop where
 | word {v : S25} {d : Nat} (h : v.f0 = 0 ∨ v.f0 = 1 ∨ v.f0 = 2) : G v d
 | num {v : S25} {d : Nat} (h : v.f0 = 3) (n : Js.number (bytesOf v.f1) 0 = .ok () (bytesOf v.f1).length) : G v d
 | str {v : S25} {d : Nat} (h : v.f0 = 4) (n : Js.V (bytesOf v.f1)) : G v d
 | arr {v : S25} {d : Nat} (h : v.f0 = 5) (hd : d < 64) (hl : ∀ x ∈ v.f3, G x (d + 1)) : G v d
 | obj {v : S25} {d : Nat} (h : v.f0 = 6) (hd : d < 64) (hn : v.f2.length = v.f3.length) (hk : ∀ x ∈ v.f2, Js.V (bytesOf x)) (hnd : v.f2.Nodup) (hl : ∀ x ∈ v.f3, G x (d + 1)) : G v d
def GP (v : S25) (D : Nat) : Prop := (v.f0 = 5 ∨ (v.f0 = 6 ∧ v.f2.length = v.f3.length ∧ (∀ x ∈ v.f2, Js.V (bytesOf x)) ∧ v.f2.Nodup)) ∧ ∀ x ∈ v.f3, G x D
theorem good_e (k : Nat) : (∀ x v (d : Nat) r e, G v d → Wr.wr k x v (d : Int) = some (r, e) → e = 0) ∧ (∀ x v (D : Nat) r e, GP v D → Wr.pt k x v (D : Int) = some (r, e) → e = 0) ∧
  (∀ x v (D : Nat) i seen r e, GP v D → (v.f0 = 6 → seen = v.f2.take i) → Wr.pl k x v (D : Int) i seen = some (r, e) → e = 0) := by
 have rm : ∀ {y z r : List Int} {e : Int}, (Wr.room y z).map (fun y => (y, (0 : Int))) = some (r, e) → e = 0 := by
  intro y z r e h
  cases hr : Wr.room y z with
  | none => rw [hr] at h; cases h
  | some w => rw [hr] at h; simp at h; exact h.2.symm
 induction k with
 | zero => refine ⟨fun x v d r e _ h => ?_, fun x v D r e _ h => ?_, fun x v D i s r e _ _ h => ?_⟩ <;> simp [Wr.wr, Wr.pt, Wr.pl] at h
 | succ k ih =>
  obtain ⟨i1, i2, i3⟩ := ih
  refine ⟨fun x v d r e g h => ?_, fun x v D r e g h => ?_, fun x v D i seen r e g hs h => ?_⟩
  ·rw [Wr.wr] at h
   cases g with
   | word hw =>
    rcases hw with h0 | h0 | h0
    ·rw [if_pos h0] at h; exact rm h
    ·rw [if_neg (by omega), if_pos h0] at h; exact rm h
    ·rw [if_neg (by omega), if_neg (by omega), if_pos h0] at h; exact rm h
   | num h0 hn =>
    rw [if_neg (by omega), if_neg (by omega), if_neg (by omega), if_pos h0] at h
    cases hp : json_isNumber.f k v.f1 with
    | none => rw [hp] at h; cases h
    | some t =>
     have := (isNumber_of hp).2.2 hn
     subst this
     rw [hp] at h
     exact rm h
   | str h0 hn =>
    rw [if_neg (by omega), if_neg (by omega), if_neg (by omega), if_neg (by omega), if_pos h0] at h
    cases hp : json_plain.f k v.f1 with
    | none => rw [hp] at h; cases h
    | some t =>
     have := (plain_of hp).2.2 hn
     subst this
     rw [hp] at h
     simp only at h
     cases hq : json_quoted.f k x v.f1 with
     | none => rw [hq] at h; cases h
     | some w => rw [hq] at h; simp at h; exact h.2.symm
   | arr h0 hd hl =>
    rw [if_neg (by omega), if_neg (by omega), if_neg (by omega), if_neg (by omega), if_neg (by omega), if_pos (.inl h0), if_neg (by omega)] at h
    exact i2 x v (d + 1) r e ⟨.inl h0, hl⟩ h
   | obj h0 hd hn hk hnd hl =>
    rw [if_neg (by omega), if_neg (by omega), if_neg (by omega), if_neg (by omega), if_neg (by omega), if_pos (.inr h0), if_neg (by omega)] at h
    exact i2 x v (d + 1) r e ⟨.inr ⟨h0, hn, hk, hnd⟩, hl⟩ h
  ·rw [Wr.pt] at h
   rw [if_neg (by rintro ⟨a1, a2⟩; rcases g.1 with b | ⟨_, b, _⟩; omega; exact a2 b)] at h
   split at h
   ·cases h
   ·split at h
    ·cases h
    ·exact i3 _ v D 0 [] r e g (fun _ => by simp) h
  ·rw [Wr.pl] at h
   cases hu : v.f3[i]? with
   | none => rw [hu] at h; exact rm h
   | some u =>
    have hlt := (List.getElem?_eq_some_iff.1 hu).1
    have hmem : u ∈ v.f3 := List.mem_of_getElem? hu
    rw [hu] at h
    simp only at h
    cases hy : (if 0 < i then Wr.room x [44] else some x) with
    | none => rw [hy] at h; cases h
    | some y =>
     rw [hy] at h
     simp only at h
     have hh : ∀ o, Wr.head k y v i seen = some o → o.2.2 = 0 ∧ (v.f0 = 6 → o.2.1 = v.f2.take (i + 1)) := by
      intro o ho
      unfold Wr.head at ho
      split at ho
      ·rename_i h6
       obtain ⟨_, hn, hkv, hnd⟩ : v.f0 = 6 ∧ v.f2.length = v.f3.length ∧ (∀ x ∈ v.f2, Js.V (bytesOf x)) ∧ v.f2.Nodup := by rcases g.1 with b | b; omega; exact b
       have hkey : v.f2[i]? = some (v.f2[i]'(by omega)) := List.getElem?_eq_getElem _
       rw [hkey] at ho
       simp only at ho
       cases hp : json_plain.f k (v.f2[i]'(by omega)) with
       | none => rw [hp] at ho; cases ho
       | some t =>
        have := (plain_of hp).2.2 (hkv _ (List.getElem_mem _))
        subst this
        rw [hp] at ho
        simp only at ho
        have hns : ¬ (seen.any fun z => decide (z = v.f2[i]'(by omega))) = true := by
         intro hany
         rw [hs h6] at hany
         obtain ⟨z, hz, hzz⟩ := List.any_eq_true.1 hany
         have hzz' : z = v.f2[i]'(by omega) := by simpa using hzz
         obtain ⟨j, hj, hje⟩ := List.mem_iff_getElem.1 hz
         rw [List.length_take] at hj
         rw [List.getElem_take] at hje
         exact absurd (hje.trans hzz') (List.pairwise_iff_getElem.1 (List.nodup_iff_pairwise_ne.1 hnd) j i (by omega) (by omega) (by omega))
        rw [if_neg hns] at ho
        cases hq : json_quoted.f k y (v.f2[i]'(by omega)) with
        | none => rw [hq] at ho; cases ho
        | some z =>
         rw [hq] at ho
         simp only at ho
         cases hr : Wr.room z [58] with
         | none => rw [hr] at ho; cases ho
         | some z2 =>
          rw [hr] at ho
          simp at ho
          subst ho
          exact ⟨rfl, fun _ => by rw [hs h6, List.take_succ_eq_append_getElem (by omega)]⟩
      ·rename_i h6
       simp at ho
       subst ho
       exact ⟨rfl, fun h => absurd h h6⟩
     cases hd : Wr.head k y v i seen with
     | none => rw [hd] at h; cases h
     | some o =>
      obtain ⟨z, s2, e1⟩ := o
      obtain ⟨h0, h6⟩ := hh _ hd
      simp only at h0 h6
      rw [hd] at h
      simp only at h
      rw [if_pos h0] at h
      cases hw : Wr.wr k z u (D : Int) with
      | none => rw [hw] at h; cases h
      | some o2 =>
       obtain ⟨z2, e2⟩ := o2
       have he2 := i1 _ _ _ _ _ (g.2 u hmem) hw
       rw [hw] at h
       simp only at h
       rw [if_pos he2] at h
       exact i3 _ v D (i + 1) s2 r e g h6 h
structure Pd (b : List Int) (v : Val) (d p q : Nat) : Prop where
 good : G (Rd.toS v) d
 light : b.length ≤ 3000 → Light (Rd.toS v)
 size : szS (Rd.toS v) + p ≤ q
theorem toSs_snoc (l : List Val) (v : Val) : Rd.toSs (l ++ [v]) = Rd.toSs l ++ [Rd.toS v] := by simp [Rd.toSs_map]
theorem szL_app (l r : List S25) : szL (l ++ r) = szL l + szL r := by
 induction l with
 | nil => simp [szL]
 | cons a l ih => simp only [List.cons_append, szL, ih]; omega
theorem mem_toSs {x : S25} {l : List Val} (h : x ∈ Rd.toSs l) : ∃ u ∈ l, Rd.toS u = x := by
 rw [Rd.toSs_map] at h
 obtain ⟨u, hu, he⟩ := List.mem_map.1 h
 exact ⟨u, hu, he⟩
theorem light_flat {k : Int} {t : List Int} {b : List Int} (ht : t.length ≤ b.length) (hb : b.length ≤ 3000) : Light (Rd.toS (.mk k t [] [])) := by
 refine Light.mk ?_ ?_ ?_ ?_ ?_
 ·simp [Rd.toS, Rd.toSs]
 ·simp [Rd.toS]
 ·simp only [Rd.toS, strOfNums_size]; omega
 ·intro i hi; simp [Rd.toS] at hi
 ·intro x hx; simp [Rd.toS, Rd.toSs] at hx
theorem szS_flat (k : Int) (t : List Int) : szS (Rd.toS (.mk k t [] [])) = 1 := by simp [Rd.toS, Rd.toSs, szS, szL]
def Parts (b : List Int) (D : Nat) (ks : List (List Int)) (l : List Val) : Prop := (∀ u ∈ l, G (Rd.toS u) D ∧ (b.length ≤ 3000 → Light (Rd.toS u))) ∧ (∀ x ∈ ks, Js.V x ∧ Bytes x ∧ x.length ≤ b.length) ∧ ks.Nodup
theorem Parts.snoc {b : List Int} {D : Nat} {ks : List (List Int)} {l : List Val} {v : Val} {p q : Nat} (h : Parts b D ks l) (hv : Pd b v D p q) : Parts b D ks (l ++ [v]) := by
 refine ⟨fun u hu => ?_, h.2⟩
 rcases List.mem_append.1 hu with hu | hu
 ·exact h.1 u hu
 ·simp at hu; subst hu; exact ⟨hv.good, hv.light⟩
theorem Parts.key {b : List Int} {D : Nat} {ks : List (List Int)} {l : List Val} {key : List Int} (h : Parts b D ks l) (hv : Js.V key) (hb : Bytes key) (hl : key.length ≤ b.length) (hn : key ∉ ks) : Parts b D (ks ++ [key]) l := by
 refine ⟨h.1, fun x hx => ?_, ?_⟩
 ·rcases List.mem_append.1 hx with hx | hx
  ·exact h.2.1 x hx
  ·simp at hx; subst hx; exact ⟨hv, hb, hl⟩
 ·rw [List.nodup_append]
  refine ⟨h.2.2, by simp, fun a ha c hc => ?_⟩
  simp at hc
  subst hc
  rintro rfl
  exact hn ha
theorem str_inj {x y : List Int} (hx : Bytes x) (hy : Bytes y) (h : strOfNums x = strOfNums y) : x = y := by rw [← bytes_str hx, ← bytes_str hy, h]
theorem parts_obj {b : List Int} {d p q : Nat} {ks : List (List Int)} {l : List Val} (h : Parts b (d + 1) ks l) (hd : d < 64) (hkl : ks.length = l.length) (hlen : l.length ≤ b.length) (hs : szL (Rd.toSs l) + p + 1 ≤ q) : Pd b (.mk 6 [] ks l) d p q := by
 refine ⟨G.obj (by simp [Rd.toS]) hd (by simp [Rd.toS, toSs_length, hkl]) ?_ ?_ ?_, fun hb => ?_, by simp only [Rd.toS, szS]; omega⟩
 ·intro x hx
  simp only [Rd.toS] at hx
  obtain ⟨y, hy, rfl⟩ := List.mem_map.1 hx
  rw [bytes_str (h.2.1 y hy).2.1]
  exact (h.2.1 y hy).1
 ·simp only [Rd.toS]
  rw [List.nodup_iff_pairwise_ne, List.pairwise_map]
  have := h.2.2
  rw [List.nodup_iff_pairwise_ne] at this
  refine this.imp_of_mem fun ha hc hne he => hne (str_inj (h.2.1 _ ha).2.1 (h.2.1 _ hc).2.1 he)
 ·intro x hx
  simp only [Rd.toS] at hx
  obtain ⟨u, hu, rfl⟩ := mem_toSs hx
  exact (h.1 u hu).1
 ·refine Light.mk ?_ ?_ ?_ ?_ ?_
  ·simp only [Rd.toS, toSs_length]; omega
  ·simp only [Rd.toS, List.length_map]; omega
  ·simp [Rd.toS, strOfNums_size]
  ·intro i hi
   simp only [Rd.toS, List.getElem_map, strOfNums_size]
   have := (h.2.1 _ (List.getElem_mem (l := ks) (n := i) (by simpa [Rd.toS] using hi))).2.2
   omega
  ·intro x hx
   simp only [Rd.toS] at hx
   obtain ⟨u, hu, rfl⟩ := mem_toSs hx
   exact (h.1 u hu).2 hb
theorem parts_arr {b : List Int} {d p q : Nat} {l : List Val} (h : Parts b (d + 1) [] l) (hd : d < 64) (hlen : l.length ≤ b.length) (hs : szL (Rd.toSs l) + p + 1 ≤ q) : Pd b (.mk 5 [] [] l) d p q := by
 refine ⟨G.arr (by simp [Rd.toS]) hd ?_, fun hb => ?_, by simp only [Rd.toS, szS]; omega⟩
 ·intro x hx
  simp only [Rd.toS] at hx
  obtain ⟨u, hu, rfl⟩ := mem_toSs hx
  exact (h.1 u hu).1
 ·refine Light.mk ?_ ?_ ?_ ?_ ?_
  ·simp only [Rd.toS, toSs_length]; omega
  ·simp [Rd.toS]
  ·simp [Rd.toS, strOfNums_size]
  ·intro i hi; simp [Rd.toS] at hi
  ·intro x hx
   simp only [Rd.toS] at hx
   obtain ⟨u, hu, rfl⟩ := mem_toSs hx
   exact (h.1 u hu).2 hb
end Go.Proofs.Yteighppcdpaekaa.Pr4
end
section
namespace Go.Proofs.Yteighppcdpaekaa.Pr4
open Go.RowKit Go.Proofs.YteighppcdpaekaaW.PrintWords Go.Proofs.Yteighppcdpaekaa.P
open Go.Proofs.Yteighppcdpaekaa Go.Proofs.Yteighppcdpaekaa.Eq4
open Go.Proofs.Yteighppcdpaekaa.Js (Bytes escB hexd Term Out Val)
set_option linter.unusedVariables false
theorem pd_word {b : List Int} {kind : Int} {d p q : Nat} (hk : kind = 0 ∨ kind = 1 ∨ kind = 2) (h : p < q) : Pd b (.mk kind [] [] []) d p q :=
 ⟨G.word (by simpa [Rd.toS] using hk), fun hb => light_flat (b := b) (by simp) hb, by rw [szS_flat]; omega⟩
theorem pd_num {b : List Int} (hB : Bytes b) {d p q : Nat} (h : Js.number b p = .ok () q) : Pd b (.mk 3 ((b.take q).drop p) [] []) d p q := by
 have hl := Js.number_lt h
 have hlen : ((b.take q).drop p).length = q - p := by rw [List.length_drop, List.length_take]; omega
 have hb : b.drop p = (b.take q).drop p ++ b.drop q := by
  conv => lhs; rw [← List.take_append_drop q b]
  rw [List.drop_append_of_le_length (by rw [List.length_take]; omega)]
 have hbt : Bytes ((b.take q).drop p) := fun x hx => hB x (List.mem_of_mem_take (List.mem_of_mem_drop hx))
 refine ⟨G.num (by simp [Rd.toS]) ?_, fun hb3 => light_flat (b := b) (by omega) hb3, by rw [szS_flat]; omega⟩
 simp only [Rd.toS]
 rw [bytes_str hbt]
 exact Js.number_cut hb (by rw [hlen, show p + (q - p) = q by omega]; exact h)
theorem all_pd {b : List Int} (hV : Js.V b) (hB : Bytes b) (k : Nat) :
  (∀ d p v q, Js.value b k d p = some (.ok v q) → Pd b v d p q) ∧
  (∀ d l p v q, p ≤ b.length → Parts b (d + 1) [] l → Js.items b k (d + 1) l p = some (.ok v q) → ∃ l2, v = .mk 5 [] [] l2 ∧ Parts b (d + 1) [] l2 ∧ l2.length + p ≤ l.length + q ∧ szL (Rd.toSs l2) + p ≤ szL (Rd.toSs l) + q) ∧
  (∀ d ks l p v q, p ≤ b.length → Parts b (d + 1) ks l → ks.length = l.length → Js.pairs b k (d + 1) ks l p = some (.ok v q) → ∃ ks2 l2, v = .mk 6 [] ks2 l2 ∧ Parts b (d + 1) ks2 l2 ∧ ks2.length = l2.length ∧ l2.length + p ≤ l.length + q ∧ szL (Rd.toSs l2) + p ≤ szL (Rd.toSs l) + q) := by
 have nop : ∀ D, Parts b D [] [] := fun D => ⟨fun u hu => (by cases hu), fun x hx => (by cases hx), List.nodup_nil⟩
 induction k with
 | zero => refine ⟨fun d p v q h => ?_, fun d l p v q _ _ h => ?_, fun d ks l p v q _ _ _ h => ?_⟩ <;> simp [Js.value, Js.items, Js.pairs] at h
 | succ k ih =>
  obtain ⟨i1, i2, i3⟩ := ih
  refine ⟨fun d p v q h => ?_, fun d l p v q hp hP h => ?_, fun d ks l p v q hp hP hkl h => ?_⟩
  ·have hq := Js.value_le h
   rw [Js.value_succ] at h
   cases hx : b[p]? with
   | none => simp [hx] at h
   | some x =>
    have hl := Js.at_lt hx
    have hbl := Js.blank_le (b := b) (p := p + 1) (by omega)
    simp only [hx] at h
    split at h
    ·unfold Js.obj Js.enter at h
     by_cases hd : d + 1 > 64
     ·rw [if_pos hd] at h; simp at h
     ·rw [if_neg hd] at h
      simp only at h
      cases hy : b[Js.blank b (p + 1)]? with
      | none => simp [hy] at h
      | some y =>
       have hyl := Js.at_lt hy
       simp only [hy] at h
       split at h
       ·simp at h
        obtain ⟨rfl, rfl⟩ := h
        exact parts_obj (nop _) (by omega) rfl (by simp) (by simp [Rd.toSs, szL]; omega)
       ·obtain ⟨ks2, l2, rfl, hP2, hkl2, h1, h2⟩ := i3 d [] [] _ v q (by omega) (nop _) rfl h
        exact parts_obj hP2 (by omega) hkl2 (by simp at h1; omega) (by simp [Rd.toSs, szL] at h2; omega)
    split at h
    ·unfold Js.arr Js.enter at h
     by_cases hd : d + 1 > 64
     ·rw [if_pos hd] at h; simp at h
     ·rw [if_neg hd] at h
      simp only at h
      cases hy : b[Js.blank b (p + 1)]? with
      | none => simp [hy] at h
      | some y =>
       have hyl := Js.at_lt hy
       simp only [hy] at h
       split at h
       ·simp at h
        obtain ⟨rfl, rfl⟩ := h
        exact parts_arr (nop _) (by omega) (by simp) (by simp [Rd.toSs, szL]; omega)
       ·obtain ⟨l2, rfl, hP2, h1, h2⟩ := i2 d [] _ v q (by omega) (nop _) h
        exact parts_arr hP2 (by omega) (by simp at h1; omega) (by simp [Rd.toSs, szL] at h2; omega)
    split at h
    ·cases ht : Js.text b k p with
     | none => simp [ht] at h
     | some ot =>
      cases ot with
      | no y e => simp [ht, Js.strV] at h
      | ok l r =>
       have htb := Js.text_bytes hB ht
       have htv := Js.text_V hV ht
       simp [ht, Js.strV] at h
       obtain ⟨rfl, rfl⟩ := h
       exact ⟨G.str (by simp [Rd.toS]) (by simp only [Rd.toS]; rw [bytes_str htb.1]; exact htv), fun hb => light_flat (b := b) (by omega) hb, by rw [szS_flat]; omega⟩
    split at h
    ·cases hw : Js.word b [116, 114, 117, 101] p with
     | no x e => simp [hw, Js.wordV] at h
     | ok u r => simp [hw, Js.wordV] at h; obtain ⟨rfl, rfl⟩ := h; exact pd_word (by omega) hq.1
    split at h
    ·cases hw : Js.word b [102, 97, 108, 115, 101] p with
     | no x e => simp [hw, Js.wordV] at h
     | ok u r => simp [hw, Js.wordV] at h; obtain ⟨rfl, rfl⟩ := h; exact pd_word (by omega) hq.1
    split at h
    ·cases hw : Js.word b [110, 117, 108, 108] p with
     | no x e => simp [hw, Js.wordV] at h
     | ok u r => simp [hw, Js.wordV] at h; obtain ⟨rfl, rfl⟩ := h; exact pd_word (by omega) hq.1
    ·cases hn : Js.number b p with
     | no x e => simp [hn, Js.numV] at h
     | ok u r => simp [hn, Js.numV] at h; obtain ⟨rfl, rfl⟩ := h; exact pd_num hB hn
  ·rw [Js.items] at h
   cases hv : Js.value b k (d + 1) p with
   | none => simp [hv] at h
   | some ov =>
    cases ov with
    | no x e => simp [hv] at h
    | ok v1 q1 =>
     have hv1 := Js.value_le hv
     have hpd := i1 _ _ _ _ hv
     have hsn : szL (Rd.toSs (l ++ [v1])) = szL (Rd.toSs l) + szS (Rd.toS v1) := by rw [toSs_snoc, szL_app]; simp [szL]
     have hss := hpd.size
     simp only [hv] at h
     cases hc : Js.comma b 93 q1 with
     | no x e => simp [hc] at h
     | ok t s =>
      have h2 := Js.comma_le hv1.2 hc
      cases t with
      | true =>
       simp only [hc] at h
       obtain ⟨l2, rfl, hP2, h3, h4⟩ := i2 d (l ++ [v1]) s v q h2.2 (hP.snoc hpd) h
       exact ⟨l2, rfl, hP2, by simp at h3; omega, by omega⟩
      | false =>
       simp [hc] at h
       obtain ⟨rfl, rfl⟩ := h
       exact ⟨_, rfl, hP.snoc hpd, by simp; omega, by omega⟩
  ·rw [Js.pairs] at h
   cases ht : Js.text b k p with
   | none => simp [ht] at h
   | some ot =>
    cases ot with
    | no x e => simp [ht] at h
    | ok key q0 =>
     have hq0 := Js.text_le ht
     have htb := Js.text_bytes hB ht
     have htv := Js.text_V hV ht
     have hz := Js.blank_le (b := b) (p := q0) hq0.2
     simp only [ht] at h
     split at h
     ·cases h
     rename_i hks
     have hnk : key ∉ ks := fun hm => hks (by rw [List.contains_iff_mem]; exact hm)
     cases hx : b[Js.blank b q0]? with
     | none => simp [hx] at h
     | some x =>
      have hzl := Js.at_lt hx
      have hz2 := Js.blank_le (b := b) (p := Js.blank b q0 + 1) (by omega)
      simp only [hx] at h
      split at h
      ·cases hv : Js.value b k (d + 1) (Js.blank b (Js.blank b q0 + 1)) with
       | none => simp [hv] at h
       | some ov =>
        cases ov with
        | no x e => simp [hv] at h
        | ok v1 q1 =>
         have hv1 := Js.value_le hv
         have hpd := i1 _ _ _ _ hv
         have hsn : szL (Rd.toSs (l ++ [v1])) = szL (Rd.toSs l) + szS (Rd.toS v1) := by rw [toSs_snoc, szL_app]; simp [szL]
         have hss := hpd.size
         have hP2 := (hP.key htv htb.1 (by omega) hnk).snoc hpd
         simp only [hv] at h
         cases hc : Js.comma b 125 q1 with
         | no x e => simp [hc] at h
         | ok t s =>
          have h2 := Js.comma_le hv1.2 hc
          cases t with
          | true =>
           simp only [hc] at h
           obtain ⟨ks2, l2, rfl, hP3, hkl3, h3, h4⟩ := i3 d (ks ++ [key]) (l ++ [v1]) s v q h2.2 hP2 (by simp [hkl]) h
           exact ⟨ks2, l2, rfl, hP3, hkl3, by simp at h3; omega, by omega⟩
          | false =>
           simp [hc] at h
           obtain ⟨rfl, rfl⟩ := h
           exact ⟨_, _, rfl, hP2, by simp [hkl], by simp; omega, by omega⟩
      ·cases h
theorem toList_inj {x y : ByteArray} (h : x.toList = y.toList) : x = y := by
 rw [ByteArray.toList_eq, ByteArray.toList_eq] at h
 exact ByteArray.ext (Array.toList_inj.1 h)
theorem eqK_eq {x y : List ByteArray} (h : x.length = y.length) (he : eqK x y = true) : x = y := by
 induction x generalizing y with
 | nil => cases y with
  | nil => rfl
  | cons a r => simp at h
 | cons a r ih => cases y with
  | nil => simp at h
  | cons c s =>
   simp only [eqK, Bool.and_eq_true] at he
   have h1 : a = c := toList_inj (by simpa using he.1)
   rw [h1, ih (by simpa using h) he.2]
theorem eqL_get {x y : List S25} {i : Nat} {u w : S25} (he : eqL x y = true) (hu : x[i]? = some u) (hw : y[i]? = some w) : eqS u w = true := by
 induction x generalizing y i with
 | nil => simp at hu
 | cons a r ih => cases y with
  | nil => simp at hw
  | cons c s =>
   simp only [eqL, Bool.and_eq_true] at he
   cases i with
   | zero => simp at hu hw; rw [← hu, ← hw]; exact he.1
   | succ i => exact ih he.2 (by simpa using hu) (by simpa using hw)
def EqP (u v : S25) : Prop := u.f0 = v.f0 ∧ u.f3.length = v.f3.length ∧ eqL u.f3 v.f3 = true ∧ (u.f0 = 6 → u.f2 = v.f2)
theorem wr_congr (k : Nat) : (∀ x u v d, eqS u v = true → Wr.wr k x u d = Wr.wr k x v d) ∧ (∀ x u v d, (u.f0 = 5 ∨ u.f0 = 6) → (u.f0 = v.f0 ∧ u.f3.length = v.f3.length ∧ eqL u.f3 v.f3 = true ∧ (u.f0 = 6 → u.f2 = v.f2)) → Wr.pt k x u d = Wr.pt k x v d) ∧
  (∀ x u v d i s, EqP u v → Wr.pl k x u d i s = Wr.pl k x v d i s) := by
 induction k with
 | zero => refine ⟨fun x u v d _ => ?_, fun x u v d _ _ => ?_, fun x u v d i s _ => ?_⟩ <;> simp [Wr.wr, Wr.pt, Wr.pl]
 | succ k ih =>
  obtain ⟨i1, i2, i3⟩ := ih
  refine ⟨fun x u v d h => ?_, fun x u v d h56 h => ?_, fun x u v d i s h => ?_⟩
  ·rw [eqS_eq] at h
   split at h
   rotate_left
   ·cases h
   rename_i h0
   rw [Wr.wr, Wr.wr, ← h0]
   by_cases e34 : u.f0 = 3 ∨ u.f0 = 4
   ·rw [if_pos e34] at h
    have h1 : u.f1 = v.f1 := toList_inj (by simpa using h)
    rw [h1]
    rw [if_neg (show ¬ (u.f0 = 5 ∨ u.f0 = 6) by omega), if_neg (show ¬ (u.f0 = 5 ∨ u.f0 = 6) by omega)]
   ·rw [if_neg e34] at h
    rw [if_neg (show ¬ u.f0 = 3 by omega), if_neg (show ¬ u.f0 = 3 by omega), if_neg (show ¬ u.f0 = 4 by omega), if_neg (show ¬ u.f0 = 4 by omega)]
    by_cases e56 : u.f0 = 5 ∨ u.f0 = 6
    ·rw [if_pos e56] at h
     simp only [Bool.and_eq_true, decide_eq_true_eq] at h
     rw [if_pos e56, if_pos e56, i2 x u v (d + 1) e56 ⟨h0, h.1, h.2.2, fun h6 => by
      have := h.2.1
      rw [if_pos h6] at this
      simp only [Bool.and_eq_true, decide_eq_true_eq] at this
      exact eqK_eq this.1 this.2⟩]
    ·rw [if_neg e56, if_neg e56]
  ·obtain ⟨h0, h3, hl, hk⟩ := h
   rw [Wr.pt, Wr.pt, ← h0, ← h3]
   have hc : (u.f0 = 6 ∧ ¬ u.f2.length = u.f3.length) ↔ (u.f0 = 6 ∧ ¬ v.f2.length = u.f3.length) := by
    constructor
    ·rintro ⟨a, c⟩; exact ⟨a, by rw [← hk a]; exact c⟩
    ·rintro ⟨a, c⟩; exact ⟨a, by rw [hk a]; exact c⟩
   simp only [hc]
   cases hr : Wr.room x [if u.f0 = 6 then 123 else 91] with
   | none => rfl
   | some y => simp only; rw [i3 y u v d 0 [] ⟨h0, h3, hl, hk⟩]
  ·obtain ⟨h0, h3, hl, hk⟩ := h
   rw [Wr.pl, Wr.pl, ← h0]
   by_cases hlt : i < u.f3.length
   ·have hu : u.f3[i]? = some u.f3[i] := List.getElem?_eq_getElem hlt
    have hv : v.f3[i]? = some (v.f3[i]'(by omega)) := List.getElem?_eq_getElem _
    have he := eqL_get hl hu hv
    rw [hu, hv]
    simp only
    have hh : ∀ y, Wr.head k y u i s = Wr.head k y v i s := by
     intro y
     unfold Wr.head
     rw [← h0]
     split
     ·rename_i h6; rw [hk h6]
     ·rfl
    cases hy : (if 0 < i then Wr.room x [44] else some x) with
    | none => rfl
    | some y =>
     simp only [hh]
     cases hd : Wr.head k y v i s with
     | none => rfl
     | some o =>
      obtain ⟨z, s2, e⟩ := o
      simp only
      rw [i1 z _ _ d he]
      split
      ·cases Wr.wr k z (v.f3[i]'(by omega)) d with
       | none => rfl
       | some o2 =>
        simp only
        rw [i3 _ u v d (i + 1) s2 ⟨h0, h3, hl, hk⟩]
      ·rfl
   ·rw [List.getElem?_eq_none (by omega), List.getElem?_eq_none (by omega)]
end Go.Proofs.Yteighppcdpaekaa.Pr4
end
section
namespace Go.Proofs.Yteighppcdpaekaa.Pr4
open Go.RowKit Go.Proofs.YteighppcdpaekaaW.PrintWords Go.Proofs.Yteighppcdpaekaa.P
open Go.Proofs.Yteighppcdpaekaa Go.Proofs.Yteighppcdpaekaa.Eq4
open Go.Proofs.Yteighppcdpaekaa.Js (Bytes escB hexd Term Out Val)
set_option linter.unusedVariables false
theorem back_good {w : S25} (hL : Light w) (hs : szS w ≤ 100000) (hg : G w 0) : ∃ r v', Ev (fun k => json_Print.f k w.f0 w.f1 w.f2 w.f3) (r, 0) ∧ Ev (fun k => json_Parse.f k r) ((Rd.toS v').f0, (Rd.toS v').f1, (Rd.toS v').f2, (Rd.toS v').f3, 0, 0) ∧ eqS w (Rd.toS v') = true ∧
  Ev (fun k => json_Print.f k (Rd.toS v').f0 (Rd.toS v').f1 (Rd.toS v').f2 (Rd.toS v').f3) (r, 0) := by
 obtain ⟨r, e, hE, hW⟩ := wr_val _ w [] 0 (Nat.le_refl _) hL (by simp; omega) (by omega)
 obtain ⟨k, hk⟩ := Ev.rounds hE
 have he := (good_e k).1 _ _ _ _ _ hg hk
 subst he
 obtain ⟨t, ht, hR, hlen⟩ := hW rfl
 rw [List.nil_append] at ht
 subst ht
 obtain ⟨v', hq, hP⟩ := parse_back hR (by omega)
 refine ⟨r, v', print_ev hE, hP, hq, print_ev (Ev.congr (fun k => ?_) hE)⟩
 exact ((wr_congr k).1 [] w (Rd.toS v') _ hq).symm
theorem back_j1 {l : List Int} (hb : Bytes l) (hl : l.length ≤ 3000) : Ev (fun k => whetstonelaw04_JsonBack.j1 k l) true := by
 refine Ev.step (fun k => rfl) ?_
 simp only [whetstonelaw04_JsonBack.j1]
 have run : ∀ w : S25, Light w → szS w ≤ 100000 → G w 0 → ∀ x : Int, Ev (fun k => json_Parse.f k l) (w.f0, w.f1, w.f2, w.f3, x, 0) → Ev (fun k => (json_Parse.f k l).bind fun bt325 => (if bt325.2.2.2.2.2 = 0 then ((json_Print.f k bt325.1 bt325.2.1 bt325.2.2.1 bt325.2.2.2.1).bind fun bt336 => ((json_Parse.f k bt336.1).bind fun bt340 => ((json_Print.f k bt340.1 bt340.2.1 bt340.2.2.1 bt340.2.2.2.1).bind fun bt351 => (if bt336.2 = 0 then (if bt340.2.2.2.2.2 = 0 then (if bt351.2 = 0 then ((json_Equal.f k bt325.1 bt325.2.1 bt325.2.2.1 bt325.2.2.2.1 bt340.1 bt340.2.1 bt340.2.2.1 bt340.2.2.2.1).bind fun t355 => (if t355 = true then (some ((strOfNums bt336.1).toList == (strOfNums bt351.1).toList)) else (some false))) else (some false)) else (some false)) else (some false))))) else (some true))) true := by
  intro w hL hs hg x hP
  obtain ⟨r, v', h1, h2, h3, h4⟩ := back_good hL hs hg
  have h5 := equal_val _ w (Rd.toS v') (Nat.le_refl _) hL
  rw [h3] at h5
  refine Ev.bind hP (Evpos rfl (Ev.bind h1 (Ev.bind h2 (Ev.bind h4 (Evpos rfl (Evpos rfl (Evpos rfl (Ev.bind h5 (Evpos rfl ?_)))))))))
  have : ((strOfNums r).toList == (strOfNums r).toList) = true := by simp
  simp only [this]
  exact Ev.now _
 by_cases hv : Js.V l
 ·obtain ⟨K, o, ho⟩ := parsed_total l
  have hP := parse_ev hb (by omega) hv ho
  cases o with
  | no x e =>
   by_cases he : e = 0
   ·subst he
    refine run ⟨0, ⟨#[]⟩, [], []⟩ (Light.mk (by simp) (by simp) (show (0 : Nat) ≤ 3000 by decide) (fun i hi => by simp at hi) (fun x hx => by cases hx)) (by simp [szS, szL]) (G.word (.inl rfl)) x hP
   ·exact Ev.bind hP (Evneg (show ¬ ((e : Int) = 0) by omega) (Ev.now _))
  | ok v p =>
   unfold Rd.parsed at ho
   cases hval : Js.value l K 0 (Js.blank l 0) with
   | none => rw [hval] at ho; cases ho
   | some ov =>
    rw [hval] at ho
    cases ov with
    | no x e => cases ho
    | ok v2 q =>
     simp only at ho
     split at ho
     ·cases ho
     ·simp at ho
      obtain ⟨rfl, rfl⟩ := ho
      have hpd := (all_pd hv hb K).1 _ _ _ _ hval
      have hq := Js.value_le hval
      have := hpd.size
      exact run (Rd.toS v2) (hpd.light hl) (by omega) hpd.good 0 hP
 ·obtain ⟨x, hx⟩ := parse_utf hb (by omega) hv
  exact Ev.bind hx (Evneg (show ¬ ((10 : Int) = 0) by decide) (Ev.now _))
theorem back_pure (v : S25) (l : List Int) (hb : Bytes l) (hsz : szS v ≤ 1048576) : ∃ k, whetstonelaw04_JsonBack.f k v.f0 v.f1 v.f2 v.f3 l = some true := by
 refine Ev.rounds (g := fun k => whetstonelaw04_JsonBack.f k v.f0 v.f1 v.f2 v.f3 l) ?_
 have yes : Ev (fun k => whetstonelaw04_JsonBack.j0 k l true v.f0 v.f1 v.f2 v.f3) true := Ev.step (fun k => rfl) (by
  simp only [whetstonelaw04_JsonBack.j0]
  exact Evpos (by trivial) (Ev.bind written_ev (Ev.now _)))
 obtain ⟨x, hx, hL⟩ := few_val v
 refine Ev.bind written_ev (Evpos rfl (Ev.bind hx ?_))
 cases x with
 | false => exact Evneg (by simp) yes
 | true =>
  refine Evpos rfl ?_
  have hA := hL rfl
  by_cases hl : (l.length : Int) > 3000
  ·rw [show decide ((l.length : Int) > 3000) = true by simpa using hl]
   exact yes
  ·rw [show decide ((l.length : Int) > 3000) = false by simpa using hl]
   have hj := back_j1 hb (by omega)
   refine Ev.step (fun k => rfl) ?_
   simp only [whetstonelaw04_JsonBack.j0]
   refine Evneg (by simp) ?_
   obtain ⟨r, e, hE, hW⟩ := wr_val _ v [] 0 (Nat.le_refl _) hA (by simp; omega) (by omega)
   refine Ev.bind (a := (r, e)) (print_ev hE) ?_
   by_cases he : e = 0
   ·obtain ⟨t, ht, hR, hlen⟩ := hW he
    rw [List.nil_append] at ht
    subst ht
    obtain ⟨v', hq, hP⟩ := parse_back hR (by omega)
    have h5 := equal_val _ v (Rd.toS v') (Nat.le_refl _) hA
    rw [hq] at h5
    exact Evpos he (Ev.bind hP (Evpos rfl (Ev.bind h5 (Evpos rfl hj))))
   ·exact Evneg he hj
end Go.Proofs.Yteighppcdpaekaa.Pr4
end
section
namespace Go.Proofs.Yteighppcdpaekaa.jsonBack
open Go.ChangeShapes Go.WideShapes Go.ChangeAt Go.RowKit Go.Proofs.YteighppcdpaekaaW.PrintWords Go.Proofs.Yteighppcdpaekaa.P Go.Proofs.Yteighppcdpaekaa.Eq4
set_option linter.unusedVariables false
theorem own : ownKnob Try.prog.godebug = none := by kernel_rfl
theorem laidOut : laidOutB Try.prog = true := by kernel_rfl
theorem cells_5 : Try.prog.cellsOf 5 = 1 := by kernel_rfl
theorem bytesArg {H : Type} {enc : TypeId × Value → H} {W : World} {sp : Nat → Bool} {held : Bool} {A : Option Addr} {len cap : Nat} {d : DataW H} {p : List MemPlace} (h : DataW.Trod enc Try.prog W 0 sp held 28 (.slice A len cap) d p) :
  ∃ l : List Int, len = l.length ∧ l.length ≤ cap ∧ (Kd.int .u8).C W A l.length l ∧ Js.Bytes l := by
 obtain ⟨fuel, hf⟩ := h
 rcases open_ints Try.underlying28 Try.underlying5 cells_5 hf with ⟨hcs, _⟩ | ⟨x, ln, c, zs, hcs, _, hl, hm, hz, _, hcell, hwz⟩
 ·simp [Value.cells] at hcs
  obtain ⟨rfl, rfl, rfl⟩ := hcs
  exact ⟨[], rfl, Nat.le_refl _, Kd.C_nil _ W, fun x hx => by cases hx⟩
 ·simp [Value.cells] at hcs
  obtain ⟨rfl, rfl, rfl⟩ := hcs
  have hle : len ≤ zs.length := by rw [hz]; split <;> omega
  have hll : (zs.take len).length = len := by rw [List.length_take]; omega
  refine ⟨zs.take len, hll.symm, by rw [hll]; exact hl, ?_, fun n hn => ?_⟩
  ·rw [hll]
   refine Kd.C_of_reads (enc := Value.int .u8) (d := (0 : Int)) (h1 := fun _ => rfl) ⟨hll, by unfold maxLen at hm; omega, fun _ => ⟨x, rfl, fun j hj => ?_⟩⟩
   rw [hcell j (by omega)]
   simp only [List.getD_eq_getElem?_getD, List.getElem?_take_of_lt hj]
  ·have := hwz n (List.mem_of_mem_take hn)
   simp [Lit.wf, IntKind.min, IntKind.max, IntKind.signed, IntKind.bits] at this
   omega
theorem contract (H : Type) (enc : TypeId × Value → H) (W : World) (base : Nat) (args : Array Value) (ds gs : List (DataW H)) (before : List MemPlace)
  (hval0 : ∀ (j : Nat) t v, Try.f4.params[j]? = some t → args[j]? = some v → Value.okWide Try.prog W .any base t v)
  (hW : DataW.Whole enc Try.prog Try.f4.params.toList Rows.jsonBackSpec.vars false W args.toList ds gs before) (hk : Rows.uptoSmall H (ds ++ gs) = true) :
  Calls Try.prog 4 args W fun e W' => ∃ v, e = .returned v ∧ Rows.jsonBackSpec.post enc Try.prog Try.f4 false true false false W args v W' := by
 have hval := hval0
 have hW' := hW
 obtain ⟨p, q, hA0, hV, rfl, hfz, hnd⟩ := hW
 have hA : DataW.TrodAll enc Try.prog W 0 (fun _ => true) true Try.f4.params.toList args.toList ds p := hA0
 rw [Try.params4] at hA hval
 obtain ⟨v0, vs0, d0, ds0, p0, q0, hargs, rfl, rfl, h0, r0⟩ := trodAll_cons hA
 obtain ⟨v1, vs1, d1, ds1, p1, q1, rfl, rfl, rfl, h1, r1⟩ := trodAll_cons r0
 obtain ⟨rfl, rfl, rfl⟩ := trodAll_nil r1
 obtain rfl : args = #[v0, v1] := by cases args; simp_all
 obtain ⟨rfl, rfl⟩ := trodVars_none hV
 have k0 := h0
 have lt0 : ∀ x ∈ p0, x.block < W.heap.size := by obtain ⟨m, hm⟩ := k0; exact DataW.trod_lt m _ _ _ hm
 have hb : Rows.uptoBulkAll ([d0, d1] ++ []) ≤ 1048576 := of_decide_eq_true hk
 obtain ⟨s0, A2, c2, A3, c3, rfl, l2, g2, l3, g3, hs0⟩ := openArgB25 (hval 0 25 v0 rfl rfl) h0
 have k1 := h1
 have lt1 : ∀ x ∈ p1, x.block < W.heap.size := by obtain ⟨m, hm⟩ := k1; exact DataW.trod_lt m _ _ _ hm
 obtain ⟨a1, len1, cap1, rfl⟩ := okWide_slice Try.underlying28 (hval 1 28 v1 rfl rfl)
 obtain ⟨l1, rfl, y1, z1, hb1⟩ := bytesArg h1
 have hsz : szS s0 ≤ 1048576 := by
  simp only [List.append_nil, Rows.uptoBulkAll] at hb
  omega
 clear hA0 hval0
 obtain ⟨k, hk2⟩ := Pr4.back_pure s0 l1 hb1 hsz
 refine (whetstonelaw04_JsonBack.calls k s0.f0 s0.f1 A2 c2 s0.f2 A3 c3 s0.f3 a1 cap1 l1 true W g2 l2 g3 l3 z1 y1 hk2).mono fun e W' ⟨he, bel⟩ => ?_
 subst he
 exact ⟨_, rfl, _, _, _, [], _, [], hW', trodAll_mk1 (shut_bool Try.underlying4 _), (trodAll_cons_mk (Below.trod laidOut (by kernel_rfl) (of_decide_eq_true (by kernel_rfl)) k0 bel lt0) (trodAll_cons_mk (Below.trod laidOut (by kernel_rfl) (of_decide_eq_true (by kernel_rfl)) k1 bel lt1) trodAll_mk0)), rfl, bel.frame _, fun h => by cases h⟩
set_option maxRecDepth 100000 in
theorem lifted (os : Os) (started : os.Started) (H : Type) (enc : TypeId × Value → H) (F : Stop.Interp) :
  ReturnsInHanded {} Try.checked os 4 .any ((Rows.OpenSpec.upto Rows.jsonBackSpec).pre6 enc Try.prog Try.f4 Rows.jsonBackUptoRow.domain false) (((Rows.OpenSpec.upto Rows.jsonBackSpec).at F).post enc Try.prog Try.f4 false true false false) := by
 refine returnsInHanded_of_cond (C := Try.checked) (s := Rows.OpenSpec.upto Rows.jsonBackSpec) (k := Rows.uptoSmall) rfl own started (by kernel_rfl) Try.func4
  (OpenSpec.witness (enc := enc) (C := Try.checked) (s := Rows.OpenSpec.upto Rows.jsonBackSpec) (k := Rows.uptoSmall) rfl false ⟨#[], #[.agg #[.int .i64 0, .string .empty, .slice none 0 0, .slice none 0 0], .slice none 0 0], []⟩ 8 (by kernel_rfl) (by kernel_rfl) (by kernel_rfl)
   (x := ([.agg [.lit (.int .i64 0), .lit (.string []), .nil, .nil], .nil], [], [])) (by kernel_rfl) rfl (by kernel_rfl)) ?_
 intro W base args ds gs before hval hW _ hk _
 exact contract H enc W base args ds gs before hval hW hk
theorem proved : Rows.JsonBackUptoSaid :=
 OpenClaim.holds_of_cond 4 Try.f4 rfl rfl rfl rfl rfl rfl rfl ⟨rfl, rfl, rfl, rfl, rfl⟩ rfl rfl rfl rfl rfl (by kernel_rfl) Try.func4 (by kernel_rfl)
  (of_decide_eq_true (by kernel_rfl)) (by unfold Func.isWrapper; first | (rw [if_pos (by decide +kernel)]; kernel_rfl) | (rw [if_neg (by decide +kernel)]; exact ⟨rfl, rfl⟩))
  (fun os started H enc _ F => lifted os started H enc F)
end Go.Proofs.Yteighppcdpaekaa.jsonBack
namespace Go.Proofs.Yteighppcdpaekaa
theorem jsonBackUpto_holds : Rows.JsonBackUptoSaid := jsonBack.proved
#print axioms jsonBackUpto_holds
end Go.Proofs.Yteighppcdpaekaa
end
