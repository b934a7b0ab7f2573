/- Walks and words of this session, put together by a program of this session (pack.py). Conditions: as each text says. -/
import Derived.Lib.SlBytesConst
import Derived.WalkKit
import Derived.ProofKit
import Derived.OpenShut
import Derived.JoinedCond
import Derived.ChangeOld
import Derived.Below
import Derived.Test.YteighppcdpaekaaC2
import Derived.Test.YteighppcdpaekaaC3
import Derived.Test.YteighppcdpaekaaC6
import Derived.Test.YteighppcdpaekaaC8
set_option linter.unusedVariables false
set_option linter.unusedSimpArgs false
section
namespace Go.Proofs.Yteighppcdpaekaa.Js
set_option linter.unusedVariables false
def vk : Val → Int
 | .mk k _ _ _ => k
section
variable {b : List Int} {c : Nat}
def Fails (o : Out Val) : Prop := ∃ x e, o = .no x e ∧ (e = 11 ∨ e = 6)
def Cut3 (c : Nat) (v : Val) (q : Nat) (o : Out Val) : Prop := (q < c → o = .ok v q) ∧ (c ≤ q → Fails o ∨ ∃ v', o = .ok v' c) ∧ (vk v ≠ 3 → Cut2 c (.ok v q) o q)
theorem Cut3.of {v : Val} {q : Nat} {o : Out Val} (h : Cut2 c (.ok v q) o q) : Cut3 c v q o := by
 refine ⟨fun h1 => h.1 (by omega), fun h1 => ?_, fun _ => h⟩
 by_cases he : q = c
 ·subst he; exact .inr ⟨v, h.1 (Nat.le_refl _)⟩
 ·exact .inl (h.2 (by omega))
theorem all_take (k : Nat) : (∀ d p v q, p ≤ c → value b k d p = some (.ok v q) → ∃ o, value (b.take c) k d p = some o ∧ Cut3 c v q o) ∧
  (∀ d l p v q, p ≤ c → p ≤ b.length → items b k d l p = some (.ok v q) → ∃ o, items (b.take c) k d l p = some o ∧ Cut2 c (.ok v q) o q) ∧
  (∀ d ks l p v q, p ≤ c → p ≤ b.length → pairs b k d ks l p = some (.ok v q) → ∃ o, pairs (b.take c) k d ks l p = some o ∧ Cut2 c (.ok v q) o q) := by
 induction k with
 | zero => refine ⟨fun d p v q _ h => ?_, fun d l p v q _ _ h => ?_, fun d ks l p v q _ _ h => ?_⟩ <;> simp [value, items, pairs] at h
 | succ k ih =>
  obtain ⟨i1, i2, i3⟩ := ih
  refine ⟨fun d p v q hp h => ?_, fun d l p v q hp hpl h => ?_, fun d ks l p v q hp hpl h => ?_⟩
  ·have hq := value_le h
   rw [value_succ] at h
   rw [value_succ]
   by_cases hpc : p < c
   ·rw [take_at hpc]
    cases hx : b[p]? with
    | none => simp [hx] at h
    | some x =>
     have hl := at_lt hx
     simp only [hx] at h ⊢
     by_cases e1 : (x == 123) = true
     ·rw [if_pos e1] at h
      rw [if_pos e1]
      unfold obj enter at h ⊢
      by_cases hd : d + 1 > 64
      ·rw [if_pos hd] at h; simp at h
      ·rw [if_neg hd] at h
       rw [if_neg hd]
       simp only at h ⊢
       have hbl := blank_le (b := b) (p := p + 1) (by omega)
       rw [blank_take (by omega)]
       by_cases hbc : blank b (p + 1) < c
       ·rw [show min (blank b (p + 1)) c = blank b (p + 1) by omega, take_at hbc]
        cases hy : b[blank b (p + 1)]? with
        | none => simp [hy] at h
        | some y =>
         have hyl := at_lt hy
         simp only [hy] at h ⊢
         split at h
         ·rename_i hy2
          rw [if_pos hy2]
          simp at h
          obtain ⟨rfl, rfl⟩ := h
          exact ⟨_, rfl, Cut3.of ⟨fun _ => rfl, fun h3 => by omega⟩⟩
         ·rename_i hy2
          rw [if_neg hy2]
          obtain ⟨o, ho, hc⟩ := i3 _ _ _ _ _ _ (by omega) (by omega) h
          exact ⟨o, ho, Cut3.of hc⟩
       ·rw [show min (blank b (p + 1)) c = c by omega, take_past (Nat.le_refl _)]
        have : c < q := by
         cases hy : b[blank b (p + 1)]? with
         | none => simp [hy] at h
         | some y =>
          have hyl := at_lt hy
          simp only [hy] at h
          split at h
          ·simp at h; omega
          ·have := (all_le b k).2.2 _ _ _ _ _ _ (by omega) h; omega
        exact ⟨_, rfl, Cut3.of (Cut2.past this)⟩
     rw [if_neg e1] at h
     rw [if_neg e1]
     by_cases e2 : (x == 91) = true
     ·rw [if_pos e2] at h
      rw [if_pos e2]
      unfold arr enter at h ⊢
      by_cases hd : d + 1 > 64
      ·rw [if_pos hd] at h; simp at h
      ·rw [if_neg hd] at h
       rw [if_neg hd]
       simp only at h ⊢
       have hbl := blank_le (b := b) (p := p + 1) (by omega)
       rw [blank_take (by omega)]
       by_cases hbc : blank b (p + 1) < c
       ·rw [show min (blank b (p + 1)) c = blank b (p + 1) by omega, take_at hbc]
        cases hy : b[blank b (p + 1)]? with
        | none => simp [hy] at h
        | some y =>
         have hyl := at_lt hy
         simp only [hy] at h ⊢
         split at h
         ·rename_i hy2
          rw [if_pos hy2]
          simp at h
          obtain ⟨rfl, rfl⟩ := h
          exact ⟨_, rfl, Cut3.of ⟨fun _ => rfl, fun h3 => by omega⟩⟩
         ·rename_i hy2
          rw [if_neg hy2]
          obtain ⟨o, ho, hc⟩ := i2 _ _ _ _ _ (by omega) (by omega) h
          exact ⟨o, ho, Cut3.of hc⟩
       ·rw [show min (blank b (p + 1)) c = c by omega, take_past (Nat.le_refl _)]
        have : c < q := by
         cases hy : b[blank b (p + 1)]? with
         | none => simp [hy] at h
         | some y =>
          have hyl := at_lt hy
          simp only [hy] at h
          split at h
          ·simp at h; omega
          ·have := (all_le b k).2.1 _ _ _ _ _ (by omega) h; omega
        exact ⟨_, rfl, Cut3.of (Cut2.past this)⟩
     rw [if_neg e2] at h
     rw [if_neg e2]
     have wordc : ∀ (kind : Int) (l : List Int), some (wordV kind (word b l p)) = some (.ok v q) → ∃ o, some (wordV kind (word (b.take c) l p)) = some o ∧ Cut3 c v q o := by
      intro kind l h
      cases hw : word b l p with
      | no x e => simp [hw, wordV] at h
      | ok u r =>
       simp [hw, wordV] at h
       obtain ⟨rfl, rfl⟩ := h
       obtain ⟨a1, a2⟩ := word_take hp hw
       refine ⟨_, rfl, Cut3.of ⟨fun h3 => by rw [a1 h3, hw]; rfl, fun h3 => ?_⟩⟩
       obtain ⟨y, e, hy, hee⟩ := a2 h3
       exact ⟨y, e, by rw [hy]; rfl, hee⟩
     by_cases e3 : (x == 34) = true
     ·rw [if_pos e3] at h
      rw [if_pos e3]
      cases ht : text b k p with
      | none => simp [ht] at h
      | some ot =>
       cases ot with
       | no y e => simp [ht, strV] at h
       | ok l r =>
        simp [ht, strV] at h
        obtain ⟨rfl, rfl⟩ := h
        obtain ⟨o, ho, a1, a2⟩ := text_take hp ht
        rw [ho]
        refine ⟨_, rfl, Cut3.of ⟨fun h3 => by rw [a1 h3]; rfl, fun h3 => ?_⟩⟩
        obtain ⟨y, e, hy, hee⟩ := a2 h3
        exact ⟨y, e, by rw [hy]; rfl, hee⟩
     rw [if_neg e3] at h
     rw [if_neg e3]
     by_cases e4 : (x == 116) = true
     ·rw [if_pos e4] at h; rw [if_pos e4]; exact wordc _ _ h
     rw [if_neg e4] at h
     rw [if_neg e4]
     by_cases e5 : (x == 102) = true
     ·rw [if_pos e5] at h; rw [if_pos e5]; exact wordc _ _ h
     rw [if_neg e5] at h
     rw [if_neg e5]
     by_cases e6 : (x == 110) = true
     ·rw [if_pos e6] at h; rw [if_pos e6]; exact wordc _ _ h
     rw [if_neg e6] at h
     rw [if_neg e6]
     cases hn : number b p with
     | no y e => simp [hn, numV] at h
     | ok u r =>
      simp [hn, numV] at h
      obtain ⟨rfl, rfl⟩ := h
      obtain ⟨a1, a2⟩ := number_take hp hn
      refine ⟨_, rfl, fun h3 => ?_, fun h3 => ?_, fun h3 => absurd rfl h3⟩
      ·rw [a1 h3]
       simp only [numV]
       rw [List.take_take, show min r c = r by omega]
      ·rcases a2 h3 with ⟨y, hy⟩ | hy
       ·exact .inl ⟨y, 11, by rw [hy]; rfl, .inl rfl⟩
       ·exact .inr ⟨_, by rw [hy]; rfl⟩
   ·rw [take_past (by omega)]
    exact ⟨_, rfl, Cut3.of (Cut2.past (by omega))⟩
  ·have hq := (all_le b (k + 1)).2.1 _ _ _ _ _ hpl h
   rw [items] at h
   rw [items]
   cases hv : value b k d p with
   | none => simp [hv] at h
   | some ov =>
    cases ov with
    | no x e => simp [hv] at h
    | ok v1 q1 =>
     have hv1 := value_le hv
     simp only [hv] at h
     obtain ⟨o, ho, c1, c2, _⟩ := i1 _ _ _ _ hp hv
     have hq1 : q1 < q := by
      cases hc : comma b 93 q1 with
      | no x e => simp [hc] at h
      | ok t s =>
       have h2 := comma_le hv1.2 hc
       cases t with
       | true => simp only [hc] at h; have := (all_le b k).2.1 _ _ _ _ _ h2.2 h; omega
       | false => simp [hc] at h; omega
     rw [ho]
     by_cases hlt : q1 < c
     ·rw [c1 hlt]
      simp only
      cases hc : comma b 93 q1 with
      | no x e => simp [hc] at h
      | ok t s =>
       have h2 := comma_le hv1.2 hc
       rcases comma_take (c := c) (by omega) hv1.2 hc with ⟨x, hx, hcs⟩ | ⟨hx, hcs⟩
       ·rw [hx]
        refine ⟨_, rfl, Cut2.past ?_⟩
        cases t with
        | true => simp only [hc] at h; have := (all_le b k).2.1 _ _ _ _ _ h2.2 h; omega
        | false => simp [hc] at h; omega
       ·rw [hx]
        cases t with
        | false =>
         simp [hc] at h
         obtain ⟨rfl, rfl⟩ := h
         have := hcs rfl
         simp only
         rw [show min s c = s by omega]
         exact ⟨_, rfl, fun _ => rfl, fun h3 => by omega⟩
        | true =>
         simp only [hc] at h ⊢
         by_cases hsc : s ≤ c
         ·rw [show min s c = s by omega]
          exact i2 _ _ _ _ _ hsc h2.2 h
         ·rw [show min s c = c by omega]
          have hlt2 := (all_le b k).2.1 _ _ _ _ _ h2.2 h
          cases k with
          | zero => simp [items] at h
          | succ k =>
           cases k with
           | zero =>
            rw [items] at h
            simp [value] at h
           | succ k => rw [items, value_past]; exact ⟨_, rfl, Cut2.past (by omega)⟩
     ·rcases c2 (by omega) with ⟨x, e, hx, hee⟩ | ⟨v', hx⟩
      ·rw [hx]
       exact ⟨_, rfl, fun h3 => by omega, fun _ => ⟨x, e, rfl, hee⟩⟩
      ·rw [hx]
       simp only
       have hcm : comma (b.take c) 93 c = .no c 11 := by
        unfold comma
        simp only
        rw [blank_past' (Nat.le_refl _), take_past (Nat.le_refl _)]
       rw [hcm]
       exact ⟨_, rfl, Cut2.past (by omega)⟩
  ·have hq := (all_le b (k + 1)).2.2 _ _ _ _ _ _ hpl h
   rw [pairs] at h
   rw [pairs]
   cases ht : text b k p with
   | none => simp [ht] at h
   | some ot =>
    cases ot with
    | no x e => simp [ht] at h
    | ok key q0 =>
     have hq0 := text_le ht
     have hz := blank_le (b := b) (p := q0) hq0.2
     simp only [ht] at h
     split at h
     ·cases h
     rename_i hks
     cases hx : b[blank b q0]? with
     | none => simp [hx] at h
     | some x =>
      have hzl := at_lt hx
      simp only [hx] at h
      split at h
      rotate_left
      ·cases h
      rename_i h58
      have hz2 := blank_le (b := b) (p := blank b q0 + 1) (by omega)
      cases hv : value b k d (blank b (blank b q0 + 1)) with
      | none => simp [hv] at h
      | some ov =>
       cases ov with
       | no x e => simp [hv] at h
       | ok v1 q1 =>
        have hv1 := value_le hv
        simp only [hv] at h
        have hq1 : q1 < q := by
         cases hc : comma b 125 q1 with
         | no x e => simp [hc] at h
         | ok t s =>
          have h2 := comma_le hv1.2 hc
          cases t with
          | true => simp only [hc] at h; have := (all_le b k).2.2 _ _ _ _ _ _ h2.2 h; omega
          | false => simp [hc] at h; omega
        obtain ⟨o1, ho1, b1, b2⟩ := text_take hp ht
        rw [ho1]
        by_cases hqc : q0 ≤ c
        rotate_left
        ·obtain ⟨x, e, hx2, hee⟩ := b2 (by omega)
         rw [hx2]
         exact ⟨_, rfl, fun h3 => by omega, fun _ => ⟨x, e, rfl, hee⟩⟩
        rw [b1 hqc]
        simp only
        rw [if_neg hks, blank_take hqc]
        by_cases hzc : blank b q0 < c
        rotate_left
        ·rw [show min (blank b q0) c = c by omega, take_past (Nat.le_refl _)]
         exact ⟨_, rfl, Cut2.past (by omega)⟩
        rw [show min (blank b q0) c = blank b q0 by omega, take_at hzc, hx]
        simp only
        rw [if_pos h58, blank_take (by omega)]
        by_cases hz3 : blank b (blank b q0 + 1) < c
        rotate_left
        ·rw [show min (blank b (blank b q0 + 1)) c = c by omega]
         cases k with
         | zero => simp [value] at hv
         | succ k => rw [value_past]; exact ⟨_, rfl, Cut2.past (by omega)⟩
        rw [show min (blank b (blank b q0 + 1)) c = blank b (blank b q0 + 1) by omega]
        obtain ⟨o, ho, c1, c2, _⟩ := i1 _ _ _ _ (by omega) hv
        rw [ho]
        by_cases hlt : q1 < c
        ·rw [c1 hlt]
         simp only
         cases hc : comma b 125 q1 with
         | no x e => simp [hc] at h
         | ok t s =>
          have h2 := comma_le hv1.2 hc
          rcases comma_take (c := c) (by omega) hv1.2 hc with ⟨x, hx, hcs⟩ | ⟨hx, hcs⟩
          ·rw [hx]
           refine ⟨_, rfl, Cut2.past ?_⟩
           cases t with
           | true => simp only [hc] at h; have := (all_le b k).2.2 _ _ _ _ _ _ h2.2 h; omega
           | false => simp [hc] at h; omega
          ·rw [hx]
           cases t with
           | false =>
            simp [hc] at h
            obtain ⟨rfl, rfl⟩ := h
            have := hcs rfl
            simp only
            rw [show min s c = s by omega]
            exact ⟨_, rfl, fun _ => rfl, fun h3 => by omega⟩
           | true =>
            simp only [hc] at h ⊢
            by_cases hsc : s ≤ c
            ·rw [show min s c = s by omega]
             exact i3 _ _ _ _ _ _ hsc h2.2 h
            ·rw [show min s c = c by omega]
             have hlt2 := (all_le b k).2.2 _ _ _ _ _ _ h2.2 h
             cases k with
             | zero => simp [pairs] at h
             | succ k =>
              have hto : text (b.take c) k c = some (.no c 11) := by unfold text; rw [take_past (Nat.le_refl _)]
              rw [pairs, hto]
              exact ⟨_, rfl, Cut2.past (by omega)⟩
        ·rcases c2 (by omega) with ⟨x, e, hx, hee⟩ | ⟨v', hx⟩
         ·rw [hx]
          exact ⟨_, rfl, fun h3 => by omega, fun _ => ⟨x, e, rfl, hee⟩⟩
         ·rw [hx]
          simp only
          have hcm : comma (b.take c) 125 c = .no c 11 := by
           unfold comma
           simp only
           rw [blank_past' (Nat.le_refl _), take_past (Nat.le_refl _)]
          rw [hcm]
          exact ⟨_, rfl, Cut2.past (by omega)⟩
theorem value_cut {k d p q : Nat} {v : Val} (hp : p ≤ c) (h : value b k d p = some (.ok v q)) (hk : vk v ≠ 3) (hc : c < q) : ∃ o, value (b.take c) k d p = some o ∧ Fails o := by
 obtain ⟨o, ho, _, _, h3⟩ := (all_take (b := b) (c := c) k).1 _ _ _ _ hp h
 exact ⟨o, ho, (h3 hk).2 hc⟩
end
end Go.Proofs.Yteighppcdpaekaa.Js
end
section
namespace Go.Proofs.Yteighppcdpaekaa.P
open Go.RowKit Go.Proofs.YteighppcdpaekaaW.PrintWords Go.Proofs.YteighppcdpaekaaW.PrintLast Go.Proofs.YteighppcdpaekaaW.PrintMore
attribute [local go_sem] max2_int min2_int max_two min_two max_three min_three max_four min_four
set_option linter.unusedVariables false
set_option linter.unusedSimpArgs false
def wrL : List S25 := [⟨3, ⟨#[49]⟩, [], []⟩, ⟨3, ⟨#[45, 48, 46, 53, 101, 51]⟩, [], []⟩]
theorem wr_parse1 : json_Parse.f 20 [91, 49, 44, 32, 45, 48, 46, 53, 101, 51, 93] = some (5, ⟨#[]⟩, [], wrL, 0, 0) := by kernel_rfl
theorem wr_parse2 : json_Parse.f 20 [91, 48, 49, 93] = some (0, ⟨#[]⟩, [], [], 2, 6) := by kernel_rfl
theorem wr_print : json_Print.f 30 5 ⟨#[]⟩ [] wrL = some ([91, 49, 44, 45, 48, 46, 53, 101, 51, 93], 0) := by kernel_rfl
theorem lit_C (w : World) (e : TypeId) (xs : List Int) (z : Nat × Nat) (hxl : xs.length ≤ 1000) : Kd.C (Kd.int .u8) (w.alloc (.cells (xs.map (Value.int .u8)).toArray e z)) (some ⟨w.heap.size, 0, none⟩) xs.length xs := by
 have hb := blk_new w (.cells (xs.map (Value.int .u8)).toArray e z)
 refine Kd.C_of_reads (enc := Value.int .u8) (d := (0 : Int)) (h1 := fun _ => rfl) ⟨rfl, by omega, fun hn => ⟨_, rfl, fun j hj => ?_⟩⟩
 have ha : (⟨w.heap.size, 0, none⟩ : Addr).add j = ⟨w.heap.size, j, none⟩ := by
  unfold Addr.add
  split
  ·rename_i h0; rw [h0]
  ·simp
 rw [ha]
 simp only [World.cell?, hb]
 simp [List.getD_eq_getElem?_getD, List.getElem?_eq_getElem hj]
def whetstonelaw04_written.f (k : Nat) : Option Bool := some true
set_option maxHeartbeats 1600000 in
set_option maxRecDepth 100000 in
theorem whetstonelaw04_written.calls (k : Nat) (r : Bool) (w : World) (h : whetstonelaw04_written.f k = some r) :
  Calls Try.prog 6 #[] w fun e w' => e = .returned (.bool r) ∧ Below w.heap.size w w' := by
 obtain rfl : true = r := Option.some.inj h
 have kc := fun (w : World) (C : Array Value) (n c : Nat) => Lib.run_convert_bytes_const (P := Try.prog) w 28 5 C n c Try.underlying28 Try.underlying5
 go_enter Try.func6, Try.ntmps6
 go_wp2_with fail
 refine (json_Parse.calls 20 _ _ [91, 49, 44, 32, 45, 48, 46, 53, 101, 51, 93] 5 ⟨#[]⟩ [] wrL 0 0 _ (lit_C w 5 [91, 49, 44, 32, 45, 48, 46, 53, 101, 51, 93] (11, 12) (by decide)) (by decide) wr_parse1).mono ?_
 rintro e1 w1 ⟨v2, v3, rfl, h2, h3, hB1⟩
 obtain ⟨A2, c2, rfl, l2, r2⟩ := Kd.R_reads h2
 obtain ⟨A3, c3, rfl, l3, r3⟩ := Kd.R_reads h3
 go_wp2_with fail
 refine (json_Print.calls 30 5 ⟨#[]⟩ A2 c2 [] A3 c3 wrL _ 0 _ (Kd.C_alloc r2 _) l2 (Kd.C_alloc r3 _) l3 wr_print).mono ?_
 rintro e2 w2 ⟨v0, rfl, h0, hB2⟩
 obtain ⟨A0, c0, rfl, l0, r0⟩ := Kd.R_reads h0
 go_wp2_with fail
 refine (json_Parse.calls 20 _ _ [91, 48, 49, 93] 0 ⟨#[]⟩ [] [] 2 6 _ (lit_C w2 5 [91, 48, 49, 93] (4, 5) (by decide)) (by decide) wr_parse2).mono ?_
 rintro e3 w3 ⟨u2, u3, rfl, g2, g3, hB3⟩
 obtain ⟨D2, d2, rfl, _, _⟩ := Kd.R_reads g2
 obtain ⟨D3, d3, rfl, _, _⟩ := Kd.R_reads g3
 have r0' := Kd.C_below (Kd.C_alloc r0 _) hB3
 have hst : ∀ o, (convert 28 9 (.slice A0 10 c0)).run Try.prog (w3.alloc o) = .ok (.string ⟨#[91, 49, 44, 45, 48, 46, 53, 101, 51, 93]⟩) (w3.alloc o) := fun o => (show strOfNums [91, 49, 44, 45, 48, 46, 53, 101, 51, 93] = ⟨#[91, 49, 44, 45, 48, 46, 53, 101, 51, 93]⟩ from by kernel_rfl) ▸ Kd.C_string Try.underlying28 Try.underlying5 Try.underlying9 (Kd.C_alloc r0' o)
 go_wp2_with fail
 go_ret
 exact ⟨rfl, below_alloc (below_step (below_alloc (below_step (below_alloc (below_step (below_alloc (Below.refl _ _) _) hB1) _) hB2) _) hB3) _⟩
end Go.Proofs.Yteighppcdpaekaa.P
end
section
namespace Go.Proofs.Yteighppcdpaekaa.P
open Go.RowKit Go.Proofs.YteighppcdpaekaaW.PrintWords Go.Proofs.YteighppcdpaekaaW.PrintLast Go.Proofs.YteighppcdpaekaaW.PrintMore
attribute [local go_sem] max2_int min2_int max_two min_two max_three min_three max_four min_four
set_option linter.unusedVariables false
set_option linter.unusedSimpArgs false
def whetstonelaw04_JsonCuts.j0 : Nat → Int → Bool → Int → ByteArray → List ByteArray → List (S25) → Option (Bool)
 | 0, _, _, _, _, _, _ => none
 | k + 1, x1, x31, x325000, x325001, x325002, x325003 => if x31 = true then ((whetstonelaw04_written.f k).bind fun t327 => (some t327)) else ((json_Print.f k x325000 x325001 x325002 x325003).bind fun bt328 => (if bt328.2 = 0 then (if (IntKind.u64.wrap ((bt328.1.length : Int))) = 0 then (none) else (if 0 ≤ (wrap64 (Int.tmod (IntKind.u64.wrap (x1)) (IntKind.u64.wrap ((bt328.1.length : Int))))) then (if (wrap64 (Int.tmod (IntKind.u64.wrap (x1)) (IntKind.u64.wrap ((bt328.1.length : Int))))) ≤ (bt328.1.length : Int) then ((json_Parse.f k (bt328.1.take ((wrap64 (Int.tmod (IntKind.u64.wrap (x1)) (IntKind.u64.wrap ((bt328.1.length : Int))))) : Int).toNat)).bind fun bt336 => (if bt336.2.2.2.2.2 = 11 then (some true) else (if bt336.2.2.2.2.2 = 10 then (some true) else (some (bt336.2.2.2.2.2 == 6))))) else (none)) else (none))) else (some true)))
def whetstonelaw04_JsonCuts.f (k : Nat) (a0_0 : Int) (a0_1 : ByteArray) (l0_2 : List ByteArray) (l0_3 : List (S25)) (a1 : Int) : Option (Bool) := (whetstonelaw04_written.f k).bind fun t325 => (if t325 = true then ((whetstonelaw04_few.f k a0_0 a0_1 l0_2 l0_3).bind fun t326 => (if t326 = true then (if a0_0 = 5 then (whetstonelaw04_JsonCuts.j0 k a1 false a0_0 a0_1 l0_2 l0_3) else (if a0_0 = 6 then (whetstonelaw04_JsonCuts.j0 k a1 false a0_0 a0_1 l0_2 l0_3) else (whetstonelaw04_JsonCuts.j0 k a1 (a0_0 != 4) a0_0 a0_1 l0_2 l0_3))) else (whetstonelaw04_JsonCuts.j0 k a1 true a0_0 a0_1 l0_2 l0_3))) else (whetstonelaw04_JsonCuts.j0 k a1 true a0_0 a0_1 l0_2 l0_3))
set_option maxHeartbeats 8000000 in
set_option maxRecDepth 100000 in
theorem whetstonelaw04_JsonCuts.calls (k : Nat) (a0_0 : Int) (a0_1 : ByteArray) (A0_2 : Option Addr) (c0_2 : Nat) (l0_2 : List ByteArray) (A0_3 : Option Addr) (c0_3 : Nat) (l0_3 : List (S25)) (a1 : Int) (r : Bool) (w : World) (hr0_2 : Kd.C Kd.string w A0_2 l0_2.length l0_2) (hc0_2 : l0_2.length ≤ c0_2) (hr0_3 : Kd.C k25 w A0_3 l0_3.length l0_3) (hc0_3 : l0_3.length ≤ c0_3) (h : whetstonelaw04_JsonCuts.f k a0_0 a0_1 l0_2 l0_3 a1 = some r) :
  Calls Try.prog 3 #[.agg #[.int .i64 a0_0, .string a0_1, .slice A0_2 l0_2.length c0_2, .slice A0_3 l0_3.length c0_3], .int .i64 a1] w fun e w' => e = .returned (.bool r) ∧ Below w.heap.size w w' := by
 have hu25 := Try.underlying25
 have HR0_2 := Aside0.mk hr0_2
 have HC0_2 := Aside0.mk hc0_2
 clear hr0_2 hc0_2
 have HR0_3 := Aside0.mk hr0_3
 have HC0_3 := Aside0.mk hc0_3
 clear hr0_3 hc0_3
 have HB := Aside0.mk (Below.refl w.heap.size w)
 have H : ((whetstonelaw04_written.f k).bind fun t325 => (if t325 = true then ((whetstonelaw04_few.f k a0_0 a0_1 l0_2 l0_3).bind fun t326 => (if t326 = true then (if a0_0 = 5 then (whetstonelaw04_JsonCuts.j0 k a1 false a0_0 a0_1 l0_2 l0_3) else (if a0_0 = 6 then (whetstonelaw04_JsonCuts.j0 k a1 false a0_0 a0_1 l0_2 l0_3) else (whetstonelaw04_JsonCuts.j0 k a1 (a0_0 != 4) a0_0 a0_1 l0_2 l0_3))) else (whetstonelaw04_JsonCuts.j0 k a1 true a0_0 a0_1 l0_2 l0_3))) else (whetstonelaw04_JsonCuts.j0 k a1 true a0_0 a0_1 l0_2 l0_3))) = some r := h
 clear h
 have HC3 := Aside0.mk H
 clear H
 go_enter Try.func3, Try.ntmps3
 go_upto_region 1 with (first | ((with_reducible refine gate_dst (N := 2) rfl ?_); refine box_event ?hg (N := 2) ?hd (cs := #[.int .i64 a0_0, .string a0_1, .slice A0_2 l0_2.length c0_2, .slice A0_3 l0_3.length c0_3]) (t := 25) ?hr ?_; (case hd => rfl); (case hg => rfl); (case hr => first | (go_simp; done) | (go_simp; rfl)); intro gb324 hg w4 hbox hb; have n0_ := Aside0.mk (below_step (by repeat (first | (with_reducible first | exact HB.out | apply below_alloc | apply pw_below_drewN | apply below_drew1) | exact HB.out)) hb); have n1_ := Aside0.mk (hbox); have n2_ := Aside0.mk ((by rw [hg]; exact (below_size (by repeat (first | (with_reducible first | exact HB.out | apply below_alloc | apply pw_below_drewN | apply below_drew1) | exact HB.out))) : w.heap.size ≤ gb324)); have n3_ := Aside0.mk ((by rw [hg]; exact (below_size (by repeat (first | (with_reducible first | exact HB.out | apply below_alloc | apply pw_below_drewN | apply below_drew1) | exact HB.out))) : w.heap.size ≤ gb324)); clear HB; have HB := n0_; have BK324 := n1_; have GW324 := n2_; have GE324 := n3_; clear n0_ n1_ n2_ n3_; clear hb hbox hg))
 (try simp only [Act.put, List.setIfInBounds_toArray, List.set_cons_zero, List.set_cons_succ])
 go_cut [31] (fun v31 wc => ∃ (kq : Nat) (x31_2 : Bool), v31 = .bool x31_2 ∧ Aside0 (whetstonelaw04_JsonCuts.j0 kq a1 x31_2 a0_0 a0_1 l0_2 l0_3 = some r) ∧ Aside0 (kq ≤ k) ∧ Aside0 (wc.heap[gb324]? = some (.cells #[.int .i64 a0_0, .string a0_1, (.slice A0_2 l0_2.length c0_2), (.slice A0_3 l0_3.length c0_3)] 25 (0, 0))) ∧ Aside0 (Below w.heap.size w wc))
 case first =>
  have H := HC3.out
  clear HC3
  replace H := Option.bind_eq_some_iff.mp H
  obtain ⟨t325, A50, H⟩ := H
  replace H : (if t325 = true then ((whetstonelaw04_few.f k a0_0 a0_1 l0_2 l0_3).bind fun t326 => (if t326 = true then (if a0_0 = 5 then (whetstonelaw04_JsonCuts.j0 k a1 false a0_0 a0_1 l0_2 l0_3) else (if a0_0 = 6 then (whetstonelaw04_JsonCuts.j0 k a1 false a0_0 a0_1 l0_2 l0_3) else (whetstonelaw04_JsonCuts.j0 k a1 (a0_0 != 4) a0_0 a0_1 l0_2 l0_3))) else (whetstonelaw04_JsonCuts.j0 k a1 true a0_0 a0_1 l0_2 l0_3))) else (whetstonelaw04_JsonCuts.j0 k a1 true a0_0 a0_1 l0_2 l0_3)) = some r := H
  have A5 := Aside0.mk A50
  clear A50
  by_cases c6 : t325 = true
  ·subst c6
   have H1 : ((whetstonelaw04_few.f k a0_0 a0_1 l0_2 l0_3).bind fun t326 => (if t326 = true then (if a0_0 = 5 then (whetstonelaw04_JsonCuts.j0 k a1 false a0_0 a0_1 l0_2 l0_3) else (if a0_0 = 6 then (whetstonelaw04_JsonCuts.j0 k a1 false a0_0 a0_1 l0_2 l0_3) else (whetstonelaw04_JsonCuts.j0 k a1 (a0_0 != 4) a0_0 a0_1 l0_2 l0_3))) else (whetstonelaw04_JsonCuts.j0 k a1 true a0_0 a0_1 l0_2 l0_3))) = some r := by rw [if_pos rfl] at H; exact H
   clear H
   have H := H1
   clear H1
   replace H := Option.bind_eq_some_iff.mp H
   obtain ⟨t326, A70, H⟩ := H
   replace H : (if t326 = true then (if a0_0 = 5 then (whetstonelaw04_JsonCuts.j0 k a1 false a0_0 a0_1 l0_2 l0_3) else (if a0_0 = 6 then (whetstonelaw04_JsonCuts.j0 k a1 false a0_0 a0_1 l0_2 l0_3) else (whetstonelaw04_JsonCuts.j0 k a1 (a0_0 != 4) a0_0 a0_1 l0_2 l0_3))) else (whetstonelaw04_JsonCuts.j0 k a1 true a0_0 a0_1 l0_2 l0_3)) = some r := H
   have A7 := Aside0.mk A70
   clear A70
   by_cases c8 : t326 = true
   ·subst c8
    have H1 : (if a0_0 = 5 then (whetstonelaw04_JsonCuts.j0 k a1 false a0_0 a0_1 l0_2 l0_3) else (if a0_0 = 6 then (whetstonelaw04_JsonCuts.j0 k a1 false a0_0 a0_1 l0_2 l0_3) else (whetstonelaw04_JsonCuts.j0 k a1 (a0_0 != 4) a0_0 a0_1 l0_2 l0_3))) = some r := by rw [if_pos rfl] at H; exact H
    clear H
    have H := H1
    clear H1
    by_cases c9 : a0_0 = 5
    ·rw [if_pos c9] at H
     have c9b0 : (a0_0 == 5) = true := beq_iff_eq.mpr c9
     have c9b1 : (a0_0 != 5) = false := bne_eq_false_iff_eq.mpr c9
     clear c9
     (first | rw [c9b0] | (simp only [i64_w, i32_w]; rw [c9b0]) | skip)
     have H' := Aside0.mk H
     clear H
     go_wp2_with (first | ((with_reducible refine gate_callee (f := 6) rfl ?_); refine goesL_ (some 10) rfl rfl Try.func6 (by kernel_rfl) rfl #[] rfl (by (try simp only [List.map_toArray, List.map_cons, List.map_nil]); first | done | rfl | (simp only [List.length_drop, List.length_take]; rfl)) ?_; (with_reducible refine (whetstonelaw04_written.calls k  true _ A5.out).mono ?_); rintro e w10 ⟨rfl, hb⟩; refine ⟨_, rfl, ?_⟩; have n0_ := Aside0.mk (blk_below (g := gb324) (o := .cells #[.int .i64 a0_0, .string a0_1, .slice A0_2 l0_2.length c0_2, .slice A0_3 l0_3.length c0_3] 25 (0, 0)) (by (with_reducible repeat (first | refine blk_drewN ?_ _ | refine blk_drew ?_ | refine blk_alloc ?_ _)); exact BK324.out) hb); have n1_ := Aside0.mk (below_step (by repeat (first | (with_reducible first | exact HB.out | apply below_alloc | apply pw_below_drewN | apply below_drew1 | refine below_set ?_ GE324.out) | exact HB.out)) hb); clear BK324; clear HB; have BK324 := n0_; have HB := n1_; clear n0_ n1_; (try clear hb); (try clear hb2); (try clear hk); (try clear hi); have hcz11_0 : w10.cell? ⟨gb324, 0, none⟩ = some (.int .i64 a0_0) := (blk_cell BK324.out 0).trans rfl; have hcz11_1 : w10.cell? ⟨gb324, 1, none⟩ = some (.string a0_1) := (blk_cell BK324.out 1).trans rfl; have hcz11_2 : w10.cell? ⟨gb324, 2, none⟩ = some (.slice A0_2 l0_2.length c0_2) := (blk_cell BK324.out 2).trans rfl; have hcz11_3 : w10.cell? ⟨gb324, 3, none⟩ = some (.slice A0_3 l0_3.length c0_3) := (blk_cell BK324.out 3).trans rfl; have hfz11_0 := blk_frozen BK324.out 0; have hfz11_1 := blk_frozen BK324.out 1; have hfz11_2 := blk_frozen BK324.out 2; have hfz11_3 := blk_frozen BK324.out 3) | (go_at_call 7; (with_reducible refine (whetstonelaw04_few.calls k a0_0 a0_1 _ _ l0_2 _ _ l0_3 true _ ?side1 ?side2 ?side3 ?side4 A7.out).mono ?_); (case side1 => repeat (first | exact (Kd.C_below HR0_2.out HB.out) | (with_reducible refine Kd.C_alloc ?_ _) | (with_reducible refine Kd.C_drewN ?_ _) | (with_reducible refine Kd.C_drew ?_))); (case side2 => exact HC0_2.out); (case side3 => repeat (first | exact (Kd.C_below HR0_3.out HB.out) | (with_reducible refine Kd.C_alloc ?_ _) | (with_reducible refine Kd.C_drewN ?_ _) | (with_reducible refine Kd.C_drew ?_))); (case side4 => exact HC0_3.out); rintro e w12 ⟨rfl, hb⟩; have n0_ := Aside0.mk (blk_below (g := gb324) (o := .cells #[.int .i64 a0_0, .string a0_1, .slice A0_2 l0_2.length c0_2, .slice A0_3 l0_3.length c0_3] 25 (0, 0)) (by (with_reducible repeat (first | refine blk_drewN ?_ _ | refine blk_drew ?_ | refine blk_alloc ?_ _)); exact BK324.out) hb); have n1_ := Aside0.mk (below_step (by repeat (first | (with_reducible first | exact HB.out | apply below_alloc | apply pw_below_drewN | apply below_drew1 | refine below_set ?_ GE324.out) | exact HB.out)) hb); clear BK324; clear HB; have BK324 := n0_; have HB := n1_; clear n0_ n1_; (try clear hb); (try clear hb2); (try clear hk); (try clear hi); have hcz13_0 : w12.cell? ⟨gb324, 0, none⟩ = some (.int .i64 a0_0) := (blk_cell BK324.out 0).trans rfl; have hcz13_1 : w12.cell? ⟨gb324, 1, none⟩ = some (.string a0_1) := (blk_cell BK324.out 1).trans rfl; have hcz13_2 : w12.cell? ⟨gb324, 2, none⟩ = some (.slice A0_2 l0_2.length c0_2) := (blk_cell BK324.out 2).trans rfl; have hcz13_3 : w12.cell? ⟨gb324, 3, none⟩ = some (.slice A0_3 l0_3.length c0_3) := (blk_cell BK324.out 3).trans rfl; have hfz13_0 := blk_frozen BK324.out 0; have hfz13_1 := blk_frozen BK324.out 1; have hfz13_2 := blk_frozen BK324.out 2; have hfz13_3 := blk_frozen BK324.out 3))
     go_meet
     case rel => exact ⟨_, (false), (by first | rfl | (simp; done) | (simp [*]; done)), H', ⟨by first | omega | exact Nat.le_refl _⟩, ⟨by (with_reducible repeat (first | refine blk_drewN ?_ _ | refine blk_drew ?_ | refine blk_alloc ?_ _)); exact BK324.out⟩, ⟨by repeat (first | (with_reducible first | exact HB.out | apply below_alloc | apply pw_below_drewN | apply below_drew1 | refine below_set ?_ GE324.out) | exact HB.out)⟩⟩
    ·rw [if_neg c9] at H
     have c9b0 : (a0_0 == 5) = false := beq_eq_false_iff_ne.mpr c9
     have c9b1 : (a0_0 != 5) = true := bne_iff_ne.mpr c9
     (first | rw [c9b0] | (simp only [i64_w, i32_w]; rw [c9b0]) | skip)
     by_cases c14 : a0_0 = 6
     ·rw [if_pos c14] at H
      have c14b0 : (a0_0 == 6) = true := beq_iff_eq.mpr c14
      have c14b1 : (a0_0 != 6) = false := bne_eq_false_iff_eq.mpr c14
      clear c14
      have H' := Aside0.mk H
      clear H
      go_wp2_with (first | ((with_reducible refine gate_callee (f := 6) rfl ?_); refine goesL_ (some 10) rfl rfl Try.func6 (by kernel_rfl) rfl #[] rfl (by (try simp only [List.map_toArray, List.map_cons, List.map_nil]); first | done | rfl | (simp only [List.length_drop, List.length_take]; rfl)) ?_; (with_reducible refine (whetstonelaw04_written.calls k  true _ A5.out).mono ?_); rintro e w15 ⟨rfl, hb⟩; refine ⟨_, rfl, ?_⟩; have n0_ := Aside0.mk (blk_below (g := gb324) (o := .cells #[.int .i64 a0_0, .string a0_1, .slice A0_2 l0_2.length c0_2, .slice A0_3 l0_3.length c0_3] 25 (0, 0)) (by (with_reducible repeat (first | refine blk_drewN ?_ _ | refine blk_drew ?_ | refine blk_alloc ?_ _)); exact BK324.out) hb); have n1_ := Aside0.mk (below_step (by repeat (first | (with_reducible first | exact HB.out | apply below_alloc | apply pw_below_drewN | apply below_drew1 | refine below_set ?_ GE324.out) | exact HB.out)) hb); clear BK324; clear HB; have BK324 := n0_; have HB := n1_; clear n0_ n1_; (try clear hb); (try clear hb2); (try clear hk); (try clear hi); have hcz16_0 : w15.cell? ⟨gb324, 0, none⟩ = some (.int .i64 a0_0) := (blk_cell BK324.out 0).trans rfl; have hcz16_1 : w15.cell? ⟨gb324, 1, none⟩ = some (.string a0_1) := (blk_cell BK324.out 1).trans rfl; have hcz16_2 : w15.cell? ⟨gb324, 2, none⟩ = some (.slice A0_2 l0_2.length c0_2) := (blk_cell BK324.out 2).trans rfl; have hcz16_3 : w15.cell? ⟨gb324, 3, none⟩ = some (.slice A0_3 l0_3.length c0_3) := (blk_cell BK324.out 3).trans rfl; have hfz16_0 := blk_frozen BK324.out 0; have hfz16_1 := blk_frozen BK324.out 1; have hfz16_2 := blk_frozen BK324.out 2; have hfz16_3 := blk_frozen BK324.out 3) | (go_at_call 7; (with_reducible refine (whetstonelaw04_few.calls k a0_0 a0_1 _ _ l0_2 _ _ l0_3 true _ ?side1 ?side2 ?side3 ?side4 A7.out).mono ?_); (case side1 => repeat (first | exact (Kd.C_below HR0_2.out HB.out) | (with_reducible refine Kd.C_alloc ?_ _) | (with_reducible refine Kd.C_drewN ?_ _) | (with_reducible refine Kd.C_drew ?_))); (case side2 => exact HC0_2.out); (case side3 => repeat (first | exact (Kd.C_below HR0_3.out HB.out) | (with_reducible refine Kd.C_alloc ?_ _) | (with_reducible refine Kd.C_drewN ?_ _) | (with_reducible refine Kd.C_drew ?_))); (case side4 => exact HC0_3.out); rintro e w17 ⟨rfl, hb⟩; have n0_ := Aside0.mk (blk_below (g := gb324) (o := .cells #[.int .i64 a0_0, .string a0_1, .slice A0_2 l0_2.length c0_2, .slice A0_3 l0_3.length c0_3] 25 (0, 0)) (by (with_reducible repeat (first | refine blk_drewN ?_ _ | refine blk_drew ?_ | refine blk_alloc ?_ _)); exact BK324.out) hb); have n1_ := Aside0.mk (below_step (by repeat (first | (with_reducible first | exact HB.out | apply below_alloc | apply pw_below_drewN | apply below_drew1 | refine below_set ?_ GE324.out) | exact HB.out)) hb); clear BK324; clear HB; have BK324 := n0_; have HB := n1_; clear n0_ n1_; (try clear hb); (try clear hb2); (try clear hk); (try clear hi); have hcz18_0 : w17.cell? ⟨gb324, 0, none⟩ = some (.int .i64 a0_0) := (blk_cell BK324.out 0).trans rfl; have hcz18_1 : w17.cell? ⟨gb324, 1, none⟩ = some (.string a0_1) := (blk_cell BK324.out 1).trans rfl; have hcz18_2 : w17.cell? ⟨gb324, 2, none⟩ = some (.slice A0_2 l0_2.length c0_2) := (blk_cell BK324.out 2).trans rfl; have hcz18_3 : w17.cell? ⟨gb324, 3, none⟩ = some (.slice A0_3 l0_3.length c0_3) := (blk_cell BK324.out 3).trans rfl; have hfz18_0 := blk_frozen BK324.out 0; have hfz18_1 := blk_frozen BK324.out 1; have hfz18_2 := blk_frozen BK324.out 2; have hfz18_3 := blk_frozen BK324.out 3))
      go_meet
      case rel => exact ⟨_, (false), (by first | rfl | (simp; done) | (simp [*]; done)), H', ⟨by first | omega | exact Nat.le_refl _⟩, ⟨by (with_reducible repeat (first | refine blk_drewN ?_ _ | refine blk_drew ?_ | refine blk_alloc ?_ _)); exact BK324.out⟩, ⟨by repeat (first | (with_reducible first | exact HB.out | apply below_alloc | apply pw_below_drewN | apply below_drew1 | refine below_set ?_ GE324.out) | exact HB.out)⟩⟩
     ·rw [if_neg c14] at H
      have c14b0 : (a0_0 == 6) = false := beq_eq_false_iff_ne.mpr c14
      have c14b1 : (a0_0 != 6) = true := bne_iff_ne.mpr c14
      have H' := Aside0.mk H
      clear H
      go_wp2_with (first | ((with_reducible refine gate_callee (f := 6) rfl ?_); refine goesL_ (some 10) rfl rfl Try.func6 (by kernel_rfl) rfl #[] rfl (by (try simp only [List.map_toArray, List.map_cons, List.map_nil]); first | done | rfl | (simp only [List.length_drop, List.length_take]; rfl)) ?_; (with_reducible refine (whetstonelaw04_written.calls k  true _ A5.out).mono ?_); rintro e w19 ⟨rfl, hb⟩; refine ⟨_, rfl, ?_⟩; have n0_ := Aside0.mk (blk_below (g := gb324) (o := .cells #[.int .i64 a0_0, .string a0_1, .slice A0_2 l0_2.length c0_2, .slice A0_3 l0_3.length c0_3] 25 (0, 0)) (by (with_reducible repeat (first | refine blk_drewN ?_ _ | refine blk_drew ?_ | refine blk_alloc ?_ _)); exact BK324.out) hb); have n1_ := Aside0.mk (below_step (by repeat (first | (with_reducible first | exact HB.out | apply below_alloc | apply pw_below_drewN | apply below_drew1 | refine below_set ?_ GE324.out) | exact HB.out)) hb); clear BK324; clear HB; have BK324 := n0_; have HB := n1_; clear n0_ n1_; (try clear hb); (try clear hb2); (try clear hk); (try clear hi); have hcz20_0 : w19.cell? ⟨gb324, 0, none⟩ = some (.int .i64 a0_0) := (blk_cell BK324.out 0).trans rfl; have hcz20_1 : w19.cell? ⟨gb324, 1, none⟩ = some (.string a0_1) := (blk_cell BK324.out 1).trans rfl; have hcz20_2 : w19.cell? ⟨gb324, 2, none⟩ = some (.slice A0_2 l0_2.length c0_2) := (blk_cell BK324.out 2).trans rfl; have hcz20_3 : w19.cell? ⟨gb324, 3, none⟩ = some (.slice A0_3 l0_3.length c0_3) := (blk_cell BK324.out 3).trans rfl; have hfz20_0 := blk_frozen BK324.out 0; have hfz20_1 := blk_frozen BK324.out 1; have hfz20_2 := blk_frozen BK324.out 2; have hfz20_3 := blk_frozen BK324.out 3) | (go_at_call 7; (with_reducible refine (whetstonelaw04_few.calls k a0_0 a0_1 _ _ l0_2 _ _ l0_3 true _ ?side1 ?side2 ?side3 ?side4 A7.out).mono ?_); (case side1 => repeat (first | exact (Kd.C_below HR0_2.out HB.out) | (with_reducible refine Kd.C_alloc ?_ _) | (with_reducible refine Kd.C_drewN ?_ _) | (with_reducible refine Kd.C_drew ?_))); (case side2 => exact HC0_2.out); (case side3 => repeat (first | exact (Kd.C_below HR0_3.out HB.out) | (with_reducible refine Kd.C_alloc ?_ _) | (with_reducible refine Kd.C_drewN ?_ _) | (with_reducible refine Kd.C_drew ?_))); (case side4 => exact HC0_3.out); rintro e w21 ⟨rfl, hb⟩; have n0_ := Aside0.mk (blk_below (g := gb324) (o := .cells #[.int .i64 a0_0, .string a0_1, .slice A0_2 l0_2.length c0_2, .slice A0_3 l0_3.length c0_3] 25 (0, 0)) (by (with_reducible repeat (first | refine blk_drewN ?_ _ | refine blk_drew ?_ | refine blk_alloc ?_ _)); exact BK324.out) hb); have n1_ := Aside0.mk (below_step (by repeat (first | (with_reducible first | exact HB.out | apply below_alloc | apply pw_below_drewN | apply below_drew1 | refine below_set ?_ GE324.out) | exact HB.out)) hb); clear BK324; clear HB; have BK324 := n0_; have HB := n1_; clear n0_ n1_; (try clear hb); (try clear hb2); (try clear hk); (try clear hi); have hcz22_0 : w21.cell? ⟨gb324, 0, none⟩ = some (.int .i64 a0_0) := (blk_cell BK324.out 0).trans rfl; have hcz22_1 : w21.cell? ⟨gb324, 1, none⟩ = some (.string a0_1) := (blk_cell BK324.out 1).trans rfl; have hcz22_2 : w21.cell? ⟨gb324, 2, none⟩ = some (.slice A0_2 l0_2.length c0_2) := (blk_cell BK324.out 2).trans rfl; have hcz22_3 : w21.cell? ⟨gb324, 3, none⟩ = some (.slice A0_3 l0_3.length c0_3) := (blk_cell BK324.out 3).trans rfl; have hfz22_0 := blk_frozen BK324.out 0; have hfz22_1 := blk_frozen BK324.out 1; have hfz22_2 := blk_frozen BK324.out 2; have hfz22_3 := blk_frozen BK324.out 3))
      go_meet
      case rel => exact ⟨_, ((a0_0 != 4)), (by first | rfl | (simp; done) | (simp [*]; done)), H', ⟨by first | omega | exact Nat.le_refl _⟩, ⟨by (with_reducible repeat (first | refine blk_drewN ?_ _ | refine blk_drew ?_ | refine blk_alloc ?_ _)); exact BK324.out⟩, ⟨by repeat (first | (with_reducible first | exact HB.out | apply below_alloc | apply pw_below_drewN | apply below_drew1 | refine below_set ?_ GE324.out) | exact HB.out)⟩⟩
   ·replace c8 := Bool.eq_false_iff.mpr c8
    subst c8
    have H1 : (whetstonelaw04_JsonCuts.j0 k a1 true a0_0 a0_1 l0_2 l0_3) = some r := by rw [if_neg (show ¬ (false = true) by decide)] at H; exact H
    clear H
    have H := H1
    clear H1
    have H' := Aside0.mk H
    clear H
    go_wp2_with (first | ((with_reducible refine gate_callee (f := 6) rfl ?_); refine goesL_ (some 10) rfl rfl Try.func6 (by kernel_rfl) rfl #[] rfl (by (try simp only [List.map_toArray, List.map_cons, List.map_nil]); first | done | rfl | (simp only [List.length_drop, List.length_take]; rfl)) ?_; (with_reducible refine (whetstonelaw04_written.calls k  true _ A5.out).mono ?_); rintro e w23 ⟨rfl, hb⟩; refine ⟨_, rfl, ?_⟩; have n0_ := Aside0.mk (blk_below (g := gb324) (o := .cells #[.int .i64 a0_0, .string a0_1, .slice A0_2 l0_2.length c0_2, .slice A0_3 l0_3.length c0_3] 25 (0, 0)) (by (with_reducible repeat (first | refine blk_drewN ?_ _ | refine blk_drew ?_ | refine blk_alloc ?_ _)); exact BK324.out) hb); have n1_ := Aside0.mk (below_step (by repeat (first | (with_reducible first | exact HB.out | apply below_alloc | apply pw_below_drewN | apply below_drew1 | refine below_set ?_ GE324.out) | exact HB.out)) hb); clear BK324; clear HB; have BK324 := n0_; have HB := n1_; clear n0_ n1_; (try clear hb); (try clear hb2); (try clear hk); (try clear hi); have hcz24_0 : w23.cell? ⟨gb324, 0, none⟩ = some (.int .i64 a0_0) := (blk_cell BK324.out 0).trans rfl; have hcz24_1 : w23.cell? ⟨gb324, 1, none⟩ = some (.string a0_1) := (blk_cell BK324.out 1).trans rfl; have hcz24_2 : w23.cell? ⟨gb324, 2, none⟩ = some (.slice A0_2 l0_2.length c0_2) := (blk_cell BK324.out 2).trans rfl; have hcz24_3 : w23.cell? ⟨gb324, 3, none⟩ = some (.slice A0_3 l0_3.length c0_3) := (blk_cell BK324.out 3).trans rfl; have hfz24_0 := blk_frozen BK324.out 0; have hfz24_1 := blk_frozen BK324.out 1; have hfz24_2 := blk_frozen BK324.out 2; have hfz24_3 := blk_frozen BK324.out 3) | (go_at_call 7; (with_reducible refine (whetstonelaw04_few.calls k a0_0 a0_1 _ _ l0_2 _ _ l0_3 false _ ?side1 ?side2 ?side3 ?side4 A7.out).mono ?_); (case side1 => repeat (first | exact (Kd.C_below HR0_2.out HB.out) | (with_reducible refine Kd.C_alloc ?_ _) | (with_reducible refine Kd.C_drewN ?_ _) | (with_reducible refine Kd.C_drew ?_))); (case side2 => exact HC0_2.out); (case side3 => repeat (first | exact (Kd.C_below HR0_3.out HB.out) | (with_reducible refine Kd.C_alloc ?_ _) | (with_reducible refine Kd.C_drewN ?_ _) | (with_reducible refine Kd.C_drew ?_))); (case side4 => exact HC0_3.out); rintro e w25 ⟨rfl, hb⟩; have n0_ := Aside0.mk (blk_below (g := gb324) (o := .cells #[.int .i64 a0_0, .string a0_1, .slice A0_2 l0_2.length c0_2, .slice A0_3 l0_3.length c0_3] 25 (0, 0)) (by (with_reducible repeat (first | refine blk_drewN ?_ _ | refine blk_drew ?_ | refine blk_alloc ?_ _)); exact BK324.out) hb); have n1_ := Aside0.mk (below_step (by repeat (first | (with_reducible first | exact HB.out | apply below_alloc | apply pw_below_drewN | apply below_drew1 | refine below_set ?_ GE324.out) | exact HB.out)) hb); clear BK324; clear HB; have BK324 := n0_; have HB := n1_; clear n0_ n1_; (try clear hb); (try clear hb2); (try clear hk); (try clear hi)))
    go_meet
    case rel => exact ⟨_, (true), (by first | rfl | (simp; done) | (simp [*]; done)), H', ⟨by first | omega | exact Nat.le_refl _⟩, ⟨by (with_reducible repeat (first | refine blk_drewN ?_ _ | refine blk_drew ?_ | refine blk_alloc ?_ _)); exact BK324.out⟩, ⟨by repeat (first | (with_reducible first | exact HB.out | apply below_alloc | apply pw_below_drewN | apply below_drew1 | refine below_set ?_ GE324.out) | exact HB.out)⟩⟩
  ·replace c6 := Bool.eq_false_iff.mpr c6
   subst c6
   have H1 : (whetstonelaw04_JsonCuts.j0 k a1 true a0_0 a0_1 l0_2 l0_3) = some r := by rw [if_neg (show ¬ (false = true) by decide)] at H; exact H
   clear H
   have H := H1
   clear H1
   have H' := Aside0.mk H
   clear H
   go_wp2_with (first | ((with_reducible refine gate_callee (f := 6) rfl ?_); refine goesL_ (some 10) rfl rfl Try.func6 (by kernel_rfl) rfl #[] rfl (by (try simp only [List.map_toArray, List.map_cons, List.map_nil]); first | done | rfl | (simp only [List.length_drop, List.length_take]; rfl)) ?_; (with_reducible refine (whetstonelaw04_written.calls k  false _ A5.out).mono ?_); rintro e w26 ⟨rfl, hb⟩; refine ⟨_, rfl, ?_⟩; have n0_ := Aside0.mk (blk_below (g := gb324) (o := .cells #[.int .i64 a0_0, .string a0_1, .slice A0_2 l0_2.length c0_2, .slice A0_3 l0_3.length c0_3] 25 (0, 0)) (by (with_reducible repeat (first | refine blk_drewN ?_ _ | refine blk_drew ?_ | refine blk_alloc ?_ _)); exact BK324.out) hb); have n1_ := Aside0.mk (below_step (by repeat (first | (with_reducible first | exact HB.out | apply below_alloc | apply pw_below_drewN | apply below_drew1 | refine below_set ?_ GE324.out) | exact HB.out)) hb); clear BK324; clear HB; have BK324 := n0_; have HB := n1_; clear n0_ n1_; (try clear hb); (try clear hb2); (try clear hk); (try clear hi)))
   go_meet
   case rel => exact ⟨_, (true), (by first | rfl | (simp; done) | (simp [*]; done)), H', ⟨by first | omega | exact Nat.le_refl _⟩, ⟨by (with_reducible repeat (first | refine blk_drewN ?_ _ | refine blk_drew ?_ | refine blk_alloc ?_ _)); exact BK324.out⟩, ⟨by repeat (first | (with_reducible first | exact HB.out | apply below_alloc | apply pw_below_drewN | apply below_drew1 | refine below_set ?_ GE324.out) | exact HB.out)⟩⟩
 case rest =>
  clear HC3
  try clear c1; try clear p2; try clear c3; try clear c6; try clear c8; try clear c9; try clear c9b0; try clear c9b1; try clear c14; try clear c14b0; try clear c14b1; try clear hcz11_0; try clear hcz11_1; try clear hcz11_2; try clear hcz11_3; try clear hcz13_0; try clear hcz13_1; try clear hcz13_2; try clear hcz13_3; try clear hcz16_0; try clear hcz16_1; try clear hcz16_2; try clear hcz16_3; try clear hcz18_0; try clear hcz18_1; try clear hcz18_2; try clear hcz18_3; try clear hcz20_0; try clear hcz20_1; try clear hcz20_2; try clear hcz20_3; try clear hcz22_0; try clear hcz22_1; try clear hcz22_2; try clear hcz22_3; try clear hcz24_0; try clear hcz24_1; try clear hcz24_2; try clear hcz24_3; try clear hfz11_0; try clear hfz11_1; try clear hfz11_2; try clear hfz11_3; try clear hfz13_0; try clear hfz13_1; try clear hfz13_2; try clear hfz13_3; try clear hfz16_0; try clear hfz16_1; try clear hfz16_2; try clear hfz16_3; try clear hfz18_0; try clear hfz18_1; try clear hfz18_2; try clear hfz18_3; try clear hfz20_0; try clear hfz20_1; try clear hfz20_2; try clear hfz20_3; try clear hfz22_0; try clear hfz22_1; try clear hfz22_2; try clear hfz22_3; try clear hfz24_0; try clear hfz24_1; try clear hfz24_2; try clear hfz24_3
  obtain ⟨kq, x31_2, rfl, HA, HJ2, BK324, HB⟩ := hcut
  cases kq with
  | zero => exact absurd HA.out (by simp [whetstonelaw04_JsonCuts.j0])
  | succ kj2 =>
   have H := HA.out
   clear HA
   simp only [whetstonelaw04_JsonCuts.j0] at H
   by_cases c27 : x31_2 = true
   ·subst c27
    have H1 : ((whetstonelaw04_written.f kj2).bind fun t327 => (some t327)) = some r := by rw [if_pos rfl] at H; exact H
    clear H
    have H := H1
    clear H1
    replace H := Option.bind_eq_some_iff.mp H
    obtain ⟨t327, A280, H⟩ := H
    replace H : (some t327) = some r := H
    have A28 := Aside0.mk A280
    clear A280
    obtain rfl := Option.some.inj H
    go_wp2_with (first | ((with_reducible refine gate_callee (f := 6) rfl ?_); refine goesL_ (some 32) rfl rfl Try.func6 (by kernel_rfl) rfl #[] rfl (by (try simp only [List.map_toArray, List.map_cons, List.map_nil]); first | done | rfl | (simp only [List.length_drop, List.length_take]; rfl)) ?_; (with_reducible refine (whetstonelaw04_written.calls kj2  t327 _ A28.out).mono ?_); rintro e w29 ⟨rfl, hb⟩; refine ⟨_, rfl, ?_⟩; have n0_ := Aside0.mk (blk_below (g := gb324) (o := .cells #[.int .i64 a0_0, .string a0_1, .slice A0_2 l0_2.length c0_2, .slice A0_3 l0_3.length c0_3] 25 (0, 0)) (by (with_reducible repeat (first | refine blk_drewN ?_ _ | refine blk_drew ?_ | refine blk_alloc ?_ _)); exact BK324.out) hb); have n1_ := Aside0.mk (below_step (by repeat (first | (with_reducible first | exact HB.out | apply below_alloc | apply pw_below_drewN | apply below_drew1 | refine below_set ?_ GE324.out) | exact HB.out)) hb); clear BK324; clear HB; have BK324 := n0_; have HB := n1_; clear n0_ n1_; (try clear hb); (try clear hb2); (try clear hk); (try clear hi)))
    go_ret
    exact ⟨by first | rfl | (simp [errW_none, errW_some] <;> rfl) | (simp [*, errW_none, errW_some] <;> rfl), by repeat (first | (with_reducible first | exact HB.out | apply below_alloc | apply pw_below_drewN | apply below_drew1 | refine below_set ?_ GE324.out) | exact HB.out)⟩
   ·replace c27 := Bool.eq_false_iff.mpr c27
    subst c27
    have H1 : ((json_Print.f kj2 a0_0 a0_1 l0_2 l0_3).bind fun bt328 => (if bt328.2 = 0 then (if (IntKind.u64.wrap ((bt328.1.length : Int))) = 0 then (none) else (if 0 ≤ (wrap64 (Int.tmod (IntKind.u64.wrap (a1)) (IntKind.u64.wrap ((bt328.1.length : Int))))) then (if (wrap64 (Int.tmod (IntKind.u64.wrap (a1)) (IntKind.u64.wrap ((bt328.1.length : Int))))) ≤ (bt328.1.length : Int) then ((json_Parse.f kj2 (bt328.1.take ((wrap64 (Int.tmod (IntKind.u64.wrap (a1)) (IntKind.u64.wrap ((bt328.1.length : Int))))) : Int).toNat)).bind fun bt336 => (if bt336.2.2.2.2.2 = 11 then (some true) else (if bt336.2.2.2.2.2 = 10 then (some true) else (some (bt336.2.2.2.2.2 == 6))))) else (none)) else (none))) else (some true))) = some r := by rw [if_neg (show ¬ (false = true) by decide)] at H; exact H
    clear H
    have H := H1
    clear H1
    replace H := Option.bind_eq_some_iff.mp H
    obtain ⟨⟨t328, t331⟩, A300, H⟩ := H
    replace H : (if t331 = 0 then (if (IntKind.u64.wrap ((t328.length : Int))) = 0 then (none) else (if 0 ≤ (wrap64 (Int.tmod (IntKind.u64.wrap (a1)) (IntKind.u64.wrap ((t328.length : Int))))) then (if (wrap64 (Int.tmod (IntKind.u64.wrap (a1)) (IntKind.u64.wrap ((t328.length : Int))))) ≤ (t328.length : Int) then ((json_Parse.f kj2 (t328.take ((wrap64 (Int.tmod (IntKind.u64.wrap (a1)) (IntKind.u64.wrap ((t328.length : Int))))) : Int).toNat)).bind fun bt336 => (if bt336.2.2.2.2.2 = 11 then (some true) else (if bt336.2.2.2.2.2 = 10 then (some true) else (some (bt336.2.2.2.2.2 == 6))))) else (none)) else (none))) else (some true)) = some r := H
    have A30 := Aside0.mk A300
    clear A300
    by_cases c31 : t331 = 0
    ·rw [if_pos c31] at H
     have c31b0 : (t331 == 0) = true := beq_iff_eq.mpr c31
     have c31b1 : (t331 != 0) = false := bne_eq_false_iff_eq.mpr c31
     clear c31
     by_cases c32 : (IntKind.u64.wrap ((t328.length : Int))) = 0
     ·rw [if_pos c32] at H
      exact absurd H (by simp)
     ·rw [if_neg c32] at H
      have c32b0 : ((IntKind.u64.wrap ((t328.length : Int))) == 0) = false := beq_eq_false_iff_ne.mpr c32
      have c32b1 : ((IntKind.u64.wrap ((t328.length : Int))) != 0) = true := bne_iff_ne.mpr c32
      obtain ⟨ji33, hji33⟩ : ∃ j_ : Int, (wrap64 (Int.tmod (IntKind.u64.wrap (a1)) (IntKind.u64.wrap ((t328.length : Int))))) = j_ := ⟨_, rfl⟩
      replace H : (if 0 ≤ (ji33) then (if (ji33) ≤ (t328.length : Int) then ((json_Parse.f kj2 (t328.take ((ji33) : Int).toNat)).bind fun bt336 => (if bt336.2.2.2.2.2 = 11 then (some true) else (if bt336.2.2.2.2.2 = 10 then (some true) else (some (bt336.2.2.2.2.2 == 6))))) else (none)) else (none)) = some r := by first | (rw [hji33] at H; exact H) | (simp only [hji33] at H ⊢; exact H)
      (try rw [hji33] at A30)
      have hji33w : (IntKind.i64.wrap (Int.tmod (IntKind.u64.wrap (a1)) (IntKind.u64.wrap ((t328.length : Int))))) = ji33 := (i64_w _).trans hji33
      by_cases c34 : 0 ≤ (ji33)
      ·rw [if_pos c34] at H
       have c34b0 := eq_true c34
       have c34b1 : decide (0 ≤ (ji33)) = true := decide_eq_true c34
       clear c34
       by_cases c35 : (ji33) ≤ (t328.length : Int)
       ·rw [if_pos c35] at H
        have c35b0 := eq_true c35
        have c35b1 : decide ((ji33) ≤ (t328.length : Int)) = true := decide_eq_true c35
        clear c35
        obtain ⟨y332, hy332⟩ : ∃ y_ : List Int, y_ = (t328.take ((ji33) : Int).toNat) := ⟨_, rfl⟩
        replace H : ((json_Parse.f kj2 y332).bind fun bt336 => (if bt336.2.2.2.2.2 = 11 then (some true) else (if bt336.2.2.2.2.2 = 10 then (some true) else (some (bt336.2.2.2.2.2 == 6))))) = some r := by first | (rw [hy332]; with_reducible exact H) | (have H2_ := (Option.bind_some _ _).symm.trans H; rw [hy332]; with_reducible exact H2_) | (have H2_ := (Option.bind_some _ _).symm.trans H; with_reducible exact H2_) | with_reducible exact H | (rw [hy332]; exact H) | exact H
        have Ny332 := Aside0.mk hy332
        clear hy332
        replace H := Option.bind_eq_some_iff.mp H
        obtain ⟨⟨t336, t337, t338, t341, t344, t345⟩, A360, H⟩ := H
        replace H : (if t345 = 11 then (some true) else (if t345 = 10 then (some true) else (some (t345 == 6)))) = some r := H
        have A36 := Aside0.mk A360
        clear A360
        by_cases c37 : t345 = 11
        ·rw [if_pos c37] at H
         have c37b0 : (t345 == 11) = true := beq_iff_eq.mpr c37
         have c37b1 : (t345 != 11) = false := bne_eq_false_iff_eq.mpr c37
         clear c37
         obtain rfl := Option.some.inj H
         have hcz38_0 : wc.cell? ⟨gb324, 0, none⟩ = some (.int .i64 a0_0) := (blk_cell BK324.out 0).trans rfl
         have hcz38_1 : wc.cell? ⟨gb324, 1, none⟩ = some (.string a0_1) := (blk_cell BK324.out 1).trans rfl
         have hcz38_2 : wc.cell? ⟨gb324, 2, none⟩ = some (.slice A0_2 l0_2.length c0_2) := (blk_cell BK324.out 2).trans rfl
         have hcz38_3 : wc.cell? ⟨gb324, 3, none⟩ = some (.slice A0_3 l0_3.length c0_3) := (blk_cell BK324.out 3).trans rfl
         have hfz38_0 := blk_frozen BK324.out 0
         have hfz38_1 := blk_frozen BK324.out 1
         have hfz38_2 := blk_frozen BK324.out 2
         have hfz38_3 := blk_frozen BK324.out 3
         go_wp2_with (first | ((with_reducible refine gate_callee (f := 8) rfl ?_); refine goesL_ (some 35) rfl rfl Try.func8 (by kernel_rfl) rfl #[.agg #[.int .i64 a0_0, .string a0_1, .slice A0_2 l0_2.length c0_2, .slice A0_3 l0_3.length c0_3]] rfl (by (try simp only [List.map_toArray, List.map_cons, List.map_nil]); first | done | rfl | (simp only [List.length_drop, List.length_take]; rfl)) ?_; (with_reducible refine (json_Print.calls kj2 a0_0 a0_1 _ _ l0_2 _ _ l0_3 t328 t331 _ ?side1 ?side2 ?side3 ?side4 A30.out).mono ?_); (case side1 => repeat (first | exact (Kd.C_below HR0_2.out HB.out) | (with_reducible refine Kd.C_alloc ?_ _) | (with_reducible refine Kd.C_drewN ?_ _) | (with_reducible refine Kd.C_drew ?_))); (case side2 => exact HC0_2.out); (case side3 => repeat (first | exact (Kd.C_below HR0_3.out HB.out) | (with_reducible refine Kd.C_alloc ?_ _) | (with_reducible refine Kd.C_drewN ?_ _) | (with_reducible refine Kd.C_drew ?_))); (case side4 => exact HC0_3.out); rintro e w39 ⟨v329, rfl, ho0, hb⟩; refine ⟨_, rfl, ?_⟩; have n0_ := Aside0.mk (Kd.R_lower ho0 (below_size (by repeat (first | (with_reducible first | exact HB.out | apply below_alloc | apply pw_below_drewN | apply below_drew1 | refine below_set ?_ GE324.out) | exact HB.out)))); have n1_ := Aside0.mk (blk_below (g := gb324) (o := .cells #[.int .i64 a0_0, .string a0_1, .slice A0_2 l0_2.length c0_2, .slice A0_3 l0_3.length c0_3] 25 (0, 0)) (by (with_reducible repeat (first | refine blk_drewN ?_ _ | refine blk_drew ?_ | refine blk_alloc ?_ _)); exact BK324.out) hb); have n2_ := Aside0.mk (below_step (by repeat (first | (with_reducible first | exact HB.out | apply below_alloc | apply pw_below_drewN | apply below_drew1 | refine below_set ?_ GE324.out) | exact HB.out)) hb); clear BK324; clear HB; have HO330 := n0_; have BK324 := n1_; have HB := n2_; clear n0_ n1_ n2_; (try clear hb); (try clear hb2); (try clear hk); (try clear hi); (try clear ho0); obtain ⟨Ao40, co40, eo40⟩ := Kd.R_slice HO330.out; subst eo40; have q41 : ((ji33) : Int) ≤ ((t328.length : Int) : Int) := of_decide_eq_true (by first | (with_reducible assumption) | assumption); obtain ⟨i041, hi041, _, hsz41, _⟩ := info_parts info5; have hroom41 : t328.length ≤ co40 := (Kd.R_reads' HO330.out).2.1; have hC41 : Kd.C (Kd.int .u8) _ Ao40 t328.length t328 := (Kd.R_reads' HO330.out).2.2; have hcut41 := cut_to (P := Try.prog) 28 5 .i64 Try.underlying28 hi041 Ao40 t328.length co40 (ji33) (of_decide_eq_true (by first | (with_reducible assumption) | assumption)) q41 hroom41; have hr41 := Kd.C_take (m := ((ji33) : Int).toNat) hC41 (by omega); have hy41 : y332.length = ((ji33) : Int).toNat := (by rw [Ny332.out, List.length_take]; omega); rw [← Ny332.out] at hr41; rw [← hy41] at hcut41; have HR335 := Aside0.mk hr41; have HC335 := Aside0.mk (show y332.length ≤ co40 from by omega); clear hr41 hC41 hroom41 hi041 hsz41; have KY41 := Aside0.mk hy41; clear hy41; have KL41 := Aside0.mk (show ((ji33) : Int).toNat ≤ t328.length from by omega); replace q41 := eq_true q41) | ((with_reducible refine gate_callee (f := 9) rfl ?_); refine goesL_ (some 51) rfl rfl Try.func9 (by kernel_rfl) rfl #[.slice Ao40 y332.length co40] rfl (by (try simp only [List.map_toArray, List.map_cons, List.map_nil]); first | done | rfl | (simp only [List.length_drop, List.length_take]; rfl)) ?_; (with_reducible refine (json_Parse.calls kj2 _ _ y332 t336 t337 t338 t341 t344 t345 _ ?side1 ?side2 A36.out).mono ?_); (case side1 => repeat (first | exact (by repeat (first | (with_reducible exact HR335.out) | (with_reducible refine Kd.C_alloc ?_ _) | (with_reducible refine Kd.C_drewN ?_ _) | (with_reducible refine Kd.C_drew ?_) | exact HR335.out)) | (with_reducible refine Kd.C_alloc ?_ _) | (with_reducible refine Kd.C_drewN ?_ _) | (with_reducible refine Kd.C_drew ?_))); (case side2 => exact HC335.out); rintro e w42 ⟨v339, v342, rfl, ho0, ho1, hb⟩; refine ⟨_, rfl, ?_⟩; have n0_ := Aside0.mk (Kd.R_below (by (with_reducible repeat (first | apply Kd.R_alloc | apply Kd.R_drewN | apply Kd.R_drew)); exact HO330.out) hb); have n1_ := Aside0.mk (Kd.R_lower ho0 (below_size (by repeat (first | (with_reducible first | exact HB.out | apply below_alloc | apply pw_below_drewN | apply below_drew1 | refine below_set ?_ GE324.out) | exact HB.out)))); have n2_ := Aside0.mk (Kd.R_lower (Kd.R_newB ho1 (g := gb324) (o := .cells #[.int .i64 a0_0, .string a0_1, .slice A0_2 l0_2.length c0_2, .slice A0_3 l0_3.length c0_3] 25 (0, 0)) (by (with_reducible repeat (first | refine blk_drewN ?_ _ | refine blk_drew ?_ | refine blk_alloc ?_ _)); exact BK324.out)) (below_size (by repeat (first | (with_reducible first | exact HB.out | apply below_alloc | apply pw_below_drewN | apply below_drew1 | refine below_set ?_ GE324.out) | exact HB.out)))); have n3_ := Aside0.mk (blk_below (g := gb324) (o := .cells #[.int .i64 a0_0, .string a0_1, .slice A0_2 l0_2.length c0_2, .slice A0_3 l0_3.length c0_3] 25 (0, 0)) (by (with_reducible repeat (first | refine blk_drewN ?_ _ | refine blk_drew ?_ | refine blk_alloc ?_ _)); exact BK324.out) hb); have n4_ := Aside0.mk (Kd.C_below (by repeat (first | (with_reducible exact HR335.out) | (with_reducible refine Kd.C_alloc ?_ _) | (with_reducible refine Kd.C_drewN ?_ _) | (with_reducible refine Kd.C_drew ?_) | exact HR335.out)) hb); have n5_ := Aside0.mk (below_step (by repeat (first | (with_reducible first | exact HB.out | apply below_alloc | apply pw_below_drewN | apply below_drew1 | refine below_set ?_ GE324.out) | exact HB.out)) hb); clear HO330; clear BK324; clear HR335; clear HB; have HO330 := n0_; have HO340 := n1_; have HO343 := n2_; have BK324 := n3_; have HR335 := n4_; have HB := n5_; clear n0_ n1_ n2_ n3_ n4_ n5_; (try clear hb); (try clear hb2); (try clear hk); (try clear hi); (try clear ho0); (try clear ho1)) | ((with_reducible refine gate_dst (N := 7) rfl ?_); refine box_event ?hg (N := 7) ?hd (cs := #[.int .i64 0, .string (⟨#[]⟩ : ByteArray), .slice none 0 0, .slice none 0 0]) (t := 25) ?hr ?_; (case hd => rfl); (case hg => rfl); (case hr => first | (go_simp; done) | (go_simp; rfl)); intro gb346 hg w43 hbox hb; have n0_ := Aside0.mk (Kd.R_below (by (with_reducible repeat (first | apply Kd.R_alloc | apply Kd.R_drewN | apply Kd.R_drew)); exact HO330.out) hb); have n1_ := Aside0.mk (Kd.R_below (by (with_reducible repeat (first | apply Kd.R_alloc | apply Kd.R_drewN | apply Kd.R_drew)); exact HO340.out) hb); have n2_ := Aside0.mk (Kd.R_below (Kd.R_elderB (by (with_reducible repeat (first | apply Kd.R_alloc | apply Kd.R_drewN | apply Kd.R_drew)); exact HO343.out) gb346 (Nat.le_of_eq hg.symm)) hb); have n3_ := Aside0.mk (blk_below (g := gb324) (o := .cells #[.int .i64 a0_0, .string a0_1, .slice A0_2 l0_2.length c0_2, .slice A0_3 l0_3.length c0_3] 25 (0, 0)) (by (with_reducible repeat (first | refine blk_drewN ?_ _ | refine blk_drew ?_ | refine blk_alloc ?_ _)); exact BK324.out) hb); have n4_ := Aside0.mk (Kd.C_below (by repeat (first | (with_reducible exact HR335.out) | (with_reducible refine Kd.C_alloc ?_ _) | (with_reducible refine Kd.C_drewN ?_ _) | (with_reducible refine Kd.C_drew ?_) | exact HR335.out)) hb); have n5_ := Aside0.mk (below_step (by repeat (first | (with_reducible first | exact HB.out | apply below_alloc | apply pw_below_drewN | apply below_drew1 | refine below_set ?_ GE324.out) | exact HB.out)) hb); have n6_ := Aside0.mk (hbox); have n7_ := Aside0.mk ((by rw [hg]; exact (below_size (by repeat (first | (with_reducible first | exact HB.out | apply below_alloc | apply pw_below_drewN | apply below_drew1 | refine below_set ?_ GE324.out) | exact HB.out))) : w.heap.size ≤ gb346)); have n8_ := Aside0.mk ((by rw [hg]; exact (below_size (by repeat (first | (with_reducible first | exact HB.out | apply below_alloc | apply pw_below_drewN | apply below_drew1 | refine below_set ?_ GE324.out) | exact HB.out))) : w.heap.size ≤ gb346)); have n9_ := Aside0.mk ((by rw [hg]; exact Nat.ne_of_lt (blk_lt (g := gb324) (o := .cells #[.int .i64 a0_0, .string a0_1, .slice A0_2 l0_2.length c0_2, .slice A0_3 l0_3.length c0_3] 25 (0, 0)) (by (with_reducible repeat (first | refine blk_drewN ?_ _ | refine blk_drew ?_ | refine blk_alloc ?_ _)); exact BK324.out)) : gb324 ≠ gb346)); have n10_ := Aside0.mk ((by rw [hg]; exact Nat.ne_of_gt (blk_lt (g := gb324) (o := .cells #[.int .i64 a0_0, .string a0_1, .slice A0_2 l0_2.length c0_2, .slice A0_3 l0_3.length c0_3] 25 (0, 0)) (by (with_reducible repeat (first | refine blk_drewN ?_ _ | refine blk_drew ?_ | refine blk_alloc ?_ _)); exact BK324.out)) : gb346 ≠ gb324)); clear HO330; clear HO340; clear HO343; clear BK324; clear HR335; clear HB; have HO330 := n0_; have HO340 := n1_; have HO343 := n2_; have BK324 := n3_; have HR335 := n4_; have HB := n5_; have BK346 := n6_; have GW346 := n7_; have GE346 := n8_; have NB324_346 := n9_; have NB346_324 := n10_; clear n0_ n1_ n2_ n3_ n4_ n5_ n6_ n7_ n8_ n9_ n10_; clear hb hbox hg; have hnb44 := NB346_324.out; have hnc44 := NB324_346.out; have hcz45_0 : w43.cell? ⟨gb346, 0, none⟩ = some (.int .i64 0) := (blk_cell BK346.out 0).trans rfl; have hcz45_1 : w43.cell? ⟨gb346, 1, none⟩ = some (.string (⟨#[]⟩ : ByteArray)) := (blk_cell BK346.out 1).trans rfl; have hcz45_2 : w43.cell? ⟨gb346, 2, none⟩ = some (.slice none 0 0) := (blk_cell BK346.out 2).trans rfl; have hcz45_3 : w43.cell? ⟨gb346, 3, none⟩ = some (.slice none 0 0) := (blk_cell BK346.out 3).trans rfl; have hfz45_0 := blk_frozen BK346.out 0; have hfz45_1 := blk_frozen BK346.out 1; have hfz45_2 := blk_frozen BK346.out 2; have hfz45_3 := blk_frozen BK346.out 3; obtain ⟨Ao46, co46, eo46⟩ := Kd.R_slice HO340.out; subst eo46; obtain ⟨Ao47, co47, eo47⟩ := Kd.R_slice HO343.out; subst eo47))
         go_ret
         exact ⟨by first | rfl | (simp [errW_none, errW_some] <;> rfl) | (simp only [← hji33]; first | rfl | (simp [errW_none, errW_some] <;> rfl)) | (simp [*, errW_none, errW_some] <;> rfl), by repeat (first | (with_reducible first | exact HB.out | apply below_alloc | apply pw_below_drewN | apply below_drew1 | refine below_set ?_ GE324.out | refine below_set ?_ GE346.out) | exact HB.out)⟩
        ·rw [if_neg c37] at H
         have c37b0 : (t345 == 11) = false := beq_eq_false_iff_ne.mpr c37
         have c37b1 : (t345 != 11) = true := bne_iff_ne.mpr c37
         by_cases c48 : t345 = 10
         ·rw [if_pos c48] at H
          have c48b0 : (t345 == 10) = true := beq_iff_eq.mpr c48
          have c48b1 : (t345 != 10) = false := bne_eq_false_iff_eq.mpr c48
          clear c48
          obtain rfl := Option.some.inj H
          have hcz49_0 : wc.cell? ⟨gb324, 0, none⟩ = some (.int .i64 a0_0) := (blk_cell BK324.out 0).trans rfl
          have hcz49_1 : wc.cell? ⟨gb324, 1, none⟩ = some (.string a0_1) := (blk_cell BK324.out 1).trans rfl
          have hcz49_2 : wc.cell? ⟨gb324, 2, none⟩ = some (.slice A0_2 l0_2.length c0_2) := (blk_cell BK324.out 2).trans rfl
          have hcz49_3 : wc.cell? ⟨gb324, 3, none⟩ = some (.slice A0_3 l0_3.length c0_3) := (blk_cell BK324.out 3).trans rfl
          have hfz49_0 := blk_frozen BK324.out 0
          have hfz49_1 := blk_frozen BK324.out 1
          have hfz49_2 := blk_frozen BK324.out 2
          have hfz49_3 := blk_frozen BK324.out 3
          go_wp2_with (first | ((with_reducible refine gate_callee (f := 8) rfl ?_); refine goesL_ (some 35) rfl rfl Try.func8 (by kernel_rfl) rfl #[.agg #[.int .i64 a0_0, .string a0_1, .slice A0_2 l0_2.length c0_2, .slice A0_3 l0_3.length c0_3]] rfl (by (try simp only [List.map_toArray, List.map_cons, List.map_nil]); first | done | rfl | (simp only [List.length_drop, List.length_take]; rfl)) ?_; (with_reducible refine (json_Print.calls kj2 a0_0 a0_1 _ _ l0_2 _ _ l0_3 t328 t331 _ ?side1 ?side2 ?side3 ?side4 A30.out).mono ?_); (case side1 => repeat (first | exact (Kd.C_below HR0_2.out HB.out) | (with_reducible refine Kd.C_alloc ?_ _) | (with_reducible refine Kd.C_drewN ?_ _) | (with_reducible refine Kd.C_drew ?_))); (case side2 => exact HC0_2.out); (case side3 => repeat (first | exact (Kd.C_below HR0_3.out HB.out) | (with_reducible refine Kd.C_alloc ?_ _) | (with_reducible refine Kd.C_drewN ?_ _) | (with_reducible refine Kd.C_drew ?_))); (case side4 => exact HC0_3.out); rintro e w50 ⟨v329, rfl, ho0, hb⟩; refine ⟨_, rfl, ?_⟩; have n0_ := Aside0.mk (Kd.R_lower ho0 (below_size (by repeat (first | (with_reducible first | exact HB.out | apply below_alloc | apply pw_below_drewN | apply below_drew1 | refine below_set ?_ GE324.out) | exact HB.out)))); have n1_ := Aside0.mk (blk_below (g := gb324) (o := .cells #[.int .i64 a0_0, .string a0_1, .slice A0_2 l0_2.length c0_2, .slice A0_3 l0_3.length c0_3] 25 (0, 0)) (by (with_reducible repeat (first | refine blk_drewN ?_ _ | refine blk_drew ?_ | refine blk_alloc ?_ _)); exact BK324.out) hb); have n2_ := Aside0.mk (below_step (by repeat (first | (with_reducible first | exact HB.out | apply below_alloc | apply pw_below_drewN | apply below_drew1 | refine below_set ?_ GE324.out) | exact HB.out)) hb); clear BK324; clear HB; have HO330 := n0_; have BK324 := n1_; have HB := n2_; clear n0_ n1_ n2_; (try clear hb); (try clear hb2); (try clear hk); (try clear hi); (try clear ho0); obtain ⟨Ao51, co51, eo51⟩ := Kd.R_slice HO330.out; subst eo51; have q52 : ((ji33) : Int) ≤ ((t328.length : Int) : Int) := of_decide_eq_true (by first | (with_reducible assumption) | assumption); obtain ⟨i052, hi052, _, hsz52, _⟩ := info_parts info5; have hroom52 : t328.length ≤ co51 := (Kd.R_reads' HO330.out).2.1; have hC52 : Kd.C (Kd.int .u8) _ Ao51 t328.length t328 := (Kd.R_reads' HO330.out).2.2; have hcut52 := cut_to (P := Try.prog) 28 5 .i64 Try.underlying28 hi052 Ao51 t328.length co51 (ji33) (of_decide_eq_true (by first | (with_reducible assumption) | assumption)) q52 hroom52; have hr52 := Kd.C_take (m := ((ji33) : Int).toNat) hC52 (by omega); have hy52 : y332.length = ((ji33) : Int).toNat := (by rw [Ny332.out, List.length_take]; omega); rw [← Ny332.out] at hr52; rw [← hy52] at hcut52; have HR335 := Aside0.mk hr52; have HC335 := Aside0.mk (show y332.length ≤ co51 from by omega); clear hr52 hC52 hroom52 hi052 hsz52; have KY52 := Aside0.mk hy52; clear hy52; have KL52 := Aside0.mk (show ((ji33) : Int).toNat ≤ t328.length from by omega); replace q52 := eq_true q52) | ((with_reducible refine gate_callee (f := 9) rfl ?_); refine goesL_ (some 51) rfl rfl Try.func9 (by kernel_rfl) rfl #[.slice Ao51 y332.length co51] rfl (by (try simp only [List.map_toArray, List.map_cons, List.map_nil]); first | done | rfl | (simp only [List.length_drop, List.length_take]; rfl)) ?_; (with_reducible refine (json_Parse.calls kj2 _ _ y332 t336 t337 t338 t341 t344 t345 _ ?side1 ?side2 A36.out).mono ?_); (case side1 => repeat (first | exact (by repeat (first | (with_reducible exact HR335.out) | (with_reducible refine Kd.C_alloc ?_ _) | (with_reducible refine Kd.C_drewN ?_ _) | (with_reducible refine Kd.C_drew ?_) | exact HR335.out)) | (with_reducible refine Kd.C_alloc ?_ _) | (with_reducible refine Kd.C_drewN ?_ _) | (with_reducible refine Kd.C_drew ?_))); (case side2 => exact HC335.out); rintro e w53 ⟨v339, v342, rfl, ho0, ho1, hb⟩; refine ⟨_, rfl, ?_⟩; have n0_ := Aside0.mk (Kd.R_below (by (with_reducible repeat (first | apply Kd.R_alloc | apply Kd.R_drewN | apply Kd.R_drew)); exact HO330.out) hb); have n1_ := Aside0.mk (Kd.R_lower ho0 (below_size (by repeat (first | (with_reducible first | exact HB.out | apply below_alloc | apply pw_below_drewN | apply below_drew1 | refine below_set ?_ GE324.out) | exact HB.out)))); have n2_ := Aside0.mk (Kd.R_lower (Kd.R_newB ho1 (g := gb324) (o := .cells #[.int .i64 a0_0, .string a0_1, .slice A0_2 l0_2.length c0_2, .slice A0_3 l0_3.length c0_3] 25 (0, 0)) (by (with_reducible repeat (first | refine blk_drewN ?_ _ | refine blk_drew ?_ | refine blk_alloc ?_ _)); exact BK324.out)) (below_size (by repeat (first | (with_reducible first | exact HB.out | apply below_alloc | apply pw_below_drewN | apply below_drew1 | refine below_set ?_ GE324.out) | exact HB.out)))); have n3_ := Aside0.mk (blk_below (g := gb324) (o := .cells #[.int .i64 a0_0, .string a0_1, .slice A0_2 l0_2.length c0_2, .slice A0_3 l0_3.length c0_3] 25 (0, 0)) (by (with_reducible repeat (first | refine blk_drewN ?_ _ | refine blk_drew ?_ | refine blk_alloc ?_ _)); exact BK324.out) hb); have n4_ := Aside0.mk (Kd.C_below (by repeat (first | (with_reducible exact HR335.out) | (with_reducible refine Kd.C_alloc ?_ _) | (with_reducible refine Kd.C_drewN ?_ _) | (with_reducible refine Kd.C_drew ?_) | exact HR335.out)) hb); have n5_ := Aside0.mk (below_step (by repeat (first | (with_reducible first | exact HB.out | apply below_alloc | apply pw_below_drewN | apply below_drew1 | refine below_set ?_ GE324.out) | exact HB.out)) hb); clear HO330; clear BK324; clear HR335; clear HB; have HO330 := n0_; have HO340 := n1_; have HO343 := n2_; have BK324 := n3_; have HR335 := n4_; have HB := n5_; clear n0_ n1_ n2_ n3_ n4_ n5_; (try clear hb); (try clear hb2); (try clear hk); (try clear hi); (try clear ho0); (try clear ho1)) | ((with_reducible refine gate_dst (N := 7) rfl ?_); refine box_event ?hg (N := 7) ?hd (cs := #[.int .i64 0, .string (⟨#[]⟩ : ByteArray), .slice none 0 0, .slice none 0 0]) (t := 25) ?hr ?_; (case hd => rfl); (case hg => rfl); (case hr => first | (go_simp; done) | (go_simp; rfl)); intro gb346 hg w54 hbox hb; have n0_ := Aside0.mk (Kd.R_below (by (with_reducible repeat (first | apply Kd.R_alloc | apply Kd.R_drewN | apply Kd.R_drew)); exact HO330.out) hb); have n1_ := Aside0.mk (Kd.R_below (by (with_reducible repeat (first | apply Kd.R_alloc | apply Kd.R_drewN | apply Kd.R_drew)); exact HO340.out) hb); have n2_ := Aside0.mk (Kd.R_below (Kd.R_elderB (by (with_reducible repeat (first | apply Kd.R_alloc | apply Kd.R_drewN | apply Kd.R_drew)); exact HO343.out) gb346 (Nat.le_of_eq hg.symm)) hb); have n3_ := Aside0.mk (blk_below (g := gb324) (o := .cells #[.int .i64 a0_0, .string a0_1, .slice A0_2 l0_2.length c0_2, .slice A0_3 l0_3.length c0_3] 25 (0, 0)) (by (with_reducible repeat (first | refine blk_drewN ?_ _ | refine blk_drew ?_ | refine blk_alloc ?_ _)); exact BK324.out) hb); have n4_ := Aside0.mk (Kd.C_below (by repeat (first | (with_reducible exact HR335.out) | (with_reducible refine Kd.C_alloc ?_ _) | (with_reducible refine Kd.C_drewN ?_ _) | (with_reducible refine Kd.C_drew ?_) | exact HR335.out)) hb); have n5_ := Aside0.mk (below_step (by repeat (first | (with_reducible first | exact HB.out | apply below_alloc | apply pw_below_drewN | apply below_drew1 | refine below_set ?_ GE324.out) | exact HB.out)) hb); have n6_ := Aside0.mk (hbox); have n7_ := Aside0.mk ((by rw [hg]; exact (below_size (by repeat (first | (with_reducible first | exact HB.out | apply below_alloc | apply pw_below_drewN | apply below_drew1 | refine below_set ?_ GE324.out) | exact HB.out))) : w.heap.size ≤ gb346)); have n8_ := Aside0.mk ((by rw [hg]; exact (below_size (by repeat (first | (with_reducible first | exact HB.out | apply below_alloc | apply pw_below_drewN | apply below_drew1 | refine below_set ?_ GE324.out) | exact HB.out))) : w.heap.size ≤ gb346)); have n9_ := Aside0.mk ((by rw [hg]; exact Nat.ne_of_lt (blk_lt (g := gb324) (o := .cells #[.int .i64 a0_0, .string a0_1, .slice A0_2 l0_2.length c0_2, .slice A0_3 l0_3.length c0_3] 25 (0, 0)) (by (with_reducible repeat (first | refine blk_drewN ?_ _ | refine blk_drew ?_ | refine blk_alloc ?_ _)); exact BK324.out)) : gb324 ≠ gb346)); have n10_ := Aside0.mk ((by rw [hg]; exact Nat.ne_of_gt (blk_lt (g := gb324) (o := .cells #[.int .i64 a0_0, .string a0_1, .slice A0_2 l0_2.length c0_2, .slice A0_3 l0_3.length c0_3] 25 (0, 0)) (by (with_reducible repeat (first | refine blk_drewN ?_ _ | refine blk_drew ?_ | refine blk_alloc ?_ _)); exact BK324.out)) : gb346 ≠ gb324)); clear HO330; clear HO340; clear HO343; clear BK324; clear HR335; clear HB; have HO330 := n0_; have HO340 := n1_; have HO343 := n2_; have BK324 := n3_; have HR335 := n4_; have HB := n5_; have BK346 := n6_; have GW346 := n7_; have GE346 := n8_; have NB324_346 := n9_; have NB346_324 := n10_; clear n0_ n1_ n2_ n3_ n4_ n5_ n6_ n7_ n8_ n9_ n10_; clear hb hbox hg; have hnb55 := NB346_324.out; have hnc55 := NB324_346.out; have hcz56_0 : w54.cell? ⟨gb346, 0, none⟩ = some (.int .i64 0) := (blk_cell BK346.out 0).trans rfl; have hcz56_1 : w54.cell? ⟨gb346, 1, none⟩ = some (.string (⟨#[]⟩ : ByteArray)) := (blk_cell BK346.out 1).trans rfl; have hcz56_2 : w54.cell? ⟨gb346, 2, none⟩ = some (.slice none 0 0) := (blk_cell BK346.out 2).trans rfl; have hcz56_3 : w54.cell? ⟨gb346, 3, none⟩ = some (.slice none 0 0) := (blk_cell BK346.out 3).trans rfl; have hfz56_0 := blk_frozen BK346.out 0; have hfz56_1 := blk_frozen BK346.out 1; have hfz56_2 := blk_frozen BK346.out 2; have hfz56_3 := blk_frozen BK346.out 3; obtain ⟨Ao57, co57, eo57⟩ := Kd.R_slice HO340.out; subst eo57; obtain ⟨Ao58, co58, eo58⟩ := Kd.R_slice HO343.out; subst eo58))
          go_ret
          exact ⟨by first | rfl | (simp [errW_none, errW_some] <;> rfl) | (simp only [← hji33]; first | rfl | (simp [errW_none, errW_some] <;> rfl)) | (simp [*, errW_none, errW_some] <;> rfl), by repeat (first | (with_reducible first | exact HB.out | apply below_alloc | apply pw_below_drewN | apply below_drew1 | refine below_set ?_ GE324.out | refine below_set ?_ GE346.out) | exact HB.out)⟩
         ·rw [if_neg c48] at H
          have c48b0 : (t345 == 10) = false := beq_eq_false_iff_ne.mpr c48
          have c48b1 : (t345 != 10) = true := bne_iff_ne.mpr c48
          obtain rfl := Option.some.inj H
          have hcz59_0 : wc.cell? ⟨gb324, 0, none⟩ = some (.int .i64 a0_0) := (blk_cell BK324.out 0).trans rfl
          have hcz59_1 : wc.cell? ⟨gb324, 1, none⟩ = some (.string a0_1) := (blk_cell BK324.out 1).trans rfl
          have hcz59_2 : wc.cell? ⟨gb324, 2, none⟩ = some (.slice A0_2 l0_2.length c0_2) := (blk_cell BK324.out 2).trans rfl
          have hcz59_3 : wc.cell? ⟨gb324, 3, none⟩ = some (.slice A0_3 l0_3.length c0_3) := (blk_cell BK324.out 3).trans rfl
          have hfz59_0 := blk_frozen BK324.out 0
          have hfz59_1 := blk_frozen BK324.out 1
          have hfz59_2 := blk_frozen BK324.out 2
          have hfz59_3 := blk_frozen BK324.out 3
          go_wp2_with (first | ((with_reducible refine gate_callee (f := 8) rfl ?_); refine goesL_ (some 35) rfl rfl Try.func8 (by kernel_rfl) rfl #[.agg #[.int .i64 a0_0, .string a0_1, .slice A0_2 l0_2.length c0_2, .slice A0_3 l0_3.length c0_3]] rfl (by (try simp only [List.map_toArray, List.map_cons, List.map_nil]); first | done | rfl | (simp only [List.length_drop, List.length_take]; rfl)) ?_; (with_reducible refine (json_Print.calls kj2 a0_0 a0_1 _ _ l0_2 _ _ l0_3 t328 t331 _ ?side1 ?side2 ?side3 ?side4 A30.out).mono ?_); (case side1 => repeat (first | exact (Kd.C_below HR0_2.out HB.out) | (with_reducible refine Kd.C_alloc ?_ _) | (with_reducible refine Kd.C_drewN ?_ _) | (with_reducible refine Kd.C_drew ?_))); (case side2 => exact HC0_2.out); (case side3 => repeat (first | exact (Kd.C_below HR0_3.out HB.out) | (with_reducible refine Kd.C_alloc ?_ _) | (with_reducible refine Kd.C_drewN ?_ _) | (with_reducible refine Kd.C_drew ?_))); (case side4 => exact HC0_3.out); rintro e w60 ⟨v329, rfl, ho0, hb⟩; refine ⟨_, rfl, ?_⟩; have n0_ := Aside0.mk (Kd.R_lower ho0 (below_size (by repeat (first | (with_reducible first | exact HB.out | apply below_alloc | apply pw_below_drewN | apply below_drew1 | refine below_set ?_ GE324.out) | exact HB.out)))); have n1_ := Aside0.mk (blk_below (g := gb324) (o := .cells #[.int .i64 a0_0, .string a0_1, .slice A0_2 l0_2.length c0_2, .slice A0_3 l0_3.length c0_3] 25 (0, 0)) (by (with_reducible repeat (first | refine blk_drewN ?_ _ | refine blk_drew ?_ | refine blk_alloc ?_ _)); exact BK324.out) hb); have n2_ := Aside0.mk (below_step (by repeat (first | (with_reducible first | exact HB.out | apply below_alloc | apply pw_below_drewN | apply below_drew1 | refine below_set ?_ GE324.out) | exact HB.out)) hb); clear BK324; clear HB; have HO330 := n0_; have BK324 := n1_; have HB := n2_; clear n0_ n1_ n2_; (try clear hb); (try clear hb2); (try clear hk); (try clear hi); (try clear ho0); obtain ⟨Ao61, co61, eo61⟩ := Kd.R_slice HO330.out; subst eo61; have q62 : ((ji33) : Int) ≤ ((t328.length : Int) : Int) := of_decide_eq_true (by first | (with_reducible assumption) | assumption); obtain ⟨i062, hi062, _, hsz62, _⟩ := info_parts info5; have hroom62 : t328.length ≤ co61 := (Kd.R_reads' HO330.out).2.1; have hC62 : Kd.C (Kd.int .u8) _ Ao61 t328.length t328 := (Kd.R_reads' HO330.out).2.2; have hcut62 := cut_to (P := Try.prog) 28 5 .i64 Try.underlying28 hi062 Ao61 t328.length co61 (ji33) (of_decide_eq_true (by first | (with_reducible assumption) | assumption)) q62 hroom62; have hr62 := Kd.C_take (m := ((ji33) : Int).toNat) hC62 (by omega); have hy62 : y332.length = ((ji33) : Int).toNat := (by rw [Ny332.out, List.length_take]; omega); rw [← Ny332.out] at hr62; rw [← hy62] at hcut62; have HR335 := Aside0.mk hr62; have HC335 := Aside0.mk (show y332.length ≤ co61 from by omega); clear hr62 hC62 hroom62 hi062 hsz62; have KY62 := Aside0.mk hy62; clear hy62; have KL62 := Aside0.mk (show ((ji33) : Int).toNat ≤ t328.length from by omega); replace q62 := eq_true q62) | ((with_reducible refine gate_callee (f := 9) rfl ?_); refine goesL_ (some 51) rfl rfl Try.func9 (by kernel_rfl) rfl #[.slice Ao61 y332.length co61] rfl (by (try simp only [List.map_toArray, List.map_cons, List.map_nil]); first | done | rfl | (simp only [List.length_drop, List.length_take]; rfl)) ?_; (with_reducible refine (json_Parse.calls kj2 _ _ y332 t336 t337 t338 t341 t344 t345 _ ?side1 ?side2 A36.out).mono ?_); (case side1 => repeat (first | exact (by repeat (first | (with_reducible exact HR335.out) | (with_reducible refine Kd.C_alloc ?_ _) | (with_reducible refine Kd.C_drewN ?_ _) | (with_reducible refine Kd.C_drew ?_) | exact HR335.out)) | (with_reducible refine Kd.C_alloc ?_ _) | (with_reducible refine Kd.C_drewN ?_ _) | (with_reducible refine Kd.C_drew ?_))); (case side2 => exact HC335.out); rintro e w63 ⟨v339, v342, rfl, ho0, ho1, hb⟩; refine ⟨_, rfl, ?_⟩; have n0_ := Aside0.mk (Kd.R_below (by (with_reducible repeat (first | apply Kd.R_alloc | apply Kd.R_drewN | apply Kd.R_drew)); exact HO330.out) hb); have n1_ := Aside0.mk (Kd.R_lower ho0 (below_size (by repeat (first | (with_reducible first | exact HB.out | apply below_alloc | apply pw_below_drewN | apply below_drew1 | refine below_set ?_ GE324.out) | exact HB.out)))); have n2_ := Aside0.mk (Kd.R_lower (Kd.R_newB ho1 (g := gb324) (o := .cells #[.int .i64 a0_0, .string a0_1, .slice A0_2 l0_2.length c0_2, .slice A0_3 l0_3.length c0_3] 25 (0, 0)) (by (with_reducible repeat (first | refine blk_drewN ?_ _ | refine blk_drew ?_ | refine blk_alloc ?_ _)); exact BK324.out)) (below_size (by repeat (first | (with_reducible first | exact HB.out | apply below_alloc | apply pw_below_drewN | apply below_drew1 | refine below_set ?_ GE324.out) | exact HB.out)))); have n3_ := Aside0.mk (blk_below (g := gb324) (o := .cells #[.int .i64 a0_0, .string a0_1, .slice A0_2 l0_2.length c0_2, .slice A0_3 l0_3.length c0_3] 25 (0, 0)) (by (with_reducible repeat (first | refine blk_drewN ?_ _ | refine blk_drew ?_ | refine blk_alloc ?_ _)); exact BK324.out) hb); have n4_ := Aside0.mk (Kd.C_below (by repeat (first | (with_reducible exact HR335.out) | (with_reducible refine Kd.C_alloc ?_ _) | (with_reducible refine Kd.C_drewN ?_ _) | (with_reducible refine Kd.C_drew ?_) | exact HR335.out)) hb); have n5_ := Aside0.mk (below_step (by repeat (first | (with_reducible first | exact HB.out | apply below_alloc | apply pw_below_drewN | apply below_drew1 | refine below_set ?_ GE324.out) | exact HB.out)) hb); clear HO330; clear BK324; clear HR335; clear HB; have HO330 := n0_; have HO340 := n1_; have HO343 := n2_; have BK324 := n3_; have HR335 := n4_; have HB := n5_; clear n0_ n1_ n2_ n3_ n4_ n5_; (try clear hb); (try clear hb2); (try clear hk); (try clear hi); (try clear ho0); (try clear ho1)) | ((with_reducible refine gate_dst (N := 7) rfl ?_); refine box_event ?hg (N := 7) ?hd (cs := #[.int .i64 0, .string (⟨#[]⟩ : ByteArray), .slice none 0 0, .slice none 0 0]) (t := 25) ?hr ?_; (case hd => rfl); (case hg => rfl); (case hr => first | (go_simp; done) | (go_simp; rfl)); intro gb346 hg w64 hbox hb; have n0_ := Aside0.mk (Kd.R_below (by (with_reducible repeat (first | apply Kd.R_alloc | apply Kd.R_drewN | apply Kd.R_drew)); exact HO330.out) hb); have n1_ := Aside0.mk (Kd.R_below (by (with_reducible repeat (first | apply Kd.R_alloc | apply Kd.R_drewN | apply Kd.R_drew)); exact HO340.out) hb); have n2_ := Aside0.mk (Kd.R_below (Kd.R_elderB (by (with_reducible repeat (first | apply Kd.R_alloc | apply Kd.R_drewN | apply Kd.R_drew)); exact HO343.out) gb346 (Nat.le_of_eq hg.symm)) hb); have n3_ := Aside0.mk (blk_below (g := gb324) (o := .cells #[.int .i64 a0_0, .string a0_1, .slice A0_2 l0_2.length c0_2, .slice A0_3 l0_3.length c0_3] 25 (0, 0)) (by (with_reducible repeat (first | refine blk_drewN ?_ _ | refine blk_drew ?_ | refine blk_alloc ?_ _)); exact BK324.out) hb); have n4_ := Aside0.mk (Kd.C_below (by repeat (first | (with_reducible exact HR335.out) | (with_reducible refine Kd.C_alloc ?_ _) | (with_reducible refine Kd.C_drewN ?_ _) | (with_reducible refine Kd.C_drew ?_) | exact HR335.out)) hb); have n5_ := Aside0.mk (below_step (by repeat (first | (with_reducible first | exact HB.out | apply below_alloc | apply pw_below_drewN | apply below_drew1 | refine below_set ?_ GE324.out) | exact HB.out)) hb); have n6_ := Aside0.mk (hbox); have n7_ := Aside0.mk ((by rw [hg]; exact (below_size (by repeat (first | (with_reducible first | exact HB.out | apply below_alloc | apply pw_below_drewN | apply below_drew1 | refine below_set ?_ GE324.out) | exact HB.out))) : w.heap.size ≤ gb346)); have n8_ := Aside0.mk ((by rw [hg]; exact (below_size (by repeat (first | (with_reducible first | exact HB.out | apply below_alloc | apply pw_below_drewN | apply below_drew1 | refine below_set ?_ GE324.out) | exact HB.out))) : w.heap.size ≤ gb346)); have n9_ := Aside0.mk ((by rw [hg]; exact Nat.ne_of_lt (blk_lt (g := gb324) (o := .cells #[.int .i64 a0_0, .string a0_1, .slice A0_2 l0_2.length c0_2, .slice A0_3 l0_3.length c0_3] 25 (0, 0)) (by (with_reducible repeat (first | refine blk_drewN ?_ _ | refine blk_drew ?_ | refine blk_alloc ?_ _)); exact BK324.out)) : gb324 ≠ gb346)); have n10_ := Aside0.mk ((by rw [hg]; exact Nat.ne_of_gt (blk_lt (g := gb324) (o := .cells #[.int .i64 a0_0, .string a0_1, .slice A0_2 l0_2.length c0_2, .slice A0_3 l0_3.length c0_3] 25 (0, 0)) (by (with_reducible repeat (first | refine blk_drewN ?_ _ | refine blk_drew ?_ | refine blk_alloc ?_ _)); exact BK324.out)) : gb346 ≠ gb324)); clear HO330; clear HO340; clear HO343; clear BK324; clear HR335; clear HB; have HO330 := n0_; have HO340 := n1_; have HO343 := n2_; have BK324 := n3_; have HR335 := n4_; have HB := n5_; have BK346 := n6_; have GW346 := n7_; have GE346 := n8_; have NB324_346 := n9_; have NB346_324 := n10_; clear n0_ n1_ n2_ n3_ n4_ n5_ n6_ n7_ n8_ n9_ n10_; clear hb hbox hg; have hnb65 := NB346_324.out; have hnc65 := NB324_346.out; have hcz66_0 : w64.cell? ⟨gb346, 0, none⟩ = some (.int .i64 0) := (blk_cell BK346.out 0).trans rfl; have hcz66_1 : w64.cell? ⟨gb346, 1, none⟩ = some (.string (⟨#[]⟩ : ByteArray)) := (blk_cell BK346.out 1).trans rfl; have hcz66_2 : w64.cell? ⟨gb346, 2, none⟩ = some (.slice none 0 0) := (blk_cell BK346.out 2).trans rfl; have hcz66_3 : w64.cell? ⟨gb346, 3, none⟩ = some (.slice none 0 0) := (blk_cell BK346.out 3).trans rfl; have hfz66_0 := blk_frozen BK346.out 0; have hfz66_1 := blk_frozen BK346.out 1; have hfz66_2 := blk_frozen BK346.out 2; have hfz66_3 := blk_frozen BK346.out 3; obtain ⟨Ao67, co67, eo67⟩ := Kd.R_slice HO340.out; subst eo67; obtain ⟨Ao68, co68, eo68⟩ := Kd.R_slice HO343.out; subst eo68))
          go_ret
          exact ⟨by first | rfl | (simp [errW_none, errW_some] <;> rfl) | (simp only [← hji33]; first | rfl | (simp [errW_none, errW_some] <;> rfl)) | (simp [*, errW_none, errW_some] <;> rfl), by repeat (first | (with_reducible first | exact HB.out | apply below_alloc | apply pw_below_drewN | apply below_drew1 | refine below_set ?_ GE324.out | refine below_set ?_ GE346.out) | exact HB.out)⟩
       ·rw [if_neg c35] at H
        exact absurd H (by simp)
      ·rw [if_neg c34] at H
       exact absurd H (by simp)
    ·rw [if_neg c31] at H
     have c31b0 : (t331 == 0) = false := beq_eq_false_iff_ne.mpr c31
     have c31b1 : (t331 != 0) = true := bne_iff_ne.mpr c31
     obtain rfl := Option.some.inj H
     have hcz69_0 : wc.cell? ⟨gb324, 0, none⟩ = some (.int .i64 a0_0) := (blk_cell BK324.out 0).trans rfl
     have hcz69_1 : wc.cell? ⟨gb324, 1, none⟩ = some (.string a0_1) := (blk_cell BK324.out 1).trans rfl
     have hcz69_2 : wc.cell? ⟨gb324, 2, none⟩ = some (.slice A0_2 l0_2.length c0_2) := (blk_cell BK324.out 2).trans rfl
     have hcz69_3 : wc.cell? ⟨gb324, 3, none⟩ = some (.slice A0_3 l0_3.length c0_3) := (blk_cell BK324.out 3).trans rfl
     have hfz69_0 := blk_frozen BK324.out 0
     have hfz69_1 := blk_frozen BK324.out 1
     have hfz69_2 := blk_frozen BK324.out 2
     have hfz69_3 := blk_frozen BK324.out 3
     go_wp2_with (first | ((with_reducible refine gate_callee (f := 8) rfl ?_); refine goesL_ (some 35) rfl rfl Try.func8 (by kernel_rfl) rfl #[.agg #[.int .i64 a0_0, .string a0_1, .slice A0_2 l0_2.length c0_2, .slice A0_3 l0_3.length c0_3]] rfl (by (try simp only [List.map_toArray, List.map_cons, List.map_nil]); first | done | rfl | (simp only [List.length_drop, List.length_take]; rfl)) ?_; (with_reducible refine (json_Print.calls kj2 a0_0 a0_1 _ _ l0_2 _ _ l0_3 t328 t331 _ ?side1 ?side2 ?side3 ?side4 A30.out).mono ?_); (case side1 => repeat (first | exact (Kd.C_below HR0_2.out HB.out) | (with_reducible refine Kd.C_alloc ?_ _) | (with_reducible refine Kd.C_drewN ?_ _) | (with_reducible refine Kd.C_drew ?_))); (case side2 => exact HC0_2.out); (case side3 => repeat (first | exact (Kd.C_below HR0_3.out HB.out) | (with_reducible refine Kd.C_alloc ?_ _) | (with_reducible refine Kd.C_drewN ?_ _) | (with_reducible refine Kd.C_drew ?_))); (case side4 => exact HC0_3.out); rintro e w70 ⟨v329, rfl, ho0, hb⟩; refine ⟨_, rfl, ?_⟩; have n0_ := Aside0.mk (Kd.R_lower ho0 (below_size (by repeat (first | (with_reducible first | exact HB.out | apply below_alloc | apply pw_below_drewN | apply below_drew1 | refine below_set ?_ GE324.out) | exact HB.out)))); have n1_ := Aside0.mk (blk_below (g := gb324) (o := .cells #[.int .i64 a0_0, .string a0_1, .slice A0_2 l0_2.length c0_2, .slice A0_3 l0_3.length c0_3] 25 (0, 0)) (by (with_reducible repeat (first | refine blk_drewN ?_ _ | refine blk_drew ?_ | refine blk_alloc ?_ _)); exact BK324.out) hb); have n2_ := Aside0.mk (below_step (by repeat (first | (with_reducible first | exact HB.out | apply below_alloc | apply pw_below_drewN | apply below_drew1 | refine below_set ?_ GE324.out) | exact HB.out)) hb); clear BK324; clear HB; have HO330 := n0_; have BK324 := n1_; have HB := n2_; clear n0_ n1_ n2_; (try clear hb); (try clear hb2); (try clear hk); (try clear hi); (try clear ho0)))
     go_ret
     exact ⟨by first | rfl | (simp [errW_none, errW_some] <;> rfl) | (simp [*, errW_none, errW_some] <;> rfl), by repeat (first | (with_reducible first | exact HB.out | apply below_alloc | apply pw_below_drewN | apply below_drew1 | refine below_set ?_ GE324.out) | exact HB.out)⟩
end Go.Proofs.Yteighppcdpaekaa.P
end
section
namespace Go.Proofs.Yteighppcdpaekaa.Pr4
open Go.RowKit Go.Proofs.YteighppcdpaekaaW.PrintWords Go.Proofs.Yteighppcdpaekaa.P
open Go.Proofs.Yteighppcdpaekaa Go.Proofs.Yteighppcdpaekaa.Eq4
open Go.Proofs.Yteighppcdpaekaa.Js (Bytes escB hexd Term Out Val)
set_option linter.unusedVariables false
theorem written_ev : Ev (fun k => whetstonelaw04_written.f k) true := Ev.now true
theorem toS_kind (v : Val) : (Rd.toS v).f0 = Js.vk v := by cases v; simp [Rd.toS, Js.vk]
theorem rds_pos {t : List Int} {v : S25} {d : Nat} (h : Rds t v d) : 0 < t.length := by
 obtain ⟨c, s, rfl, _⟩ := h.fst
 simp
theorem rds_blank {t : List Int} {v : S25} {d : Nat} (h : Rds t v d) : Js.blank t 0 = 0 := by
 obtain ⟨c, s, rfl, hb, _⟩ := h.fst
 exact Js.blank_none (c := c) rfl hb
theorem parse_cut {t : List Int} {v : S25} (h : Rds t v 0) (hl : t.length ≤ 100000000000) (hk : v.f0 ≠ 3) {c : Nat} (hc : c < t.length) : ∃ x e, Ev (fun k => json_Parse.f k (t.take c)) (0, ⟨#[]⟩, [], [], x, e) ∧ (e = 11 ∨ e = 10 ∨ e = 6) := by
 have hb : Bytes (t.take c) := fun x hx => h.byt x (List.mem_of_mem_take hx)
 have hlc : (t.take c).length ≤ 100000000000 := by rw [List.length_take]; omega
 by_cases hv : Js.V (t.take c)
 ·have key : ∃ K o, Js.value (t.take c) K 0 (Js.blank (t.take c) 0) = some o ∧ Js.Fails o := by
   by_cases h0 : c = 0
   ·subst h0
    exact ⟨1, .no 0 11, by rw [Js.value_succ]; rfl, 0, 11, rfl, .inl rfl⟩
   ·obtain ⟨v', K, hq, hK⟩ := h.rd
    have hval := hK t 0 [] (by simp) Term.nil
    have hk' : Js.vk v' ≠ 3 := by
     rw [← toS_kind]
     rw [eqS_eq] at hq
     split at hq
     ·rename_i he; rw [← he]; exact hk
     ·cases hq
    rw [Js.blank_take (by omega), rds_blank h, Nat.zero_min]
    exact ⟨K, Js.value_cut (by omega) hval hk' (by omega)⟩
  obtain ⟨K, o, ho, x, e, rfl, he⟩ := key
  have hp : Rd.parsed (t.take c) K = some (.no x e) := by unfold Rd.parsed; rw [ho]
  refine ⟨x, e, parse_ev hb hlc hv hp, ?_⟩
  rcases he with rfl | rfl
  ·exact .inl rfl
  ·exact .inr (.inr rfl)
 ·obtain ⟨x, hx⟩ := parse_utf hb hlc hv
  exact ⟨x, 10, hx, .inr (.inl rfl)⟩
theorem print_ev {v : S25} {r : List Int} {e : Int} (h : Ev (fun k => Wr.wr k [] v ((0 : Nat) : Int)) (r, e)) : Ev (fun k => json_Print.f k v.f0 v.f1 v.f2 v.f3) (r, e) :=
 Ev.congr (fun k => by show Wr.wr k [] ⟨v.f0, v.f1, v.f2, v.f3⟩ 0 = Wr.wr k [] v ((0 : Nat) : Int); rw [S25_eta]; rfl) h
theorem cuts_pure (v : S25) (cut : Int) (hsz : szS v ≤ 1048576) : ∃ k, whetstonelaw04_JsonCuts.f k v.f0 v.f1 v.f2 v.f3 cut = some true := by
 refine Ev.rounds (g := fun k => whetstonelaw04_JsonCuts.f k v.f0 v.f1 v.f2 v.f3 cut) ?_
 have yes : Ev (fun k => whetstonelaw04_JsonCuts.j0 k cut true v.f0 v.f1 v.f2 v.f3) true := Ev.step (fun k => rfl) (by
  simp only [whetstonelaw04_JsonCuts.j0]
  exact Evpos (by trivial) (Ev.bind written_ev (Ev.now _)))
 obtain ⟨x, hx, hL⟩ := few_val v
 refine Ev.bind written_ev (Evpos rfl (Ev.bind hx ?_))
 cases x with
 | false => exact Evneg (by simp) yes
 | true =>
  refine Evpos rfl ?_
  have hA := hL rfl
  have no : (v.f0 = 5 ∨ v.f0 = 6 ∨ v.f0 = 4) → Ev (fun k => whetstonelaw04_JsonCuts.j0 k cut false v.f0 v.f1 v.f2 v.f3) true := by
   intro hk
   refine Ev.step (fun k => rfl) ?_
   simp only [whetstonelaw04_JsonCuts.j0]
   refine Evneg (by simp) ?_
   obtain ⟨r, e, hE, hW⟩ := wr_val _ v [] 0 (Nat.le_refl _) hA (by simp; omega) (by omega)
   refine Ev.bind (a := (r, e)) (print_ev hE) ?_
   by_cases he : e = 0
   ·obtain ⟨t, ht, hR, hlen⟩ := hW he
    rw [List.nil_append] at ht
    subst ht
    have hpos := rds_pos hR
    have hw : IntKind.u64.wrap ((r.length : Nat) : Int) = (r.length : Int) := by simp [IntKind.wrap, IntKind.bits, IntKind.signed]; omega
    have hm0 : 0 ≤ IntKind.u64.wrap cut := by simp [IntKind.wrap, IntKind.bits, IntKind.signed]; omega
    generalize IntKind.u64.wrap cut = m at hm0
    have htm : wrap64 (Int.tmod m (r.length : Int)) = m % (r.length : Int) := by
     rw [Int.tmod_eq_emod_of_nonneg hm0]
     have h1 := Int.emod_nonneg m (show (r.length : Int) ≠ 0 by omega)
     have h2 := Int.emod_lt_of_pos m (show (0 : Int) < (r.length : Int) by omega)
     unfold wrap64; omega
    have h1 := Int.emod_nonneg m (show (r.length : Int) ≠ 0 by omega)
    have h2 := Int.emod_lt_of_pos m (show (0 : Int) < (r.length : Int) by omega)
    simp only [hw, htm]
    refine Evpos he (Evneg (by omega) (Evpos h1 (Evpos (by omega) ?_)))
    obtain ⟨y, e2, hE2, he2⟩ := parse_cut hR (by omega) (by omega) (c := (m % (r.length : Int)).toNat) (by omega)
    refine Ev.bind hE2 ?_
    rcases he2 with rfl | rfl | rfl
    ·exact Evpos rfl (Ev.now _)
    ·exact Evneg (show ¬ ((10 : Int) = 11) by decide) (Evpos rfl (Ev.now _))
    ·exact Evneg (show ¬ ((6 : Int) = 11) by decide) (Evneg (show ¬ ((6 : Int) = 10) by decide) (Ev.now _))
   ·exact Evneg he (Ev.now _)
  by_cases h5 : v.f0 = 5
  ·exact Evpos h5 (no (.inl h5))
  refine Evneg h5 ?_
  by_cases h6 : v.f0 = 6
  ·exact Evpos h6 (no (.inr (.inl h6)))
  refine Evneg h6 ?_
  by_cases h4 : v.f0 = 4
  ·rw [show (v.f0 != 4) = false by simp [h4]]
   exact no (.inr (.inr h4))
  ·rw [show (v.f0 != 4) = true by simp [h4]]
   exact yes
end Go.Proofs.Yteighppcdpaekaa.Pr4
end
section
namespace Go.Proofs.Yteighppcdpaekaa.jsonCuts
open Go.ChangeShapes Go.WideShapes Go.ChangeAt Go.RowKit Go.Proofs.YteighppcdpaekaaW.PrintWords Go.Proofs.Yteighppcdpaekaa.P Go.Proofs.Yteighppcdpaekaa.Eq4
set_option linter.unusedVariables false
theorem own : ownKnob Try.prog.godebug = none := by kernel_rfl
theorem laidOut : laidOutB Try.prog = true := by kernel_rfl
theorem contract (H : Type) (enc : TypeId × Value → H) (W : World) (base : Nat) (args : Array Value) (ds gs : List (DataW H)) (before : List MemPlace)
  (hval0 : ∀ (j : Nat) t v, Try.f3.params[j]? = some t → args[j]? = some v → Value.okWide Try.prog W .any base t v)
  (hW : DataW.Whole enc Try.prog Try.f3.params.toList Rows.jsonCutsSpec.vars false W args.toList ds gs before) (hk : Rows.uptoSmall H (ds ++ gs) = true) :
  Calls Try.prog 3 args W fun e W' => ∃ v, e = .returned v ∧ Rows.jsonCutsSpec.post enc Try.prog Try.f3 false true false false W args v W' := by
 have hval := hval0
 have hW' := hW
 obtain ⟨p, q, hA0, hV, rfl, hfz, hnd⟩ := hW
 have hA : DataW.TrodAll enc Try.prog W 0 (fun _ => true) true Try.f3.params.toList args.toList ds p := hA0
 rw [Try.params3] at hA hval
 obtain ⟨v0, vs0, d0, ds0, p0, q0, hargs, rfl, rfl, h0, r0⟩ := trodAll_cons hA
 obtain ⟨v1, vs1, d1, ds1, p1, q1, rfl, rfl, rfl, h1, r1⟩ := trodAll_cons r0
 obtain ⟨rfl, rfl, rfl⟩ := trodAll_nil r1
 obtain rfl : args = #[v0, v1] := by cases args; simp_all
 obtain ⟨rfl, rfl⟩ := trodVars_none hV
 have k0 := h0
 have lt0 : ∀ x ∈ p0, x.block < W.heap.size := by obtain ⟨m, hm⟩ := k0; exact DataW.trod_lt m _ _ _ hm
 have hb : Rows.uptoBulkAll ([d0, d1] ++ []) ≤ 1048576 := of_decide_eq_true hk
 obtain ⟨s0, A2, c2, A3, c3, rfl, l2, g2, l3, g3, hs0⟩ := openArgB25 (hval 0 25 v0 rfl rfl) h0
 obtain ⟨a1, rfl, rfl, rfl, w1⟩ := open_int Try.underlying3 (hval 1 3 v1 rfl rfl) h1
 have hsz : szS s0 ≤ 1048576 := by
  simp only [List.append_nil, Rows.uptoBulkAll] at hb
  omega
 clear hA0 hval0
 obtain ⟨k, hk2⟩ := Pr4.cuts_pure s0 a1 hsz
 refine (whetstonelaw04_JsonCuts.calls k s0.f0 s0.f1 A2 c2 s0.f2 A3 c3 s0.f3 a1 true W g2 l2 g3 l3 hk2).mono fun e W' ⟨he, bel⟩ => ?_
 subst he
 exact ⟨_, rfl, _, _, _, [], _, [], hW', trodAll_mk1 (shut_bool Try.underlying4 _), (trodAll_cons_mk (Below.trod laidOut (by kernel_rfl) (of_decide_eq_true (by kernel_rfl)) k0 bel lt0) (trodAll_cons_mk (shut_int Try.underlying3 w1) trodAll_mk0)), rfl, bel.frame _, fun h => by cases h⟩
set_option maxRecDepth 100000 in
theorem lifted (os : Os) (started : os.Started) (H : Type) (enc : TypeId × Value → H) (F : Stop.Interp) :
  ReturnsInHanded {} Try.checked os 3 .any ((Rows.OpenSpec.upto Rows.jsonCutsSpec).pre6 enc Try.prog Try.f3 Rows.jsonCutsUptoRow.domain false) (((Rows.OpenSpec.upto Rows.jsonCutsSpec).at F).post enc Try.prog Try.f3 false true false false) := by
 refine returnsInHanded_of_cond (C := Try.checked) (s := Rows.OpenSpec.upto Rows.jsonCutsSpec) (k := Rows.uptoSmall) rfl own started (by kernel_rfl) Try.func3
  (OpenSpec.witness (enc := enc) (C := Try.checked) (s := Rows.OpenSpec.upto Rows.jsonCutsSpec) (k := Rows.uptoSmall) rfl false ⟨#[], #[.agg #[.int .i64 0, .string .empty, .slice none 0 0, .slice none 0 0], .int .i64 0], []⟩ 8 (by kernel_rfl) (by kernel_rfl) (by kernel_rfl)
   (x := ([.agg [.lit (.int .i64 0), .lit (.string []), .nil, .nil], .lit (.int .i64 0)], [], [])) (by kernel_rfl) rfl (by kernel_rfl)) ?_
 intro W base args ds gs before hval hW _ hk _
 exact contract H enc W base args ds gs before hval hW hk
theorem proved : Rows.JsonCutsUptoSaid :=
 OpenClaim.holds_of_cond 3 Try.f3 rfl rfl rfl rfl rfl rfl rfl ⟨rfl, rfl, rfl, rfl, rfl⟩ rfl rfl rfl rfl rfl (by kernel_rfl) Try.func3 (by kernel_rfl)
  (of_decide_eq_true (by kernel_rfl)) (by unfold Func.isWrapper; first | (rw [if_pos (by decide +kernel)]; kernel_rfl) | (rw [if_neg (by decide +kernel)]; exact ⟨rfl, rfl⟩))
  (fun os started H enc _ F => lifted os started H enc F)
end Go.Proofs.Yteighppcdpaekaa.jsonCuts
namespace Go.Proofs.Yteighppcdpaekaa
theorem jsonCutsUpto_holds : Rows.JsonCutsUptoSaid := jsonCuts.proved
#print axioms jsonCutsUpto_holds
end Go.Proofs.Yteighppcdpaekaa
end
