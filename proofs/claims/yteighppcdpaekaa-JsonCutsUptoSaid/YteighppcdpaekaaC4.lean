/- Walks and words of this session, put together by a program of this session (pack.py). Conditions: as each text says. -/
import Derived.Test.YteighppcdpaekaaC2
import Derived.Test.YteighppcdpaekaaC3
set_option linter.unusedVariables false
set_option linter.unusedSimpArgs false
section
namespace Go.Proofs.Yteighppcdpaekaa.Js
theorem at_lt {b : List Int} {p : Nat} {c : Int} (h : b[p]? = some c) : p < b.length := (List.getElem?_eq_some_iff.1 h).1
theorem at_none {b : List Int} {p : Nat} (h : b.length ≤ p) : b[p]? = none := by simpa using h
theorem at_cons {b : List Int} {p : Nat} {c : Int} {s : List Int} (h : b.drop p = c :: s) : b[p]? = some c ∧ b.drop (p + 1) = s := by
 refine ⟨?_, ?_⟩
 ·have := congrArg (fun l => l[0]?) h
  simpa using this
 ·rw [← List.drop_drop, h]
  rfl
theorem textTo_total (b : List Int) : ∀ (n p : Nat) (out : List Int), b.length - p ≤ n → ∃ o, textTo b (n + 1) out p = some o := by
 intro n
 induction n with
 | zero =>
  intro p out h
  exact ⟨_, by rw [textTo, at_none (by omega)]⟩
 | succ n ih =>
  intro p out h
  cases hx : b[p]? with
  | none => exact ⟨_, by rw [textTo, hx]⟩
  | some c =>
   have hl := at_lt hx
   rw [textTo]
   simp only [hx]
   split
   ·exact ⟨_, rfl⟩
   ·split
    ·cases he : escape b (p + 1) with
     | no x e => exact ⟨_, rfl⟩
     | ok l q => have := escape_le he; exact ih q _ (by omega)
    ·split
     ·exact ⟨_, rfl⟩
     ·exact ih _ _ (by omega)
theorem textTo_more {b : List Int} {k p : Nat} {out : List Int} {o : Out (List Int)} (h : textTo b k out p = some o) {m : Nat} (hm : k ≤ m) : textTo b m out p = some o := by
 obtain ⟨j, rfl⟩ : ∃ j, m = k + j := ⟨m - k, by omega⟩
 clear hm
 induction j with
 | zero => exact h
 | succ j ih => exact textTo_mono ih
theorem value_more {b : List Int} {k d p : Nat} {o : Out Val} (h : value b k d p = some o) {m : Nat} (hm : k ≤ m) : value b m d p = some o := by
 obtain ⟨j, rfl⟩ : ∃ j, m = k + j := ⟨m - k, by omega⟩
 clear hm
 induction j with
 | zero => exact h
 | succ j ih => exact value_mono ih
theorem items_more {b : List Int} {k d p : Nat} {l : List Val} {o : Out Val} (h : items b k d l p = some o) {m : Nat} (hm : k ≤ m) : items b m d l p = some o := by
 obtain ⟨j, rfl⟩ : ∃ j, m = k + j := ⟨m - k, by omega⟩
 clear hm
 induction j with
 | zero => exact h
 | succ j ih => exact (all_mono b _).2.1 _ _ _ _ ih
theorem pairs_more {b : List Int} {k d p : Nat} {ks : List (List Int)} {l : List Val} {o : Out Val} (h : pairs b k d ks l p = some o) {m : Nat} (hm : k ≤ m) : pairs b m d ks l p = some o := by
 obtain ⟨j, rfl⟩ : ∃ j, m = k + j := ⟨m - k, by omega⟩
 clear hm
 induction j with
 | zero => exact h
 | succ j ih => exact (all_mono b _).2.2 _ _ _ _ _ ih
theorem text_total (b : List Int) (p k : Nat) (h : b.length - p < k) : ∃ o, text b k p = some o := by
 unfold text
 cases hx : b[p]? with
 | none => exact ⟨_, rfl⟩
 | some c =>
  simp only
  split
  ·obtain ⟨o, ho⟩ := textTo_total b (b.length - (p + 1)) (p + 1) [] (Nat.le_refl _)
   exact ⟨o, textTo_more ho (by omega)⟩
  ·exact ⟨_, rfl⟩
theorem all_total (b : List Int) : ∀ n, (∀ d p, b.length - p ≤ n → ∃ o, value b (2 * n + 3) d p = some o) ∧ (∀ d l p, b.length - p ≤ n → ∃ o, items b (2 * n + 4) d l p = some o) ∧ (∀ d ks l p, b.length - p ≤ n → ∃ o, pairs b (2 * n + 4) d ks l p = some o) := by
 intro n
 induction n with
 | zero =>
  have hv : ∀ d p, b.length - p ≤ 0 → value b 3 d p = some (.no p 11) := fun d p h => by rw [value_succ, at_none (by omega)]
  refine ⟨fun d p h => ⟨_, hv d p h⟩, fun d l p h => ⟨_, by rw [items, hv d p h]⟩, fun d ks l p h => ?_⟩
  have ht : text b 3 p = some (.no p 11) := by unfold text; rw [at_none (by omega)]
  exact ⟨_, by rw [pairs, ht]⟩
 | succ n ih =>
  obtain ⟨_, i2, i3⟩ := ih
  have hv : ∀ d p, b.length - p ≤ n + 1 → ∃ o, value b (2 * (n + 1) + 3) d p = some o := by
   intro d p h
   rw [show 2 * (n + 1) + 3 = (2 * n + 4) + 1 by omega, value_succ]
   cases hx : b[p]? with
   | none => exact ⟨_, rfl⟩
   | some c =>
    have hl := at_lt hx
    have hbl := blank_le (b := b) (p := p + 1) (by omega)
    simp only
    split
    ·unfold obj enter
     by_cases hd : d + 1 > 64
     ·rw [if_pos hd]; exact ⟨_, rfl⟩
     ·rw [if_neg hd]
      simp only
      cases hy : b[blank b (p + 1)]? with
      | none => exact ⟨_, rfl⟩
      | some c2 =>
       simp only
       split
       ·exact ⟨_, rfl⟩
       ·exact i3 _ _ _ _ (by omega)
    split
    ·unfold arr enter
     by_cases hd : d + 1 > 64
     ·rw [if_pos hd]; exact ⟨_, rfl⟩
     ·rw [if_neg hd]
      simp only
      cases hy : b[blank b (p + 1)]? with
      | none => exact ⟨_, rfl⟩
      | some c2 =>
       simp only
       split
       ·exact ⟨_, rfl⟩
       ·exact i2 _ _ _ (by omega)
    split
    ·obtain ⟨o, ho⟩ := text_total b p (2 * n + 4) (by omega)
     rw [ho]
     exact ⟨_, rfl⟩
    split
    ·exact ⟨_, rfl⟩
    split
    ·exact ⟨_, rfl⟩
    split
    ·exact ⟨_, rfl⟩
    ·exact ⟨_, rfl⟩
  refine ⟨hv, fun d l p h => ?_, fun d ks l p h => ?_⟩
  ·obtain ⟨o, ho⟩ := hv d p h
   rw [show 2 * (n + 1) + 4 = (2 * (n + 1) + 3) + 1 by omega, items, ho]
   cases o with
   | no x e => exact ⟨_, rfl⟩
   | ok v q =>
    have h1 := value_le ho
    simp only
    cases hc : comma b 93 q with
    | no x e => exact ⟨_, rfl⟩
    | ok t s =>
     have h2 := comma_le h1.2 hc
     cases t with
     | false => exact ⟨_, rfl⟩
     | true =>
      obtain ⟨o2, ho2⟩ := i2 d (l ++ [v]) s (by omega)
      exact ⟨o2, items_more ho2 (by omega)⟩
  ·obtain ⟨ot, hot⟩ := text_total b p (2 * (n + 1) + 3) (by omega)
   rw [show 2 * (n + 1) + 4 = (2 * (n + 1) + 3) + 1 by omega, pairs, hot]
   cases ot with
   | no x e => exact ⟨_, rfl⟩
   | ok key q =>
    have h0 := text_le hot
    have h01 := blank_le (b := b) (p := q) h0.2
    simp only
    split
    ·exact ⟨_, rfl⟩
    cases hx : b[blank b q]? with
    | none => exact ⟨_, rfl⟩
    | some c =>
     have hl := at_lt hx
     have h02 := blank_le (b := b) (p := blank b q + 1) (by omega)
     simp only
     split
     ·obtain ⟨o, ho⟩ := hv d (blank b (blank b q + 1)) (by omega)
      rw [ho]
      cases o with
      | no x e => exact ⟨_, rfl⟩
      | ok v r =>
       have h1 := value_le ho
       simp only
       cases hc : comma b 125 r with
       | no x e => exact ⟨_, rfl⟩
       | ok t s =>
        have h2 := comma_le h1.2 hc
        cases t with
        | false => exact ⟨_, rfl⟩
        | true =>
         obtain ⟨o2, ho2⟩ := i3 d (ks ++ [key]) (l ++ [v]) s (by omega)
         exact ⟨o2, pairs_more ho2 (by omega)⟩
     ·exact ⟨_, rfl⟩
theorem value_total (b : List Int) (d p : Nat) : ∃ k o, value b k d p = some o := by
 obtain ⟨o, ho⟩ := (all_total b (b.length - p)).1 d p (Nat.le_refl _)
 exact ⟨_, o, ho⟩
def Term (post : List Int) : Prop := ∀ c, post[0]? = some c → isDigit c = false ∧ c ≠ 46 ∧ c ≠ 101 ∧ c ≠ 69
theorem Term.nil : Term [] := fun c h => by simp at h
theorem digitLen_ext {l post : List Int} (h : Term post) : digitLen (l ++ post) = digitLen l := by
 induction l with
 | nil =>
  cases post with
  | nil => rfl
  | cons c r => simp [digitLen, (h c rfl).1]
 | cons c r ih => simp [digitLen, ih]
section
variable {b t post : List Int} {p : Nat} (hb : b.drop p = t ++ post)
include hb
theorem sub_at {i : Nat} (hi : i < t.length) : b[p + i]? = t[i]? := by
 have h := congrArg (fun l => l[i]?) hb
 simpa [List.getElem?_append_left hi] using h
theorem sub_end : b[p + t.length]? = post[0]? := by
 have h : (b.drop p)[t.length]? = (t ++ post)[t.length]? := by rw [hb]
 rw [List.getElem?_drop, List.getElem?_append_right (Nat.le_refl _), Nat.sub_self] at h
 exact h
theorem sub_drop {i : Nat} (hi : i ≤ t.length) : b.drop (p + i) = t.drop i ++ post := by
 rw [← List.drop_drop, hb, List.drop_append_of_le_length hi]
theorem digits_ext (ht : Term post) {i j : Nat} (h : digits t i = .ok () j) : digits b (p + i) = .ok () (p + j) := by
 have hl := digits_le h
 unfold digits at h ⊢
 rw [sub_at hb (by omega)]
 cases hx : t[i]? with
 | none => simp [hx] at h
 | some c =>
  simp only [hx] at h ⊢
  split at h
  ·rename_i hd
   rw [if_pos hd, sub_drop hb (by omega), digitLen_ext ht]
   simp at h ⊢
   omega
  ·cases h
theorem next_sub {i : Nat} (hi : i < t.length) (c : Int) : next b (p + i) c = next t i c := by
 unfold next
 rw [sub_at hb hi]
theorem next_end (ht : Term post) {c : Int} (hc : c = 46 ∨ c = 101 ∨ c = 69) : next b (p + t.length) c = false := by
 unfold next
 rw [sub_end hb]
 cases hx : post[0]? with
 | none => rfl
 | some d =>
  have := ht d hx
  simp
  intro e
  subst e
  omega
omit hb in
theorem next_out {i : Nat} (hi : t.length ≤ i) (c : Int) : next t i c = false := by
 unfold next
 rw [at_none hi]
 rfl
theorem numSign_ext (ht : Term post) {i j : Nat} (h : numSign t i = .ok () j) : numSign b (p + i) = .ok () (p + j) := by
 have hl := numSign_le h
 unfold numSign at h ⊢
 rw [next_sub hb (by omega), next_sub hb (by omega)]
 split at h
 ·rename_i hc; rw [if_pos hc, Nat.add_assoc]; exact digits_ext hb ht h
 ·rename_i hc; rw [if_neg hc]; exact digits_ext hb ht h
theorem numExp_ext (ht : Term post) {i j : Nat} (hi : i ≤ t.length) (h : numExp t i = .ok () j) : numExp b (p + i) = .ok () (p + j) := by
 unfold numExp at h ⊢
 by_cases he : i < t.length
 ·rw [next_sub hb he, next_sub hb he]
  split at h
  ·rename_i hc; rw [if_pos hc, Nat.add_assoc]; exact numSign_ext hb ht h
  ·rename_i hc; rw [if_neg hc]; simp at h ⊢; omega
 ·obtain rfl : i = t.length := by omega
  rw [next_end hb ht (by omega), next_end hb ht (by omega)]
  rw [next_out (Nat.le_refl _), next_out (Nat.le_refl _)] at h
  simp at h ⊢
  exact h
theorem numFrac_ext (ht : Term post) {i j : Nat} (hi : i ≤ t.length) (h : numFrac t i = .ok () j) : numFrac b (p + i) = .ok () (p + j) := by
 unfold numFrac at h ⊢
 by_cases he : i < t.length
 ·rw [next_sub hb he]
  split at h
  ·rename_i hc
   rw [if_pos hc]
   cases hd : digits t (i + 1) with
   | no x e => simp [hd] at h
   | ok u r =>
    rw [Nat.add_assoc, digits_ext hb ht hd]
    simp only [hd] at h
    exact numExp_ext hb ht (digits_le hd).2 h
  ·rename_i hc; rw [if_neg hc]; exact numExp_ext hb ht hi h
 ·obtain rfl : i = t.length := by omega
  rw [next_end hb ht (by omega)]
  rw [next_out (Nat.le_refl _)] at h
  simp only [Bool.false_eq_true, if_false] at h ⊢
  exact numExp_ext hb ht hi h
theorem numInt_ext (ht : Term post) {i j : Nat} (h : numInt t i = .ok () j) : numInt b (p + i) = .ok () (p + j) := by
 unfold numInt at h ⊢
 cases hx : t[i]? with
 | none => simp [hx] at h
 | some c =>
  have hl := at_lt hx
  rw [sub_at hb hl, hx]
  simp only [hx] at h ⊢
  split at h
  ·rename_i hc; rw [if_pos hc, Nat.add_assoc]; exact numFrac_ext hb ht (by omega) h
  ·rename_i hc
   rw [if_neg hc]
   cases hd : digits t i with
   | no x e => simp [hd] at h
   | ok u r =>
    rw [digits_ext hb ht hd]
    simp only [hd] at h
    exact numFrac_ext hb ht (digits_le hd).2 h
theorem number_ext (ht : Term post) (h : number t 0 = .ok () t.length) : number b p = .ok () (p + t.length) := by
 have hl := number_lt h
 unfold number at h ⊢
 have := next_sub hb (i := 0) (by omega) 45
 rw [Nat.add_zero] at this
 rw [this]
 split at h
 ·rename_i hc; rw [if_pos hc]; exact numInt_ext hb ht h
 ·rename_i hc; rw [if_neg hc]; exact numInt_ext hb ht (i := 0) h
end
def hexd (n : Int) : Int := if n < 10 then 48 + n else 87 + n
def escB (c : Int) : List Int :=
 if c = 34 ∨ c = 92 then [92, c] else if c = 8 then [92, 98] else if c = 9 then [92, 116] else if c = 10 then [92, 110] else if c = 12 then [92, 102] else if c = 13 then [92, 114]
 else if c < 32 then [92, 117, 48, 48, hexd (c / 16), hexd (c % 16)] else [c]
def Bytes (b : List Int) : Prop := ∀ x ∈ b, 0 ≤ x ∧ x ≤ 255
theorem hexDigit_hexd {n : Int} (h0 : 0 ≤ n) (h1 : n < 16) : hexDigit (hexd n) = some n := by
 unfold hexDigit hexd
 by_cases h : n < 10
 ·rw [if_pos h, if_pos (by omega)]; simp; omega
 ·rw [if_neg h, if_neg (by omega), if_pos (by omega)]; simp; omega
theorem escB_len (c : Int) : 1 ≤ (escB c).length ∧ (escB c).length ≤ 6 := by
 unfold escB
 repeat' split
 all_goals simp
theorem textTo_one {b : List Int} {k p : Nat} {out s : List Int} {c : Int} (h0 : 0 ≤ c) (h : b.drop p = escB c ++ s) : textTo b (k + 1) out p = textTo b k (out ++ [c]) (p + (escB c).length) := by
 have two : ∀ x : Int, ∀ y : Int, b.drop p = [92, x] ++ s → escape b (p + 1) = .ok [y] (p + 2) → textTo b (k + 1) out p = textTo b k (out ++ [y]) (p + 2) := by
  intro x y hb he
  obtain ⟨a0, _⟩ := at_cons (c := 92) (s := x :: s) (by simpa using hb)
  rw [textTo, a0]
  simp [he]
 have one : ∀ x : Int, b.drop p = [92, x] ++ s → b[p + 1]? = some x := fun x hb => (at_cons (at_cons (c := 92) (s := x :: s) (by simpa using hb)).2).1
 unfold escB at h ⊢
 by_cases e1 : c = 34 ∨ c = 92
 ·rw [if_pos e1] at h ⊢
  refine two _ _ h ?_
  unfold escape
  rw [one _ h]
  simp only
  rw [if_pos (by rcases e1 with e | e <;> subst e <;> rfl)]
 rw [if_neg e1] at h ⊢
 by_cases e2 : c = 8
 ·rw [if_pos e2] at h ⊢
  subst e2
  refine two _ _ h ?_
  unfold escape
  rw [one _ h]
  rfl
 rw [if_neg e2] at h ⊢
 by_cases e3 : c = 9
 ·rw [if_pos e3] at h ⊢
  subst e3
  refine two _ _ h ?_
  unfold escape
  rw [one _ h]
  rfl
 rw [if_neg e3] at h ⊢
 by_cases e4 : c = 10
 ·rw [if_pos e4] at h ⊢
  subst e4
  refine two _ _ h ?_
  unfold escape
  rw [one _ h]
  rfl
 rw [if_neg e4] at h ⊢
 by_cases e5 : c = 12
 ·rw [if_pos e5] at h ⊢
  subst e5
  refine two _ _ h ?_
  unfold escape
  rw [one _ h]
  rfl
 rw [if_neg e5] at h ⊢
 by_cases e6 : c = 13
 ·rw [if_pos e6] at h ⊢
  subst e6
  refine two _ _ h ?_
  unfold escape
  rw [one _ h]
  rfl
 rw [if_neg e6] at h ⊢
 by_cases e7 : c < 32
 ·rw [if_pos e7] at h ⊢
  obtain ⟨a0, h1⟩ := at_cons (c := 92) (s := 117 :: 48 :: 48 :: hexd (c / 16) :: hexd (c % 16) :: s) (by simpa using h)
  obtain ⟨a1, h2⟩ := at_cons h1
  obtain ⟨a2, h3⟩ := at_cons h2
  obtain ⟨a3, h4⟩ := at_cons h3
  obtain ⟨a4, h5⟩ := at_cons h4
  obtain ⟨a5, _⟩ := at_cons h5
  have d1 := hexDigit_hexd (n := c / 16) (by omega) (by omega)
  have d2 := hexDigit_hexd (n := c % 16) (by omega) (by omega)
  have hx : hex b (p + 2) = .ok c (p + 6) := by
   unfold hex
   simp only [hexTo, a2, a3, a4, a5, d1, d2, show hexDigit 48 = some 0 from rfl]
   simp
   omega
  have he : escape b (p + 1) = .ok [c] (p + 6) := by
   unfold escape
   rw [a1]
   simp only
   rw [if_neg (by decide), if_neg (by decide), if_neg (by decide), if_neg (by decide), if_neg (by decide), if_neg (by decide), if_pos (by decide)]
   unfold unit
   rw [hx]
   simp only
   rw [if_neg (by omega)]
   unfold encode
   rw [if_neg (by omega), if_pos (by omega)]
  rw [textTo, a0]
  simp [he]
 ·rw [if_neg e7] at h ⊢
  obtain ⟨a0, _⟩ := at_cons (c := c) (s := s) (by simpa using h)
  rw [textTo, a0]
  simp only
  rw [if_neg (by simp; omega), if_neg (by simp; omega), if_neg e7]
  rfl
theorem textTo_back {l : List Int} (hl : ∀ x ∈ l, 0 ≤ x) : ∀ {b : List Int} {k p : Nat} {out post : List Int}, b.drop p = l.flatMap escB ++ 34 :: post → l.length < k → textTo b k out p = some (.ok (out ++ l) (p + (l.flatMap escB).length + 1)) := by
 induction l with
 | nil =>
  intro b k p out post h hk
  obtain ⟨k, rfl⟩ : ∃ m, k = m + 1 := ⟨k - 1, by simp at hk; omega⟩
  obtain ⟨a0, _⟩ := at_cons (c := 34) (s := post) (by simpa using h)
  rw [textTo, a0]
  simp
 | cons c l ih =>
  intro b k p out post h hk
  obtain ⟨k, rfl⟩ : ∃ m, k = m + 1 := ⟨k - 1, by simp at hk; omega⟩
  have h' : b.drop p = escB c ++ (l.flatMap escB ++ 34 :: post) := by rw [h]; simp
  rw [textTo_one (hl c (List.mem_cons_self ..)) h', ih (fun x hx => hl x (List.mem_cons_of_mem _ hx)) (post := post) (by rw [← List.drop_drop, h']; simp) (by simp at hk; omega)]
  simp [Nat.add_assoc]
theorem text_back {l : List Int} (hl : ∀ x ∈ l, 0 ≤ x) {b : List Int} {k p : Nat} {post : List Int} (h : b.drop p = 34 :: l.flatMap escB ++ 34 :: post) (hk : l.length < k) : text b k p = some (.ok l (p + (l.flatMap escB).length + 2)) := by
 obtain ⟨a0, h1⟩ := at_cons (c := 34) (s := l.flatMap escB ++ 34 :: post) (by simpa using h)
 unfold text
 rw [a0]
 simp only
 rw [if_pos (by decide), textTo_back hl h1 hk]
 simp
 omega
theorem blank_none {b : List Int} {p : Nat} {c : Int} (h : b[p]? = some c) (hc : isBlank c = false) : blank b p = p := by
 unfold blank
 rw [blank_stop h hc]
 rfl
theorem blank_past {b : List Int} {p : Nat} (h : b[p]? = none) : blank b p = p := by
 unfold blank
 rw [blank_end h]
 rfl
end Go.Proofs.Yteighppcdpaekaa.Js
end
section
namespace Go.Proofs.Yteighppcdpaekaa.P
open Go.RowKit Go.Proofs.YteighppcdpaekaaW.PrintWords Go.Proofs.YteighppcdpaekaaW.PrintLast Go.Proofs.YteighppcdpaekaaW.PrintMore
attribute [local go_sem] max2_int min2_int max_two min_two max_three min_three max_four min_four
set_option linter.unusedVariables false
set_option linter.unusedSimpArgs false
def utf_more.f (l0 : List Int) (a1 : Int) : Option (Bool) := if a1 < (l0.length : Int) then (if 0 ≤ a1 then (some ((Go.bits .and .u8 (rd l0 a1) 192) == 128)) else (none)) else (some false)
set_option maxHeartbeats 8000000 in
set_option maxRecDepth 100000 in
theorem utf_more.calls (A0 : Option Addr) (c0 : Nat) (l0 : List Int) (a1 : Int) (r : Bool) (w : World) (hr0 : Kd.C (Kd.int .u8) w A0 l0.length l0) (hc0 : l0.length ≤ c0) (h : utf_more.f l0 a1 = some r) :
  Calls Try.prog 33 #[.slice A0 l0.length c0, .int .i64 a1] w fun e w' => e = .returned (.bool r) ∧ Drawn0 w w' := by
 have HR0 := Aside0.mk hr0
 have HC0 := Aside0.mk hc0
 clear hr0 hc0
 have H : (if a1 < (l0.length : Int) then (if 0 ≤ a1 then (some ((Go.bits .and .u8 (rd l0 a1) 192) == 128)) else (none)) else (some false)) = some r := h
 clear h
 by_cases c3 : a1 < (l0.length : Int)
 ·rw [if_pos c3] at H
  have c3b0 : decide (a1 < (l0.length : Int)) = true := decide_eq_true c3
  clear c3
  by_cases c4 : 0 ≤ a1
  ·rw [if_pos c4] at H
   have c4b0 : decide (0 ≤ a1) = true := decide_eq_true c4
   clear c4
   obtain rfl := Option.some.inj H
   have p101 : 0 ≤ (a1 : Int) := of_decide_eq_true (by first | (with_reducible assumption) | assumption)
   have q101 : a1 < (l0.length : Int) := of_decide_eq_true (by first | (with_reducible assumption) | assumption)
   obtain ⟨ad101, e101, hx101_0⟩ := Kd.at_int HR0.out a1 p101 q101
   cases e101
   replace p101 := eq_true p101
   replace q101 := eq_true q101
   go_enter Try.func33, Try.ntmps33
   go_wp2
   go_ret
   exact ⟨by first | rfl | (simp; done) | (simp [*]; done), by repeat (first | exact Drawn0.refl _ | apply Drawn0.step)⟩
  ·rw [if_neg c4] at H
   exact absurd H (by simp)
 ·rw [if_neg c3] at H
  have c3b0 : decide (a1 < (l0.length : Int)) = false := decide_eq_false c3
  clear c3
  obtain rfl := Option.some.inj H
  go_enter Try.func33, Try.ntmps33
  go_wp2
  go_ret
  exact ⟨by first | rfl | (simp; done) | (simp [*]; done), by repeat (first | exact Drawn0.refl _ | apply Drawn0.step)⟩
mutual
def utf_letter.j0 : Nat → List Int → Int → Int → Bool → Option (Int × Int)
 | 0, _, _, _, _ => none
 | k + 1, x0, x1, x6, x18 => if x18 = true then (if 0 ≤ (wrap64 (x1 + 1)) then (if (wrap64 (x1 + 1)) < (x0.length : Int) then (some (Go.bits .or .i32 (wrap32 ((Go.bits .and .i32 x6 31) * 64)) (wrap32 (Go.bits .and .u8 (rd x0 (wrap64 (x1 + 1))) 63)), 2)) else (none)) else (none)) else (if x6 ≥ 224 then (if x6 ≤ 239 then ((utf_more.f x0 (wrap64 (x1 + 1))).bind fun t105 => (if t105 = true then ((utf_more.f x0 (wrap64 (x1 + 2))).bind fun t106 => (utf_letter.j1 k x0 x1 x6 t106)) else (utf_letter.j1 k x0 x1 x6 false))) else (utf_letter.j1 k x0 x1 x6 false)) else (utf_letter.j1 k x0 x1 x6 false))
def utf_letter.j1 : Nat → List Int → Int → Int → Bool → Option (Int × Int)
 | 0, _, _, _, _ => none
 | k + 1, x0, x1, x6, x42 => if x42 = true then (if 0 ≤ (wrap64 (x1 + 1)) then (if (wrap64 (x1 + 1)) < (x0.length : Int) then (if 0 ≤ (wrap64 (x1 + 2)) then (if (wrap64 (x1 + 2)) < (x0.length : Int) then (if (Go.bits .or .i32 (Go.bits .or .i32 (wrap32 ((Go.bits .and .i32 x6 15) * 4096)) (wrap32 ((wrap32 (Go.bits .and .u8 (rd x0 (wrap64 (x1 + 1))) 63)) * 64))) (wrap32 (Go.bits .and .u8 (rd x0 (wrap64 (x1 + 2))) 63))) ≥ 2048 then (if (Go.bits .or .i32 (Go.bits .or .i32 (wrap32 ((Go.bits .and .i32 x6 15) * 4096)) (wrap32 ((wrap32 (Go.bits .and .u8 (rd x0 (wrap64 (x1 + 1))) 63)) * 64))) (wrap32 (Go.bits .and .u8 (rd x0 (wrap64 (x1 + 2))) 63))) < 55296 then (some (Go.bits .or .i32 (Go.bits .or .i32 (wrap32 ((Go.bits .and .i32 x6 15) * 4096)) (wrap32 ((wrap32 (Go.bits .and .u8 (rd x0 (wrap64 (x1 + 1))) 63)) * 64))) (wrap32 (Go.bits .and .u8 (rd x0 (wrap64 (x1 + 2))) 63)), 3)) else (if (Go.bits .or .i32 (Go.bits .or .i32 (wrap32 ((Go.bits .and .i32 x6 15) * 4096)) (wrap32 ((wrap32 (Go.bits .and .u8 (rd x0 (wrap64 (x1 + 1))) 63)) * 64))) (wrap32 (Go.bits .and .u8 (rd x0 (wrap64 (x1 + 2))) 63))) > 57343 then (some (Go.bits .or .i32 (Go.bits .or .i32 (wrap32 ((Go.bits .and .i32 x6 15) * 4096)) (wrap32 ((wrap32 (Go.bits .and .u8 (rd x0 (wrap64 (x1 + 1))) 63)) * 64))) (wrap32 (Go.bits .and .u8 (rd x0 (wrap64 (x1 + 2))) 63)), 3)) else (some (0, 0)))) else (some (0, 0))) else (none)) else (none)) else (none)) else (none)) else (if x6 ≥ 240 then (if x6 ≤ 244 then ((utf_more.f x0 (wrap64 (x1 + 1))).bind fun t109 => (if t109 = true then ((utf_more.f x0 (wrap64 (x1 + 2))).bind fun t110 => (if t110 = true then ((utf_more.f x0 (wrap64 (x1 + 3))).bind fun t111 => (utf_letter.j2 k x0 x1 x6 t111)) else (utf_letter.j2 k x0 x1 x6 false))) else (utf_letter.j2 k x0 x1 x6 false))) else (utf_letter.j2 k x0 x1 x6 false)) else (utf_letter.j2 k x0 x1 x6 false))
def utf_letter.j2 : Nat → List Int → Int → Int → Bool → Option (Int × Int)
 | 0, _, _, _, _ => none
 | k + 1, x0, x1, x6, x92 => if x92 = true then (if 0 ≤ (wrap64 (x1 + 1)) then (if (wrap64 (x1 + 1)) < (x0.length : Int) then (if 0 ≤ (wrap64 (x1 + 2)) then (if (wrap64 (x1 + 2)) < (x0.length : Int) then (if 0 ≤ (wrap64 (x1 + 3)) then (if (wrap64 (x1 + 3)) < (x0.length : Int) then (if (Go.bits .or .i32 (Go.bits .or .i32 (Go.bits .or .i32 (wrap32 ((Go.bits .and .i32 x6 7) * 262144)) (wrap32 ((wrap32 (Go.bits .and .u8 (rd x0 (wrap64 (x1 + 1))) 63)) * 4096))) (wrap32 ((wrap32 (Go.bits .and .u8 (rd x0 (wrap64 (x1 + 2))) 63)) * 64))) (wrap32 (Go.bits .and .u8 (rd x0 (wrap64 (x1 + 3))) 63))) ≥ 65536 then (if (Go.bits .or .i32 (Go.bits .or .i32 (Go.bits .or .i32 (wrap32 ((Go.bits .and .i32 x6 7) * 262144)) (wrap32 ((wrap32 (Go.bits .and .u8 (rd x0 (wrap64 (x1 + 1))) 63)) * 4096))) (wrap32 ((wrap32 (Go.bits .and .u8 (rd x0 (wrap64 (x1 + 2))) 63)) * 64))) (wrap32 (Go.bits .and .u8 (rd x0 (wrap64 (x1 + 3))) 63))) ≤ 1114111 then (some (Go.bits .or .i32 (Go.bits .or .i32 (Go.bits .or .i32 (wrap32 ((Go.bits .and .i32 x6 7) * 262144)) (wrap32 ((wrap32 (Go.bits .and .u8 (rd x0 (wrap64 (x1 + 1))) 63)) * 4096))) (wrap32 ((wrap32 (Go.bits .and .u8 (rd x0 (wrap64 (x1 + 2))) 63)) * 64))) (wrap32 (Go.bits .and .u8 (rd x0 (wrap64 (x1 + 3))) 63)), 4)) else (some (0, 0))) else (some (0, 0))) else (none)) else (none)) else (none)) else (none)) else (none)) else (none)) else (some (0, 0))
end
def utf_letter.f (k : Nat) (l0 : List Int) (a1 : Int) : Option (Int × Int) := if 0 ≤ a1 then (if a1 < (l0.length : Int) then (if (wrap32 (rd l0 a1)) < 128 then (some (wrap32 (rd l0 a1), 1)) else (if (wrap32 (rd l0 a1)) ≥ 194 then (if (wrap32 (rd l0 a1)) ≤ 223 then ((utf_more.f l0 (wrap64 (a1 + 1))).bind fun t103 => (utf_letter.j0 k l0 a1 (wrap32 (rd l0 a1)) t103)) else (utf_letter.j0 k l0 a1 (wrap32 (rd l0 a1)) false)) else (utf_letter.j0 k l0 a1 (wrap32 (rd l0 a1)) false))) else (none)) else (none)
theorem utf_letter.mono_l : ∀ k, (∀ y0 y1 y2 y3, LeO (utf_letter.j0 k y0 y1 y2 y3) (utf_letter.j0 (k + 1) y0 y1 y2 y3)) ∧ (∀ y0 y1 y2 y3, LeO (utf_letter.j1 k y0 y1 y2 y3) (utf_letter.j1 (k + 1) y0 y1 y2 y3)) ∧ (∀ y0 y1 y2 y3, LeO (utf_letter.j2 k y0 y1 y2 y3) (utf_letter.j2 (k + 1) y0 y1 y2 y3))
 | 0 => ⟨fun _ _ _ _ r h => by simp [utf_letter.j0] at h, fun _ _ _ _ r h => by simp [utf_letter.j1] at h, fun _ _ _ _ r h => by simp [utf_letter.j2] at h⟩
 | k + 1 => by
  obtain ⟨ih0, ih1, ih2⟩ := utf_letter.mono_l k
  refine ⟨?_, ?_, ?_⟩
  ·intro y0 y1 y2 y3
   unfold utf_letter.j0
   repeat' first
   | (with_reducible exact ih0 _ _ _ _)
   | (with_reducible exact ih1 _ _ _ _)
   | (with_reducible exact ih2 _ _ _ _)
   | (with_reducible exact LeO.refl _)
   | (with_reducible exact LeO.none _)
   | (with_reducible refine LeO.ite ?_ ?_)
   | (with_reducible refine LeO.bind ?_ (fun _ => ?_))
   | exact ih0 _ _ _ _
   | exact ih1 _ _ _ _
   | exact ih2 _ _ _ _
   | exact LeO.none _
   | refine LeO.ite ?_ ?_
   | refine LeO.bind ?_ (fun _ => ?_)
  ·intro y0 y1 y2 y3
   unfold utf_letter.j1
   repeat' first
   | (with_reducible exact ih0 _ _ _ _)
   | (with_reducible exact ih1 _ _ _ _)
   | (with_reducible exact ih2 _ _ _ _)
   | (with_reducible exact LeO.refl _)
   | (with_reducible exact LeO.none _)
   | (with_reducible refine LeO.ite ?_ ?_)
   | (with_reducible refine LeO.bind ?_ (fun _ => ?_))
   | exact ih0 _ _ _ _
   | exact ih1 _ _ _ _
   | exact ih2 _ _ _ _
   | exact LeO.none _
   | refine LeO.ite ?_ ?_
   | refine LeO.bind ?_ (fun _ => ?_)
  ·intro y0 y1 y2 y3
   unfold utf_letter.j2
   repeat' first
   | (with_reducible exact ih0 _ _ _ _)
   | (with_reducible exact ih1 _ _ _ _)
   | (with_reducible exact ih2 _ _ _ _)
   | (with_reducible exact LeO.refl _)
   | (with_reducible exact LeO.none _)
   | (with_reducible refine LeO.ite ?_ ?_)
   | (with_reducible refine LeO.bind ?_ (fun _ => ?_))
   | exact ih0 _ _ _ _
   | exact ih1 _ _ _ _
   | exact ih2 _ _ _ _
   | exact LeO.none _
   | refine LeO.ite ?_ ?_
   | refine LeO.bind ?_ (fun _ => ?_)
theorem utf_letter.mono : ∀ a0 a1 k, LeO (utf_letter.f k a0 a1) (utf_letter.f (k + 1) a0 a1) := by
 intro a0 a1 k
 obtain ⟨ih0, ih1, ih2⟩ := utf_letter.mono_l k
 unfold utf_letter.f
 repeat' first
   | (with_reducible exact ih0 _ _ _ _)
   | (with_reducible exact ih1 _ _ _ _)
   | (with_reducible exact ih2 _ _ _ _)
   | (with_reducible exact LeO.refl _)
   | (with_reducible exact LeO.none _)
   | (with_reducible refine LeO.ite ?_ ?_)
   | (with_reducible refine LeO.bind ?_ (fun _ => ?_))
   | exact ih0 _ _ _ _
   | exact ih1 _ _ _ _
   | exact ih2 _ _ _ _
   | exact LeO.none _
   | refine LeO.ite ?_ ?_
   | refine LeO.bind ?_ (fun _ => ?_)
set_option maxHeartbeats 8000000 in
set_option maxRecDepth 100000 in
theorem utf_letter.calls (k : Nat) (A0 : Option Addr) (c0 : Nat) (l0 : List Int) (a1 : Int) (r1 : Int) (r2 : Int) (w : World) (hr0 : Kd.C (Kd.int .u8) w A0 l0.length l0) (hc0 : l0.length ≤ c0) (h : utf_letter.f k l0 a1 = some (r1, r2)) :
  Calls Try.prog 26 #[.slice A0 l0.length c0, .int .i64 a1] w fun e w' => e = .returned (.tuple #[.int .i32 r1, .int .i64 r2]) ∧ Drawn0 w w' := by
 have HR0 := Aside0.mk hr0
 have HC0 := Aside0.mk hc0
 clear hr0 hc0
 have H : (if 0 ≤ a1 then (if a1 < (l0.length : Int) then (if (wrap32 (rd l0 a1)) < 128 then (some (wrap32 (rd l0 a1), 1)) else (if (wrap32 (rd l0 a1)) ≥ 194 then (if (wrap32 (rd l0 a1)) ≤ 223 then ((utf_more.f l0 (wrap64 (a1 + 1))).bind fun t103 => (utf_letter.j0 k l0 a1 (wrap32 (rd l0 a1)) t103)) else (utf_letter.j0 k l0 a1 (wrap32 (rd l0 a1)) false)) else (utf_letter.j0 k l0 a1 (wrap32 (rd l0 a1)) false))) else (none)) else (none)) = some (r1, r2) := h
 clear h
 by_cases c3 : 0 ≤ a1
 ·rw [if_pos c3] at H
  have c3b0 : decide (0 ≤ a1) = true := decide_eq_true c3
  clear c3
  by_cases c4 : a1 < (l0.length : Int)
  ·rw [if_pos c4] at H
   have c4b0 : decide (a1 < (l0.length : Int)) = true := decide_eq_true c4
   clear c4
   by_cases c5 : (wrap32 (rd l0 a1)) < 128
   ·rw [if_pos c5] at H
    have c5b0 : decide ((wrap32 (rd l0 a1)) < 128) = true := decide_eq_true c5
    clear c5
    simp only [Option.some.injEq, Prod.mk.injEq] at H
    obtain ⟨rfl, rfl⟩ := H
    have p102 : 0 ≤ (a1 : Int) := of_decide_eq_true (by first | (with_reducible assumption) | assumption)
    have q102 : a1 < (l0.length : Int) := of_decide_eq_true (by first | (with_reducible assumption) | assumption)
    obtain ⟨ad102, e102, hx102_0⟩ := Kd.at_int HR0.out a1 p102 q102
    cases e102
    replace p102 := eq_true p102
    replace q102 := eq_true q102
    go_enter Try.func26, Try.ntmps26
    go_wp2
    repeat (go_quiet (fail); try go_wp2)
    go_ret2
    exact ⟨by first | rfl | (simp; done) | (simp [*]; done), by repeat (first | exact Drawn0.refl _ | apply Drawn0.step)⟩
   ·rw [if_neg c5] at H
    have c5b0 : decide ((wrap32 (rd l0 a1)) < 128) = false := decide_eq_false c5
    clear c5
    have HC6 := Aside0.mk H
    clear H
    have p102 : 0 ≤ (a1 : Int) := of_decide_eq_true (by first | (with_reducible assumption) | assumption)
    have q102 : a1 < (l0.length : Int) := of_decide_eq_true (by first | (with_reducible assumption) | assumption)
    obtain ⟨ad102, e102, hx102_0⟩ := Kd.at_int HR0.out a1 p102 q102
    cases e102
    replace p102 := eq_true p102
    replace q102 := eq_true q102
    go_enter Try.func26, Try.ntmps26
    go_upto_region 4 with (fail)
    repeat (go_quiet (fail); go_upto_region 4 with (fail))
    go_cut [18] (fun v18 wc => ∃ (kq : Nat) (x18_5 : Bool), v18 = .bool x18_5 ∧ Aside0 (utf_letter.j0 kq l0 a1 (wrap32 (rd l0 a1)) x18_5 = some (r1, r2)) ∧ Aside0 (kq ≤ k) ∧ Drawn0 w wc)
    case first =>
     have H := HC6.out
     clear HC6
     by_cases c7 : (wrap32 (rd l0 a1)) ≥ 194
     ·rw [if_pos c7] at H
      have c7b0 : decide (194 ≤ (wrap32 (rd l0 a1))) = true := decide_eq_true c7
      clear c7
      (first | rw [c7b0] | (simp only [i64_w, i32_w]; rw [c7b0]) | skip)
      by_cases c8 : (wrap32 (rd l0 a1)) ≤ 223
      ·rw [if_pos c8] at H
       have c8b0 : decide ((wrap32 (rd l0 a1)) ≤ 223) = true := decide_eq_true c8
       clear c8
       replace H := Option.bind_eq_some_iff.mp H
       obtain ⟨t103, A90, H⟩ := H
       replace H : (utf_letter.j0 k l0 a1 (wrap32 (rd l0 a1)) t103) = some (r1, r2) := H
       have A9 := Aside0.mk A90
       clear A90
       have H' := Aside0.mk H
       clear H
       go_wp2_with (first | (go_at_call 33; (with_reducible refine (utf_more.calls _ _ l0 (wrap64 (a1 + 1)) t103 _ ?side1 ?side2 A9.out).mono ?_); (case side1 => repeat (first | exact HR0.out | (with_reducible refine Kd.C_alloc ?_ _) | (with_reducible refine Kd.C_drewN ?_ _) | (with_reducible refine Kd.C_drew ?_))); (case side2 => exact HC0.out); rintro e w' ⟨rfl, ⟨nd, rfl⟩⟩; (try first | exact ⟨rfl, _, World.drewN_drewN _ _ _⟩ | exact ⟨rfl, _, Eq.trans (World.drewN_drewN _ _ _) (congrArg (World.drewN _) (Nat.add_assoc _ _ _))⟩)))
       repeat (go_quiet (first | (go_at_call 33; (with_reducible refine (utf_more.calls _ _ l0 (wrap64 (a1 + 1)) t103 _ ?side1 ?side2 A9.out).mono ?_); (case side1 => repeat (first | exact HR0.out | (with_reducible refine Kd.C_alloc ?_ _) | (with_reducible refine Kd.C_drewN ?_ _) | (with_reducible refine Kd.C_drew ?_))); (case side2 => exact HC0.out); rintro e w' ⟨rfl, ⟨nd, rfl⟩⟩; (try first | exact ⟨rfl, _, World.drewN_drewN _ _ _⟩ | exact ⟨rfl, _, Eq.trans (World.drewN_drewN _ _ _) (congrArg (World.drewN _) (Nat.add_assoc _ _ _))⟩))); try go_wp2_with (first | (go_at_call 33; (with_reducible refine (utf_more.calls _ _ l0 (wrap64 (a1 + 1)) t103 _ ?side1 ?side2 A9.out).mono ?_); (case side1 => repeat (first | exact HR0.out | (with_reducible refine Kd.C_alloc ?_ _) | (with_reducible refine Kd.C_drewN ?_ _) | (with_reducible refine Kd.C_drew ?_))); (case side2 => exact HC0.out); rintro e w' ⟨rfl, ⟨nd, rfl⟩⟩; (try first | exact ⟨rfl, _, World.drewN_drewN _ _ _⟩ | exact ⟨rfl, _, Eq.trans (World.drewN_drewN _ _ _) (congrArg (World.drewN _) (Nat.add_assoc _ _ _))⟩))))
       go_meet
       case rel => exact ⟨_, (t103), (by first | rfl | (simp; done) | (simp [*]; done)), H', ⟨by first | omega | exact Nat.le_refl _⟩, by repeat (first | exact Drawn0.refl _ | apply Drawn0.step)⟩
      ·rw [if_neg c8] at H
       have c8b0 : decide ((wrap32 (rd l0 a1)) ≤ 223) = false := decide_eq_false c8
       clear c8
       have H' := Aside0.mk H
       clear H
       go_wp2
       repeat (go_quiet (fail); try go_wp2)
       go_meet
       case rel => exact ⟨_, (false), (by first | rfl | (simp; done) | (simp [*]; done)), H', ⟨by first | omega | exact Nat.le_refl _⟩, by repeat (first | exact Drawn0.refl _ | apply Drawn0.step)⟩
     ·rw [if_neg c7] at H
      have c7b0 : decide (194 ≤ (wrap32 (rd l0 a1))) = false := decide_eq_false c7
      clear c7
      (first | rw [c7b0] | (simp only [i64_w, i32_w]; rw [c7b0]) | skip)
      have H' := Aside0.mk H
      clear H
      go_wp2
      repeat (go_quiet (fail); try go_wp2)
      go_meet
      case rel => exact ⟨_, (false), (by first | rfl | (simp; done) | (simp [*]; done)), H', ⟨by first | omega | exact Nat.le_refl _⟩, by repeat (first | exact Drawn0.refl _ | apply Drawn0.step)⟩
    case rest =>
     clear HC6
     try clear p1; try clear q1; try clear hx1; try clear c2; try clear p2; try clear c3; try clear c3b0; try clear p3; try clear c4; try clear c4b0; try clear c5; try clear c5b0; try clear p6; try clear c7; try clear c7b0; try clear c8; try clear c8b0; try clear hx102_0; try clear p102; try clear q102
     obtain ⟨kq, x18_5, rfl, HA, HJ5, ⟨mc5, rfl⟩⟩ := hcut
     cases kq with
     | zero => exact absurd HA.out (by simp [utf_letter.j0])
     | succ kj5 =>
      have H := HA.out
      clear HA
      simp only [utf_letter.j0] at H
      by_cases c10 : x18_5 = true
      ·subst c10
       have H1 : (if 0 ≤ (wrap64 (a1 + 1)) then (if (wrap64 (a1 + 1)) < (l0.length : Int) then (some (Go.bits .or .i32 (wrap32 ((Go.bits .and .i32 (wrap32 (rd l0 a1)) 31) * 64)) (wrap32 (Go.bits .and .u8 (rd l0 (wrap64 (a1 + 1))) 63)), 2)) else (none)) else (none)) = some (r1, r2) := by rw [if_pos rfl] at H; exact H
       clear H
       have H := H1
       clear H1
       obtain ⟨ji11, hji11⟩ : ∃ j_ : Int, (wrap64 (a1 + 1)) = j_ := ⟨_, rfl⟩
       replace H : (if 0 ≤ (ji11) then (if (ji11) < (l0.length : Int) then (some (Go.bits .or .i32 (wrap32 ((Go.bits .and .i32 (wrap32 (rd l0 a1)) 31) * 64)) (wrap32 (Go.bits .and .u8 (rd l0 (ji11)) 63)), 2)) else (none)) else (none)) = some (r1, r2) := by first | (rw [hji11] at H; exact H) | (simp only [hji11] at H ⊢; exact H)
       have hji11w : (IntKind.i64.wrap (a1 + 1)) = ji11 := (i64_w _).trans hji11
       by_cases c12 : 0 ≤ (ji11)
       ·rw [if_pos c12] at H
        have c12b0 : decide (0 ≤ (ji11)) = true := decide_eq_true c12
        clear c12
        by_cases c13 : (ji11) < (l0.length : Int)
        ·rw [if_pos c13] at H
         have c13b0 : decide ((ji11) < (l0.length : Int)) = true := decide_eq_true c13
         clear c13
         simp only [Option.some.injEq, Prod.mk.injEq] at H
         obtain ⟨rfl, rfl⟩ := H
         have p104 : 0 ≤ ((ji11) : Int) := of_decide_eq_true (by first | (with_reducible assumption) | assumption)
         have q104 : (ji11) < (l0.length : Int) := of_decide_eq_true (by first | (with_reducible assumption) | assumption)
         obtain ⟨ad104, e104, hx104_0⟩ := Kd.at_int HR0.out (ji11) p104 q104
         obtain rfl : ad102 = ad104 := (by injection e104)
         replace p104 := eq_true p104
         replace q104 := eq_true q104
         go_wp2
         repeat (go_quiet (fail); try go_wp2)
         go_ret2
         exact ⟨by first | rfl | (simp; done) | (simp only [← hji11] <;> (first | rfl | simp)) | (simp [*]; done), by repeat (first | exact Drawn0.refl _ | apply Drawn0.step)⟩
        ·rw [if_neg c13] at H
         exact absurd H (by simp)
       ·rw [if_neg c12] at H
        exact absurd H (by simp)
      ·replace c10 := Bool.eq_false_iff.mpr c10
       subst c10
       have H1 : (if (wrap32 (rd l0 a1)) ≥ 224 then (if (wrap32 (rd l0 a1)) ≤ 239 then ((utf_more.f l0 (wrap64 (a1 + 1))).bind fun t105 => (if t105 = true then ((utf_more.f l0 (wrap64 (a1 + 2))).bind fun t106 => (utf_letter.j1 kj5 l0 a1 (wrap32 (rd l0 a1)) t106)) else (utf_letter.j1 kj5 l0 a1 (wrap32 (rd l0 a1)) false))) else (utf_letter.j1 kj5 l0 a1 (wrap32 (rd l0 a1)) false)) else (utf_letter.j1 kj5 l0 a1 (wrap32 (rd l0 a1)) false)) = some (r1, r2) := by rw [if_neg (show ¬ (false = true) by decide)] at H; exact H
       clear H
       have H := H1
       clear H1
       have HC14 := Aside0.mk H
       clear H
       go_upto_region 6 with (fail)
       repeat (go_quiet (fail); go_upto_region 6 with (fail))
       go_cut [42] (fun v42 wc => ∃ (kq : Nat) (x42_13 : Bool), v42 = .bool x42_13 ∧ Aside0 (utf_letter.j1 kq l0 a1 (wrap32 (rd l0 a1)) x42_13 = some (r1, r2)) ∧ Aside0 (kq ≤ kj5) ∧ Drawn0 w wc)
       case first =>
        have H := HC14.out
        clear HC14
        by_cases c15 : (wrap32 (rd l0 a1)) ≥ 224
        ·rw [if_pos c15] at H
         have c15b0 : decide (224 ≤ (wrap32 (rd l0 a1))) = true := decide_eq_true c15
         clear c15
         (first | rw [c15b0] | (simp only [i64_w, i32_w]; rw [c15b0]) | skip)
         by_cases c16 : (wrap32 (rd l0 a1)) ≤ 239
         ·rw [if_pos c16] at H
          have c16b0 : decide ((wrap32 (rd l0 a1)) ≤ 239) = true := decide_eq_true c16
          clear c16
          replace H := Option.bind_eq_some_iff.mp H
          obtain ⟨t105, A170, H⟩ := H
          replace H : (if t105 = true then ((utf_more.f l0 (wrap64 (a1 + 2))).bind fun t106 => (utf_letter.j1 kj5 l0 a1 (wrap32 (rd l0 a1)) t106)) else (utf_letter.j1 kj5 l0 a1 (wrap32 (rd l0 a1)) false)) = some (r1, r2) := H
          have A17 := Aside0.mk A170
          clear A170
          by_cases c18 : t105 = true
          ·subst c18
           have H1 : ((utf_more.f l0 (wrap64 (a1 + 2))).bind fun t106 => (utf_letter.j1 kj5 l0 a1 (wrap32 (rd l0 a1)) t106)) = some (r1, r2) := by rw [if_pos rfl] at H; exact H
           clear H
           have H := H1
           clear H1
           replace H := Option.bind_eq_some_iff.mp H
           obtain ⟨t106, A190, H⟩ := H
           replace H : (utf_letter.j1 kj5 l0 a1 (wrap32 (rd l0 a1)) t106) = some (r1, r2) := H
           have A19 := Aside0.mk A190
           clear A190
           have H' := Aside0.mk H
           clear H
           go_wp2_with (first | (go_at_call 33; (with_reducible refine (utf_more.calls _ _ l0 (wrap64 (a1 + 1)) true _ ?side1 ?side2 A17.out).mono ?_); (case side1 => repeat (first | exact HR0.out | (with_reducible refine Kd.C_alloc ?_ _) | (with_reducible refine Kd.C_drewN ?_ _) | (with_reducible refine Kd.C_drew ?_))); (case side2 => exact HC0.out); rintro e w' ⟨rfl, ⟨nd, rfl⟩⟩; (try first | exact ⟨rfl, _, World.drewN_drewN _ _ _⟩ | exact ⟨rfl, _, Eq.trans (World.drewN_drewN _ _ _) (congrArg (World.drewN _) (Nat.add_assoc _ _ _))⟩)) | (go_at_call 33; (with_reducible refine (utf_more.calls _ _ l0 (wrap64 (a1 + 2)) t106 _ ?side1 ?side2 A19.out).mono ?_); (case side1 => repeat (first | exact HR0.out | (with_reducible refine Kd.C_alloc ?_ _) | (with_reducible refine Kd.C_drewN ?_ _) | (with_reducible refine Kd.C_drew ?_))); (case side2 => exact HC0.out); rintro e w' ⟨rfl, ⟨nd, rfl⟩⟩; (try first | exact ⟨rfl, _, World.drewN_drewN _ _ _⟩ | exact ⟨rfl, _, Eq.trans (World.drewN_drewN _ _ _) (congrArg (World.drewN _) (Nat.add_assoc _ _ _))⟩)))
           repeat (go_quiet (first | (go_at_call 33; (with_reducible refine (utf_more.calls _ _ l0 (wrap64 (a1 + 1)) true _ ?side1 ?side2 A17.out).mono ?_); (case side1 => repeat (first | exact HR0.out | (with_reducible refine Kd.C_alloc ?_ _) | (with_reducible refine Kd.C_drewN ?_ _) | (with_reducible refine Kd.C_drew ?_))); (case side2 => exact HC0.out); rintro e w' ⟨rfl, ⟨nd, rfl⟩⟩; (try first | exact ⟨rfl, _, World.drewN_drewN _ _ _⟩ | exact ⟨rfl, _, Eq.trans (World.drewN_drewN _ _ _) (congrArg (World.drewN _) (Nat.add_assoc _ _ _))⟩)) | (go_at_call 33; (with_reducible refine (utf_more.calls _ _ l0 (wrap64 (a1 + 2)) t106 _ ?side1 ?side2 A19.out).mono ?_); (case side1 => repeat (first | exact HR0.out | (with_reducible refine Kd.C_alloc ?_ _) | (with_reducible refine Kd.C_drewN ?_ _) | (with_reducible refine Kd.C_drew ?_))); (case side2 => exact HC0.out); rintro e w' ⟨rfl, ⟨nd, rfl⟩⟩; (try first | exact ⟨rfl, _, World.drewN_drewN _ _ _⟩ | exact ⟨rfl, _, Eq.trans (World.drewN_drewN _ _ _) (congrArg (World.drewN _) (Nat.add_assoc _ _ _))⟩))); try go_wp2_with (first | (go_at_call 33; (with_reducible refine (utf_more.calls _ _ l0 (wrap64 (a1 + 1)) true _ ?side1 ?side2 A17.out).mono ?_); (case side1 => repeat (first | exact HR0.out | (with_reducible refine Kd.C_alloc ?_ _) | (with_reducible refine Kd.C_drewN ?_ _) | (with_reducible refine Kd.C_drew ?_))); (case side2 => exact HC0.out); rintro e w' ⟨rfl, ⟨nd, rfl⟩⟩; (try first | exact ⟨rfl, _, World.drewN_drewN _ _ _⟩ | exact ⟨rfl, _, Eq.trans (World.drewN_drewN _ _ _) (congrArg (World.drewN _) (Nat.add_assoc _ _ _))⟩)) | (go_at_call 33; (with_reducible refine (utf_more.calls _ _ l0 (wrap64 (a1 + 2)) t106 _ ?side1 ?side2 A19.out).mono ?_); (case side1 => repeat (first | exact HR0.out | (with_reducible refine Kd.C_alloc ?_ _) | (with_reducible refine Kd.C_drewN ?_ _) | (with_reducible refine Kd.C_drew ?_))); (case side2 => exact HC0.out); rintro e w' ⟨rfl, ⟨nd, rfl⟩⟩; (try first | exact ⟨rfl, _, World.drewN_drewN _ _ _⟩ | exact ⟨rfl, _, Eq.trans (World.drewN_drewN _ _ _) (congrArg (World.drewN _) (Nat.add_assoc _ _ _))⟩))))
           go_meet
           case rel => exact ⟨_, (t106), (by first | rfl | (simp; done) | (simp [*]; done)), H', ⟨by have := HJ5.out; first | omega | exact Nat.le_refl _⟩, by repeat (first | exact Drawn0.refl _ | apply Drawn0.step)⟩
          ·replace c18 := Bool.eq_false_iff.mpr c18
           subst c18
           have H1 : (utf_letter.j1 kj5 l0 a1 (wrap32 (rd l0 a1)) false) = some (r1, r2) := by rw [if_neg (show ¬ (false = true) by decide)] at H; exact H
           clear H
           have H := H1
           clear H1
           have H' := Aside0.mk H
           clear H
           go_wp2_with (first | (go_at_call 33; (with_reducible refine (utf_more.calls _ _ l0 (wrap64 (a1 + 1)) false _ ?side1 ?side2 A17.out).mono ?_); (case side1 => repeat (first | exact HR0.out | (with_reducible refine Kd.C_alloc ?_ _) | (with_reducible refine Kd.C_drewN ?_ _) | (with_reducible refine Kd.C_drew ?_))); (case side2 => exact HC0.out); rintro e w' ⟨rfl, ⟨nd, rfl⟩⟩; (try first | exact ⟨rfl, _, World.drewN_drewN _ _ _⟩ | exact ⟨rfl, _, Eq.trans (World.drewN_drewN _ _ _) (congrArg (World.drewN _) (Nat.add_assoc _ _ _))⟩)))
           repeat (go_quiet (first | (go_at_call 33; (with_reducible refine (utf_more.calls _ _ l0 (wrap64 (a1 + 1)) false _ ?side1 ?side2 A17.out).mono ?_); (case side1 => repeat (first | exact HR0.out | (with_reducible refine Kd.C_alloc ?_ _) | (with_reducible refine Kd.C_drewN ?_ _) | (with_reducible refine Kd.C_drew ?_))); (case side2 => exact HC0.out); rintro e w' ⟨rfl, ⟨nd, rfl⟩⟩; (try first | exact ⟨rfl, _, World.drewN_drewN _ _ _⟩ | exact ⟨rfl, _, Eq.trans (World.drewN_drewN _ _ _) (congrArg (World.drewN _) (Nat.add_assoc _ _ _))⟩))); try go_wp2_with (first | (go_at_call 33; (with_reducible refine (utf_more.calls _ _ l0 (wrap64 (a1 + 1)) false _ ?side1 ?side2 A17.out).mono ?_); (case side1 => repeat (first | exact HR0.out | (with_reducible refine Kd.C_alloc ?_ _) | (with_reducible refine Kd.C_drewN ?_ _) | (with_reducible refine Kd.C_drew ?_))); (case side2 => exact HC0.out); rintro e w' ⟨rfl, ⟨nd, rfl⟩⟩; (try first | exact ⟨rfl, _, World.drewN_drewN _ _ _⟩ | exact ⟨rfl, _, Eq.trans (World.drewN_drewN _ _ _) (congrArg (World.drewN _) (Nat.add_assoc _ _ _))⟩))))
           go_meet
           case rel => exact ⟨_, (false), (by first | rfl | (simp; done) | (simp [*]; done)), H', ⟨by have := HJ5.out; first | omega | exact Nat.le_refl _⟩, by repeat (first | exact Drawn0.refl _ | apply Drawn0.step)⟩
         ·rw [if_neg c16] at H
          have c16b0 : decide ((wrap32 (rd l0 a1)) ≤ 239) = false := decide_eq_false c16
          clear c16
          have H' := Aside0.mk H
          clear H
          go_wp2
          repeat (go_quiet (fail); try go_wp2)
          go_meet
          case rel => exact ⟨_, (false), (by first | rfl | (simp; done) | (simp [*]; done)), H', ⟨by have := HJ5.out; first | omega | exact Nat.le_refl _⟩, by repeat (first | exact Drawn0.refl _ | apply Drawn0.step)⟩
        ·rw [if_neg c15] at H
         have c15b0 : decide (224 ≤ (wrap32 (rd l0 a1))) = false := decide_eq_false c15
         clear c15
         (first | rw [c15b0] | (simp only [i64_w, i32_w]; rw [c15b0]) | skip)
         have H' := Aside0.mk H
         clear H
         go_wp2
         repeat (go_quiet (fail); try go_wp2)
         go_meet
         case rel => exact ⟨_, (false), (by first | rfl | (simp; done) | (simp [*]; done)), H', ⟨by have := HJ5.out; first | omega | exact Nat.le_refl _⟩, by repeat (first | exact Drawn0.refl _ | apply Drawn0.step)⟩
       case rest =>
        clear HC14
        try clear c1; try clear p1; try clear q1; try clear hx1; try clear c2; try clear p2; try clear c3; try clear c3b0; try clear p3; try clear c4; try clear c4b0; try clear c5; try clear c5b0; try clear p6; try clear c7; try clear c7b0; try clear c8; try clear c8b0; try clear c10; try clear p10; try clear q10; try clear hx10; try clear c12; try clear c12b0; try clear c13; try clear c13b0; try clear c15; try clear c15b0; try clear c16; try clear c16b0; try clear c18; try clear hx102_0; try clear hx104_0; try clear p1; try clear p102; try clear p104; try clear p2; try clear p3; try clear p6; try clear q1; try clear q102; try clear q104
        obtain ⟨kq, x42_13, rfl, HA, HJ13, ⟨mc13, rfl⟩⟩ := hcut
        cases kq with
        | zero => exact absurd HA.out (by simp [utf_letter.j1])
        | succ kj13 =>
         have H := HA.out
         clear HA
         simp only [utf_letter.j1] at H
         by_cases c20 : x42_13 = true
         ·subst c20
          have H1 : (if 0 ≤ (wrap64 (a1 + 1)) then (if (wrap64 (a1 + 1)) < (l0.length : Int) then (if 0 ≤ (wrap64 (a1 + 2)) then (if (wrap64 (a1 + 2)) < (l0.length : Int) then (if (Go.bits .or .i32 (Go.bits .or .i32 (wrap32 ((Go.bits .and .i32 (wrap32 (rd l0 a1)) 15) * 4096)) (wrap32 ((wrap32 (Go.bits .and .u8 (rd l0 (wrap64 (a1 + 1))) 63)) * 64))) (wrap32 (Go.bits .and .u8 (rd l0 (wrap64 (a1 + 2))) 63))) ≥ 2048 then (if (Go.bits .or .i32 (Go.bits .or .i32 (wrap32 ((Go.bits .and .i32 (wrap32 (rd l0 a1)) 15) * 4096)) (wrap32 ((wrap32 (Go.bits .and .u8 (rd l0 (wrap64 (a1 + 1))) 63)) * 64))) (wrap32 (Go.bits .and .u8 (rd l0 (wrap64 (a1 + 2))) 63))) < 55296 then (some (Go.bits .or .i32 (Go.bits .or .i32 (wrap32 ((Go.bits .and .i32 (wrap32 (rd l0 a1)) 15) * 4096)) (wrap32 ((wrap32 (Go.bits .and .u8 (rd l0 (wrap64 (a1 + 1))) 63)) * 64))) (wrap32 (Go.bits .and .u8 (rd l0 (wrap64 (a1 + 2))) 63)), 3)) else (if (Go.bits .or .i32 (Go.bits .or .i32 (wrap32 ((Go.bits .and .i32 (wrap32 (rd l0 a1)) 15) * 4096)) (wrap32 ((wrap32 (Go.bits .and .u8 (rd l0 (wrap64 (a1 + 1))) 63)) * 64))) (wrap32 (Go.bits .and .u8 (rd l0 (wrap64 (a1 + 2))) 63))) > 57343 then (some (Go.bits .or .i32 (Go.bits .or .i32 (wrap32 ((Go.bits .and .i32 (wrap32 (rd l0 a1)) 15) * 4096)) (wrap32 ((wrap32 (Go.bits .and .u8 (rd l0 (wrap64 (a1 + 1))) 63)) * 64))) (wrap32 (Go.bits .and .u8 (rd l0 (wrap64 (a1 + 2))) 63)), 3)) else (some (0, 0)))) else (some (0, 0))) else (none)) else (none)) else (none)) else (none)) = some (r1, r2) := by rw [if_pos rfl] at H; exact H
          clear H
          have H := H1
          clear H1
          obtain ⟨ji21, hji21⟩ : ∃ j_ : Int, (wrap64 (a1 + 1)) = j_ := ⟨_, rfl⟩
          replace H : (if 0 ≤ (ji21) then (if (ji21) < (l0.length : Int) then (if 0 ≤ (wrap64 (a1 + 2)) then (if (wrap64 (a1 + 2)) < (l0.length : Int) then (if (Go.bits .or .i32 (Go.bits .or .i32 (wrap32 ((Go.bits .and .i32 (wrap32 (rd l0 a1)) 15) * 4096)) (wrap32 ((wrap32 (Go.bits .and .u8 (rd l0 (ji21)) 63)) * 64))) (wrap32 (Go.bits .and .u8 (rd l0 (wrap64 (a1 + 2))) 63))) ≥ 2048 then (if (Go.bits .or .i32 (Go.bits .or .i32 (wrap32 ((Go.bits .and .i32 (wrap32 (rd l0 a1)) 15) * 4096)) (wrap32 ((wrap32 (Go.bits .and .u8 (rd l0 (ji21)) 63)) * 64))) (wrap32 (Go.bits .and .u8 (rd l0 (wrap64 (a1 + 2))) 63))) < 55296 then (some (Go.bits .or .i32 (Go.bits .or .i32 (wrap32 ((Go.bits .and .i32 (wrap32 (rd l0 a1)) 15) * 4096)) (wrap32 ((wrap32 (Go.bits .and .u8 (rd l0 (ji21)) 63)) * 64))) (wrap32 (Go.bits .and .u8 (rd l0 (wrap64 (a1 + 2))) 63)), 3)) else (if (Go.bits .or .i32 (Go.bits .or .i32 (wrap32 ((Go.bits .and .i32 (wrap32 (rd l0 a1)) 15) * 4096)) (wrap32 ((wrap32 (Go.bits .and .u8 (rd l0 (ji21)) 63)) * 64))) (wrap32 (Go.bits .and .u8 (rd l0 (wrap64 (a1 + 2))) 63))) > 57343 then (some (Go.bits .or .i32 (Go.bits .or .i32 (wrap32 ((Go.bits .and .i32 (wrap32 (rd l0 a1)) 15) * 4096)) (wrap32 ((wrap32 (Go.bits .and .u8 (rd l0 (ji21)) 63)) * 64))) (wrap32 (Go.bits .and .u8 (rd l0 (wrap64 (a1 + 2))) 63)), 3)) else (some (0, 0)))) else (some (0, 0))) else (none)) else (none)) else (none)) else (none)) = some (r1, r2) := by first | (rw [hji21] at H; exact H) | (simp only [hji21] at H ⊢; exact H)
          have hji21w : (IntKind.i64.wrap (a1 + 1)) = ji21 := (i64_w _).trans hji21
          by_cases c22 : 0 ≤ (ji21)
          ·rw [if_pos c22] at H
           have c22b0 : decide (0 ≤ (ji21)) = true := decide_eq_true c22
           clear c22
           by_cases c23 : (ji21) < (l0.length : Int)
           ·rw [if_pos c23] at H
            have c23b0 : decide ((ji21) < (l0.length : Int)) = true := decide_eq_true c23
            clear c23
            obtain ⟨ji24, hji24⟩ : ∃ j_ : Int, (wrap64 (a1 + 2)) = j_ := ⟨_, rfl⟩
            replace H : (if 0 ≤ (ji24) then (if (ji24) < (l0.length : Int) then (if (Go.bits .or .i32 (Go.bits .or .i32 (wrap32 ((Go.bits .and .i32 (wrap32 (rd l0 a1)) 15) * 4096)) (wrap32 ((wrap32 (Go.bits .and .u8 (rd l0 (ji21)) 63)) * 64))) (wrap32 (Go.bits .and .u8 (rd l0 (ji24)) 63))) ≥ 2048 then (if (Go.bits .or .i32 (Go.bits .or .i32 (wrap32 ((Go.bits .and .i32 (wrap32 (rd l0 a1)) 15) * 4096)) (wrap32 ((wrap32 (Go.bits .and .u8 (rd l0 (ji21)) 63)) * 64))) (wrap32 (Go.bits .and .u8 (rd l0 (ji24)) 63))) < 55296 then (some (Go.bits .or .i32 (Go.bits .or .i32 (wrap32 ((Go.bits .and .i32 (wrap32 (rd l0 a1)) 15) * 4096)) (wrap32 ((wrap32 (Go.bits .and .u8 (rd l0 (ji21)) 63)) * 64))) (wrap32 (Go.bits .and .u8 (rd l0 (ji24)) 63)), 3)) else (if (Go.bits .or .i32 (Go.bits .or .i32 (wrap32 ((Go.bits .and .i32 (wrap32 (rd l0 a1)) 15) * 4096)) (wrap32 ((wrap32 (Go.bits .and .u8 (rd l0 (ji21)) 63)) * 64))) (wrap32 (Go.bits .and .u8 (rd l0 (ji24)) 63))) > 57343 then (some (Go.bits .or .i32 (Go.bits .or .i32 (wrap32 ((Go.bits .and .i32 (wrap32 (rd l0 a1)) 15) * 4096)) (wrap32 ((wrap32 (Go.bits .and .u8 (rd l0 (ji21)) 63)) * 64))) (wrap32 (Go.bits .and .u8 (rd l0 (ji24)) 63)), 3)) else (some (0, 0)))) else (some (0, 0))) else (none)) else (none)) = some (r1, r2) := by first | (rw [hji24] at H; exact H) | (simp only [hji24] at H ⊢; exact H)
            have hji24w : (IntKind.i64.wrap (a1 + 2)) = ji24 := (i64_w _).trans hji24
            by_cases c25 : 0 ≤ (ji24)
            ·rw [if_pos c25] at H
             have c25b0 : decide (0 ≤ (ji24)) = true := decide_eq_true c25
             clear c25
             by_cases c26 : (ji24) < (l0.length : Int)
             ·rw [if_pos c26] at H
              have c26b0 : decide ((ji24) < (l0.length : Int)) = true := decide_eq_true c26
              clear c26
              by_cases c27 : (Go.bits .or .i32 (Go.bits .or .i32 (wrap32 ((Go.bits .and .i32 (wrap32 (rd l0 a1)) 15) * 4096)) (wrap32 ((wrap32 (Go.bits .and .u8 (rd l0 (ji21)) 63)) * 64))) (wrap32 (Go.bits .and .u8 (rd l0 (ji24)) 63))) ≥ 2048
              ·rw [if_pos c27] at H
               have c27b0 : decide (2048 ≤ (Go.bits .or .i32 (Go.bits .or .i32 (wrap32 ((Go.bits .and .i32 (wrap32 (rd l0 a1)) 15) * 4096)) (wrap32 ((wrap32 (Go.bits .and .u8 (rd l0 (ji21)) 63)) * 64))) (wrap32 (Go.bits .and .u8 (rd l0 (ji24)) 63)))) = true := decide_eq_true c27
               clear c27
               by_cases c28 : (Go.bits .or .i32 (Go.bits .or .i32 (wrap32 ((Go.bits .and .i32 (wrap32 (rd l0 a1)) 15) * 4096)) (wrap32 ((wrap32 (Go.bits .and .u8 (rd l0 (ji21)) 63)) * 64))) (wrap32 (Go.bits .and .u8 (rd l0 (ji24)) 63))) < 55296
               ·rw [if_pos c28] at H
                have c28b0 : decide ((Go.bits .or .i32 (Go.bits .or .i32 (wrap32 ((Go.bits .and .i32 (wrap32 (rd l0 a1)) 15) * 4096)) (wrap32 ((wrap32 (Go.bits .and .u8 (rd l0 (ji21)) 63)) * 64))) (wrap32 (Go.bits .and .u8 (rd l0 (ji24)) 63))) < 55296) = true := decide_eq_true c28
                clear c28
                simp only [Option.some.injEq, Prod.mk.injEq] at H
                obtain ⟨rfl, rfl⟩ := H
                have p107 : 0 ≤ ((ji21) : Int) := of_decide_eq_true (by first | (with_reducible assumption) | assumption)
                have q107 : (ji21) < (l0.length : Int) := of_decide_eq_true (by first | (with_reducible assumption) | assumption)
                obtain ⟨ad107, e107, hx107_0⟩ := Kd.at_int HR0.out (ji21) p107 q107
                obtain rfl : ad102 = ad107 := (by injection e107)
                replace p107 := eq_true p107
                replace q107 := eq_true q107
                have p108 : 0 ≤ ((ji24) : Int) := of_decide_eq_true (by first | (with_reducible assumption) | assumption)
                have q108 : (ji24) < (l0.length : Int) := of_decide_eq_true (by first | (with_reducible assumption) | assumption)
                obtain ⟨ad108, e108, hx108_0⟩ := Kd.at_int HR0.out (ji24) p108 q108
                obtain rfl : ad102 = ad108 := (by injection e108)
                replace p108 := eq_true p108
                replace q108 := eq_true q108
                go_wp2
                repeat (go_quiet (fail); try go_wp2)
                go_ret2
                exact ⟨by first | rfl | (simp; done) | (simp only [← hji21, ← hji24] <;> (first | rfl | simp)) | (simp [*]; done), by repeat (first | exact Drawn0.refl _ | apply Drawn0.step)⟩
               ·rw [if_neg c28] at H
                have c28b0 : decide ((Go.bits .or .i32 (Go.bits .or .i32 (wrap32 ((Go.bits .and .i32 (wrap32 (rd l0 a1)) 15) * 4096)) (wrap32 ((wrap32 (Go.bits .and .u8 (rd l0 (ji21)) 63)) * 64))) (wrap32 (Go.bits .and .u8 (rd l0 (ji24)) 63))) < 55296) = false := decide_eq_false c28
                clear c28
                by_cases c29 : (Go.bits .or .i32 (Go.bits .or .i32 (wrap32 ((Go.bits .and .i32 (wrap32 (rd l0 a1)) 15) * 4096)) (wrap32 ((wrap32 (Go.bits .and .u8 (rd l0 (ji21)) 63)) * 64))) (wrap32 (Go.bits .and .u8 (rd l0 (ji24)) 63))) > 57343
                ·rw [if_pos c29] at H
                 have c29b0 : decide (57343 < (Go.bits .or .i32 (Go.bits .or .i32 (wrap32 ((Go.bits .and .i32 (wrap32 (rd l0 a1)) 15) * 4096)) (wrap32 ((wrap32 (Go.bits .and .u8 (rd l0 (ji21)) 63)) * 64))) (wrap32 (Go.bits .and .u8 (rd l0 (ji24)) 63)))) = true := decide_eq_true c29
                 clear c29
                 simp only [Option.some.injEq, Prod.mk.injEq] at H
                 obtain ⟨rfl, rfl⟩ := H
                 have p107 : 0 ≤ ((ji21) : Int) := of_decide_eq_true (by first | (with_reducible assumption) | assumption)
                 have q107 : (ji21) < (l0.length : Int) := of_decide_eq_true (by first | (with_reducible assumption) | assumption)
                 obtain ⟨ad107, e107, hx107_0⟩ := Kd.at_int HR0.out (ji21) p107 q107
                 obtain rfl : ad102 = ad107 := (by injection e107)
                 replace p107 := eq_true p107
                 replace q107 := eq_true q107
                 have p108 : 0 ≤ ((ji24) : Int) := of_decide_eq_true (by first | (with_reducible assumption) | assumption)
                 have q108 : (ji24) < (l0.length : Int) := of_decide_eq_true (by first | (with_reducible assumption) | assumption)
                 obtain ⟨ad108, e108, hx108_0⟩ := Kd.at_int HR0.out (ji24) p108 q108
                 obtain rfl : ad102 = ad108 := (by injection e108)
                 replace p108 := eq_true p108
                 replace q108 := eq_true q108
                 go_wp2
                 repeat (go_quiet (fail); try go_wp2)
                 go_ret2
                 exact ⟨by first | rfl | (simp; done) | (simp only [← hji21, ← hji24] <;> (first | rfl | simp)) | (simp [*]; done), by repeat (first | exact Drawn0.refl _ | apply Drawn0.step)⟩
                ·rw [if_neg c29] at H
                 have c29b0 : decide (57343 < (Go.bits .or .i32 (Go.bits .or .i32 (wrap32 ((Go.bits .and .i32 (wrap32 (rd l0 a1)) 15) * 4096)) (wrap32 ((wrap32 (Go.bits .and .u8 (rd l0 (ji21)) 63)) * 64))) (wrap32 (Go.bits .and .u8 (rd l0 (ji24)) 63)))) = false := decide_eq_false c29
                 clear c29
                 simp only [Option.some.injEq, Prod.mk.injEq] at H
                 obtain ⟨rfl, rfl⟩ := H
                 have p107 : 0 ≤ ((ji21) : Int) := of_decide_eq_true (by first | (with_reducible assumption) | assumption)
                 have q107 : (ji21) < (l0.length : Int) := of_decide_eq_true (by first | (with_reducible assumption) | assumption)
                 obtain ⟨ad107, e107, hx107_0⟩ := Kd.at_int HR0.out (ji21) p107 q107
                 obtain rfl : ad102 = ad107 := (by injection e107)
                 replace p107 := eq_true p107
                 replace q107 := eq_true q107
                 have p108 : 0 ≤ ((ji24) : Int) := of_decide_eq_true (by first | (with_reducible assumption) | assumption)
                 have q108 : (ji24) < (l0.length : Int) := of_decide_eq_true (by first | (with_reducible assumption) | assumption)
                 obtain ⟨ad108, e108, hx108_0⟩ := Kd.at_int HR0.out (ji24) p108 q108
                 obtain rfl : ad102 = ad108 := (by injection e108)
                 replace p108 := eq_true p108
                 replace q108 := eq_true q108
                 go_wp2
                 repeat (go_quiet (fail); try go_wp2)
                 go_ret2
                 exact ⟨by first | rfl | (simp; done) | (simp only [← hji21, ← hji24] <;> (first | rfl | simp)) | (simp [*]; done), by repeat (first | exact Drawn0.refl _ | apply Drawn0.step)⟩
              ·rw [if_neg c27] at H
               have c27b0 : decide (2048 ≤ (Go.bits .or .i32 (Go.bits .or .i32 (wrap32 ((Go.bits .and .i32 (wrap32 (rd l0 a1)) 15) * 4096)) (wrap32 ((wrap32 (Go.bits .and .u8 (rd l0 (ji21)) 63)) * 64))) (wrap32 (Go.bits .and .u8 (rd l0 (ji24)) 63)))) = false := decide_eq_false c27
               clear c27
               simp only [Option.some.injEq, Prod.mk.injEq] at H
               obtain ⟨rfl, rfl⟩ := H
               have p107 : 0 ≤ ((ji21) : Int) := of_decide_eq_true (by first | (with_reducible assumption) | assumption)
               have q107 : (ji21) < (l0.length : Int) := of_decide_eq_true (by first | (with_reducible assumption) | assumption)
               obtain ⟨ad107, e107, hx107_0⟩ := Kd.at_int HR0.out (ji21) p107 q107
               obtain rfl : ad102 = ad107 := (by injection e107)
               replace p107 := eq_true p107
               replace q107 := eq_true q107
               have p108 : 0 ≤ ((ji24) : Int) := of_decide_eq_true (by first | (with_reducible assumption) | assumption)
               have q108 : (ji24) < (l0.length : Int) := of_decide_eq_true (by first | (with_reducible assumption) | assumption)
               obtain ⟨ad108, e108, hx108_0⟩ := Kd.at_int HR0.out (ji24) p108 q108
               obtain rfl : ad102 = ad108 := (by injection e108)
               replace p108 := eq_true p108
               replace q108 := eq_true q108
               go_wp2
               repeat (go_quiet (fail); try go_wp2)
               go_ret2
               exact ⟨by first | rfl | (simp; done) | (simp only [← hji21, ← hji24] <;> (first | rfl | simp)) | (simp [*]; done), by repeat (first | exact Drawn0.refl _ | apply Drawn0.step)⟩
             ·rw [if_neg c26] at H
              exact absurd H (by simp)
            ·rw [if_neg c25] at H
             exact absurd H (by simp)
           ·rw [if_neg c23] at H
            exact absurd H (by simp)
          ·rw [if_neg c22] at H
           exact absurd H (by simp)
         ·replace c20 := Bool.eq_false_iff.mpr c20
          subst c20
          have H1 : (if (wrap32 (rd l0 a1)) ≥ 240 then (if (wrap32 (rd l0 a1)) ≤ 244 then ((utf_more.f l0 (wrap64 (a1 + 1))).bind fun t109 => (if t109 = true then ((utf_more.f l0 (wrap64 (a1 + 2))).bind fun t110 => (if t110 = true then ((utf_more.f l0 (wrap64 (a1 + 3))).bind fun t111 => (utf_letter.j2 kj13 l0 a1 (wrap32 (rd l0 a1)) t111)) else (utf_letter.j2 kj13 l0 a1 (wrap32 (rd l0 a1)) false))) else (utf_letter.j2 kj13 l0 a1 (wrap32 (rd l0 a1)) false))) else (utf_letter.j2 kj13 l0 a1 (wrap32 (rd l0 a1)) false)) else (utf_letter.j2 kj13 l0 a1 (wrap32 (rd l0 a1)) false)) = some (r1, r2) := by rw [if_neg (show ¬ (false = true) by decide)] at H; exact H
          clear H
          have H := H1
          clear H1
          have HC30 := Aside0.mk H
          clear H
          go_upto_region 10 with (fail)
          repeat (go_quiet (fail); go_upto_region 10 with (fail))
          go_cut [92] (fun v92 wc => ∃ (kq : Nat) (x92_29 : Bool), v92 = .bool x92_29 ∧ Aside0 (utf_letter.j2 kq l0 a1 (wrap32 (rd l0 a1)) x92_29 = some (r1, r2)) ∧ Aside0 (kq ≤ kj13) ∧ Drawn0 w wc)
          case first =>
           have H := HC30.out
           clear HC30
           by_cases c31 : (wrap32 (rd l0 a1)) ≥ 240
           ·rw [if_pos c31] at H
            have c31b0 : decide (240 ≤ (wrap32 (rd l0 a1))) = true := decide_eq_true c31
            clear c31
            (first | rw [c31b0] | (simp only [i64_w, i32_w]; rw [c31b0]) | skip)
            by_cases c32 : (wrap32 (rd l0 a1)) ≤ 244
            ·rw [if_pos c32] at H
             have c32b0 : decide ((wrap32 (rd l0 a1)) ≤ 244) = true := decide_eq_true c32
             clear c32
             replace H := Option.bind_eq_some_iff.mp H
             obtain ⟨t109, A330, H⟩ := H
             replace H : (if t109 = true then ((utf_more.f l0 (wrap64 (a1 + 2))).bind fun t110 => (if t110 = true then ((utf_more.f l0 (wrap64 (a1 + 3))).bind fun t111 => (utf_letter.j2 kj13 l0 a1 (wrap32 (rd l0 a1)) t111)) else (utf_letter.j2 kj13 l0 a1 (wrap32 (rd l0 a1)) false))) else (utf_letter.j2 kj13 l0 a1 (wrap32 (rd l0 a1)) false)) = some (r1, r2) := H
             have A33 := Aside0.mk A330
             clear A330
             by_cases c34 : t109 = true
             ·subst c34
              have H1 : ((utf_more.f l0 (wrap64 (a1 + 2))).bind fun t110 => (if t110 = true then ((utf_more.f l0 (wrap64 (a1 + 3))).bind fun t111 => (utf_letter.j2 kj13 l0 a1 (wrap32 (rd l0 a1)) t111)) else (utf_letter.j2 kj13 l0 a1 (wrap32 (rd l0 a1)) false))) = some (r1, r2) := by rw [if_pos rfl] at H; exact H
              clear H
              have H := H1
              clear H1
              replace H := Option.bind_eq_some_iff.mp H
              obtain ⟨t110, A350, H⟩ := H
              replace H : (if t110 = true then ((utf_more.f l0 (wrap64 (a1 + 3))).bind fun t111 => (utf_letter.j2 kj13 l0 a1 (wrap32 (rd l0 a1)) t111)) else (utf_letter.j2 kj13 l0 a1 (wrap32 (rd l0 a1)) false)) = some (r1, r2) := H
              have A35 := Aside0.mk A350
              clear A350
              by_cases c36 : t110 = true
              ·subst c36
               have H1 : ((utf_more.f l0 (wrap64 (a1 + 3))).bind fun t111 => (utf_letter.j2 kj13 l0 a1 (wrap32 (rd l0 a1)) t111)) = some (r1, r2) := by rw [if_pos rfl] at H; exact H
               clear H
               have H := H1
               clear H1
               replace H := Option.bind_eq_some_iff.mp H
               obtain ⟨t111, A370, H⟩ := H
               replace H : (utf_letter.j2 kj13 l0 a1 (wrap32 (rd l0 a1)) t111) = some (r1, r2) := H
               have A37 := Aside0.mk A370
               clear A370
               have H' := Aside0.mk H
               clear H
               go_wp2_with (first | (go_at_call 33; (with_reducible refine (utf_more.calls _ _ l0 (wrap64 (a1 + 1)) true _ ?side1 ?side2 A33.out).mono ?_); (case side1 => repeat (first | exact HR0.out | (with_reducible refine Kd.C_alloc ?_ _) | (with_reducible refine Kd.C_drewN ?_ _) | (with_reducible refine Kd.C_drew ?_))); (case side2 => exact HC0.out); rintro e w' ⟨rfl, ⟨nd, rfl⟩⟩; (try first | exact ⟨rfl, _, World.drewN_drewN _ _ _⟩ | exact ⟨rfl, _, Eq.trans (World.drewN_drewN _ _ _) (congrArg (World.drewN _) (Nat.add_assoc _ _ _))⟩)) | (go_at_call 33; (with_reducible refine (utf_more.calls _ _ l0 (wrap64 (a1 + 2)) true _ ?side1 ?side2 A35.out).mono ?_); (case side1 => repeat (first | exact HR0.out | (with_reducible refine Kd.C_alloc ?_ _) | (with_reducible refine Kd.C_drewN ?_ _) | (with_reducible refine Kd.C_drew ?_))); (case side2 => exact HC0.out); rintro e w' ⟨rfl, ⟨nd, rfl⟩⟩; (try first | exact ⟨rfl, _, World.drewN_drewN _ _ _⟩ | exact ⟨rfl, _, Eq.trans (World.drewN_drewN _ _ _) (congrArg (World.drewN _) (Nat.add_assoc _ _ _))⟩)) | (go_at_call 33; (with_reducible refine (utf_more.calls _ _ l0 (wrap64 (a1 + 3)) t111 _ ?side1 ?side2 A37.out).mono ?_); (case side1 => repeat (first | exact HR0.out | (with_reducible refine Kd.C_alloc ?_ _) | (with_reducible refine Kd.C_drewN ?_ _) | (with_reducible refine Kd.C_drew ?_))); (case side2 => exact HC0.out); rintro e w' ⟨rfl, ⟨nd, rfl⟩⟩; (try first | exact ⟨rfl, _, World.drewN_drewN _ _ _⟩ | exact ⟨rfl, _, Eq.trans (World.drewN_drewN _ _ _) (congrArg (World.drewN _) (Nat.add_assoc _ _ _))⟩)))
               repeat (go_quiet (first | (go_at_call 33; (with_reducible refine (utf_more.calls _ _ l0 (wrap64 (a1 + 1)) true _ ?side1 ?side2 A33.out).mono ?_); (case side1 => repeat (first | exact HR0.out | (with_reducible refine Kd.C_alloc ?_ _) | (with_reducible refine Kd.C_drewN ?_ _) | (with_reducible refine Kd.C_drew ?_))); (case side2 => exact HC0.out); rintro e w' ⟨rfl, ⟨nd, rfl⟩⟩; (try first | exact ⟨rfl, _, World.drewN_drewN _ _ _⟩ | exact ⟨rfl, _, Eq.trans (World.drewN_drewN _ _ _) (congrArg (World.drewN _) (Nat.add_assoc _ _ _))⟩)) | (go_at_call 33; (with_reducible refine (utf_more.calls _ _ l0 (wrap64 (a1 + 2)) true _ ?side1 ?side2 A35.out).mono ?_); (case side1 => repeat (first | exact HR0.out | (with_reducible refine Kd.C_alloc ?_ _) | (with_reducible refine Kd.C_drewN ?_ _) | (with_reducible refine Kd.C_drew ?_))); (case side2 => exact HC0.out); rintro e w' ⟨rfl, ⟨nd, rfl⟩⟩; (try first | exact ⟨rfl, _, World.drewN_drewN _ _ _⟩ | exact ⟨rfl, _, Eq.trans (World.drewN_drewN _ _ _) (congrArg (World.drewN _) (Nat.add_assoc _ _ _))⟩)) | (go_at_call 33; (with_reducible refine (utf_more.calls _ _ l0 (wrap64 (a1 + 3)) t111 _ ?side1 ?side2 A37.out).mono ?_); (case side1 => repeat (first | exact HR0.out | (with_reducible refine Kd.C_alloc ?_ _) | (with_reducible refine Kd.C_drewN ?_ _) | (with_reducible refine Kd.C_drew ?_))); (case side2 => exact HC0.out); rintro e w' ⟨rfl, ⟨nd, rfl⟩⟩; (try first | exact ⟨rfl, _, World.drewN_drewN _ _ _⟩ | exact ⟨rfl, _, Eq.trans (World.drewN_drewN _ _ _) (congrArg (World.drewN _) (Nat.add_assoc _ _ _))⟩))); try go_wp2_with (first | (go_at_call 33; (with_reducible refine (utf_more.calls _ _ l0 (wrap64 (a1 + 1)) true _ ?side1 ?side2 A33.out).mono ?_); (case side1 => repeat (first | exact HR0.out | (with_reducible refine Kd.C_alloc ?_ _) | (with_reducible refine Kd.C_drewN ?_ _) | (with_reducible refine Kd.C_drew ?_))); (case side2 => exact HC0.out); rintro e w' ⟨rfl, ⟨nd, rfl⟩⟩; (try first | exact ⟨rfl, _, World.drewN_drewN _ _ _⟩ | exact ⟨rfl, _, Eq.trans (World.drewN_drewN _ _ _) (congrArg (World.drewN _) (Nat.add_assoc _ _ _))⟩)) | (go_at_call 33; (with_reducible refine (utf_more.calls _ _ l0 (wrap64 (a1 + 2)) true _ ?side1 ?side2 A35.out).mono ?_); (case side1 => repeat (first | exact HR0.out | (with_reducible refine Kd.C_alloc ?_ _) | (with_reducible refine Kd.C_drewN ?_ _) | (with_reducible refine Kd.C_drew ?_))); (case side2 => exact HC0.out); rintro e w' ⟨rfl, ⟨nd, rfl⟩⟩; (try first | exact ⟨rfl, _, World.drewN_drewN _ _ _⟩ | exact ⟨rfl, _, Eq.trans (World.drewN_drewN _ _ _) (congrArg (World.drewN _) (Nat.add_assoc _ _ _))⟩)) | (go_at_call 33; (with_reducible refine (utf_more.calls _ _ l0 (wrap64 (a1 + 3)) t111 _ ?side1 ?side2 A37.out).mono ?_); (case side1 => repeat (first | exact HR0.out | (with_reducible refine Kd.C_alloc ?_ _) | (with_reducible refine Kd.C_drewN ?_ _) | (with_reducible refine Kd.C_drew ?_))); (case side2 => exact HC0.out); rintro e w' ⟨rfl, ⟨nd, rfl⟩⟩; (try first | exact ⟨rfl, _, World.drewN_drewN _ _ _⟩ | exact ⟨rfl, _, Eq.trans (World.drewN_drewN _ _ _) (congrArg (World.drewN _) (Nat.add_assoc _ _ _))⟩))))
               go_meet
               case rel => exact ⟨_, (t111), (by first | rfl | (simp; done) | (simp [*]; done)), H', ⟨by have := HJ5.out; have := HJ13.out; first | omega | exact Nat.le_refl _⟩, by repeat (first | exact Drawn0.refl _ | apply Drawn0.step)⟩
              ·replace c36 := Bool.eq_false_iff.mpr c36
               subst c36
               have H1 : (utf_letter.j2 kj13 l0 a1 (wrap32 (rd l0 a1)) false) = some (r1, r2) := by rw [if_neg (show ¬ (false = true) by decide)] at H; exact H
               clear H
               have H := H1
               clear H1
               have H' := Aside0.mk H
               clear H
               go_wp2_with (first | (go_at_call 33; (with_reducible refine (utf_more.calls _ _ l0 (wrap64 (a1 + 1)) true _ ?side1 ?side2 A33.out).mono ?_); (case side1 => repeat (first | exact HR0.out | (with_reducible refine Kd.C_alloc ?_ _) | (with_reducible refine Kd.C_drewN ?_ _) | (with_reducible refine Kd.C_drew ?_))); (case side2 => exact HC0.out); rintro e w' ⟨rfl, ⟨nd, rfl⟩⟩; (try first | exact ⟨rfl, _, World.drewN_drewN _ _ _⟩ | exact ⟨rfl, _, Eq.trans (World.drewN_drewN _ _ _) (congrArg (World.drewN _) (Nat.add_assoc _ _ _))⟩)) | (go_at_call 33; (with_reducible refine (utf_more.calls _ _ l0 (wrap64 (a1 + 2)) false _ ?side1 ?side2 A35.out).mono ?_); (case side1 => repeat (first | exact HR0.out | (with_reducible refine Kd.C_alloc ?_ _) | (with_reducible refine Kd.C_drewN ?_ _) | (with_reducible refine Kd.C_drew ?_))); (case side2 => exact HC0.out); rintro e w' ⟨rfl, ⟨nd, rfl⟩⟩; (try first | exact ⟨rfl, _, World.drewN_drewN _ _ _⟩ | exact ⟨rfl, _, Eq.trans (World.drewN_drewN _ _ _) (congrArg (World.drewN _) (Nat.add_assoc _ _ _))⟩)))
               repeat (go_quiet (first | (go_at_call 33; (with_reducible refine (utf_more.calls _ _ l0 (wrap64 (a1 + 1)) true _ ?side1 ?side2 A33.out).mono ?_); (case side1 => repeat (first | exact HR0.out | (with_reducible refine Kd.C_alloc ?_ _) | (with_reducible refine Kd.C_drewN ?_ _) | (with_reducible refine Kd.C_drew ?_))); (case side2 => exact HC0.out); rintro e w' ⟨rfl, ⟨nd, rfl⟩⟩; (try first | exact ⟨rfl, _, World.drewN_drewN _ _ _⟩ | exact ⟨rfl, _, Eq.trans (World.drewN_drewN _ _ _) (congrArg (World.drewN _) (Nat.add_assoc _ _ _))⟩)) | (go_at_call 33; (with_reducible refine (utf_more.calls _ _ l0 (wrap64 (a1 + 2)) false _ ?side1 ?side2 A35.out).mono ?_); (case side1 => repeat (first | exact HR0.out | (with_reducible refine Kd.C_alloc ?_ _) | (with_reducible refine Kd.C_drewN ?_ _) | (with_reducible refine Kd.C_drew ?_))); (case side2 => exact HC0.out); rintro e w' ⟨rfl, ⟨nd, rfl⟩⟩; (try first | exact ⟨rfl, _, World.drewN_drewN _ _ _⟩ | exact ⟨rfl, _, Eq.trans (World.drewN_drewN _ _ _) (congrArg (World.drewN _) (Nat.add_assoc _ _ _))⟩))); try go_wp2_with (first | (go_at_call 33; (with_reducible refine (utf_more.calls _ _ l0 (wrap64 (a1 + 1)) true _ ?side1 ?side2 A33.out).mono ?_); (case side1 => repeat (first | exact HR0.out | (with_reducible refine Kd.C_alloc ?_ _) | (with_reducible refine Kd.C_drewN ?_ _) | (with_reducible refine Kd.C_drew ?_))); (case side2 => exact HC0.out); rintro e w' ⟨rfl, ⟨nd, rfl⟩⟩; (try first | exact ⟨rfl, _, World.drewN_drewN _ _ _⟩ | exact ⟨rfl, _, Eq.trans (World.drewN_drewN _ _ _) (congrArg (World.drewN _) (Nat.add_assoc _ _ _))⟩)) | (go_at_call 33; (with_reducible refine (utf_more.calls _ _ l0 (wrap64 (a1 + 2)) false _ ?side1 ?side2 A35.out).mono ?_); (case side1 => repeat (first | exact HR0.out | (with_reducible refine Kd.C_alloc ?_ _) | (with_reducible refine Kd.C_drewN ?_ _) | (with_reducible refine Kd.C_drew ?_))); (case side2 => exact HC0.out); rintro e w' ⟨rfl, ⟨nd, rfl⟩⟩; (try first | exact ⟨rfl, _, World.drewN_drewN _ _ _⟩ | exact ⟨rfl, _, Eq.trans (World.drewN_drewN _ _ _) (congrArg (World.drewN _) (Nat.add_assoc _ _ _))⟩))))
               go_meet
               case rel => exact ⟨_, (false), (by first | rfl | (simp; done) | (simp [*]; done)), H', ⟨by have := HJ5.out; have := HJ13.out; first | omega | exact Nat.le_refl _⟩, by repeat (first | exact Drawn0.refl _ | apply Drawn0.step)⟩
             ·replace c34 := Bool.eq_false_iff.mpr c34
              subst c34
              have H1 : (utf_letter.j2 kj13 l0 a1 (wrap32 (rd l0 a1)) false) = some (r1, r2) := by rw [if_neg (show ¬ (false = true) by decide)] at H; exact H
              clear H
              have H := H1
              clear H1
              have H' := Aside0.mk H
              clear H
              go_wp2_with (first | (go_at_call 33; (with_reducible refine (utf_more.calls _ _ l0 (wrap64 (a1 + 1)) false _ ?side1 ?side2 A33.out).mono ?_); (case side1 => repeat (first | exact HR0.out | (with_reducible refine Kd.C_alloc ?_ _) | (with_reducible refine Kd.C_drewN ?_ _) | (with_reducible refine Kd.C_drew ?_))); (case side2 => exact HC0.out); rintro e w' ⟨rfl, ⟨nd, rfl⟩⟩; (try first | exact ⟨rfl, _, World.drewN_drewN _ _ _⟩ | exact ⟨rfl, _, Eq.trans (World.drewN_drewN _ _ _) (congrArg (World.drewN _) (Nat.add_assoc _ _ _))⟩)))
              repeat (go_quiet (first | (go_at_call 33; (with_reducible refine (utf_more.calls _ _ l0 (wrap64 (a1 + 1)) false _ ?side1 ?side2 A33.out).mono ?_); (case side1 => repeat (first | exact HR0.out | (with_reducible refine Kd.C_alloc ?_ _) | (with_reducible refine Kd.C_drewN ?_ _) | (with_reducible refine Kd.C_drew ?_))); (case side2 => exact HC0.out); rintro e w' ⟨rfl, ⟨nd, rfl⟩⟩; (try first | exact ⟨rfl, _, World.drewN_drewN _ _ _⟩ | exact ⟨rfl, _, Eq.trans (World.drewN_drewN _ _ _) (congrArg (World.drewN _) (Nat.add_assoc _ _ _))⟩))); try go_wp2_with (first | (go_at_call 33; (with_reducible refine (utf_more.calls _ _ l0 (wrap64 (a1 + 1)) false _ ?side1 ?side2 A33.out).mono ?_); (case side1 => repeat (first | exact HR0.out | (with_reducible refine Kd.C_alloc ?_ _) | (with_reducible refine Kd.C_drewN ?_ _) | (with_reducible refine Kd.C_drew ?_))); (case side2 => exact HC0.out); rintro e w' ⟨rfl, ⟨nd, rfl⟩⟩; (try first | exact ⟨rfl, _, World.drewN_drewN _ _ _⟩ | exact ⟨rfl, _, Eq.trans (World.drewN_drewN _ _ _) (congrArg (World.drewN _) (Nat.add_assoc _ _ _))⟩))))
              go_meet
              case rel => exact ⟨_, (false), (by first | rfl | (simp; done) | (simp [*]; done)), H', ⟨by have := HJ5.out; have := HJ13.out; first | omega | exact Nat.le_refl _⟩, by repeat (first | exact Drawn0.refl _ | apply Drawn0.step)⟩
            ·rw [if_neg c32] at H
             have c32b0 : decide ((wrap32 (rd l0 a1)) ≤ 244) = false := decide_eq_false c32
             clear c32
             have H' := Aside0.mk H
             clear H
             go_wp2
             repeat (go_quiet (fail); try go_wp2)
             go_meet
             case rel => exact ⟨_, (false), (by first | rfl | (simp; done) | (simp [*]; done)), H', ⟨by have := HJ5.out; have := HJ13.out; first | omega | exact Nat.le_refl _⟩, by repeat (first | exact Drawn0.refl _ | apply Drawn0.step)⟩
           ·rw [if_neg c31] at H
            have c31b0 : decide (240 ≤ (wrap32 (rd l0 a1))) = false := decide_eq_false c31
            clear c31
            (first | rw [c31b0] | (simp only [i64_w, i32_w]; rw [c31b0]) | skip)
            have H' := Aside0.mk H
            clear H
            go_wp2
            repeat (go_quiet (fail); try go_wp2)
            go_meet
            case rel => exact ⟨_, (false), (by first | rfl | (simp; done) | (simp [*]; done)), H', ⟨by have := HJ5.out; have := HJ13.out; first | omega | exact Nat.le_refl _⟩, by repeat (first | exact Drawn0.refl _ | apply Drawn0.step)⟩
          case rest =>
           clear HC30
           try clear c1; try clear p1; try clear q1; try clear hx1; try clear c2; try clear p2; try clear c3; try clear c3b0; try clear p3; try clear c4; try clear c4b0; try clear c5; try clear c5b0; try clear p6; try clear c7; try clear c7b0; try clear c8; try clear c8b0; try clear c10; try clear p10; try clear q10; try clear hx10; try clear c12; try clear c12b0; try clear c13; try clear c13b0; try clear c15; try clear c15b0; try clear c16; try clear c16b0; try clear c18; try clear c20; try clear c22; try clear c22b0; try clear c23; try clear c23b0; try clear c25; try clear c25b0; try clear c26; try clear c26b0; try clear c27; try clear c27b0; try clear c28; try clear c28b0; try clear c29; try clear c29b0; try clear c31; try clear c31b0; try clear c32; try clear c32b0; try clear p32; try clear c34; try clear c36; try clear hx102_0; try clear hx104_0; try clear hx107_0; try clear hx108_0; try clear p1; try clear p10; try clear p102; try clear p104; try clear p107; try clear p108; try clear p2; try clear p3; try clear p6; try clear q1; try clear q10; try clear q102; try clear q104; try clear q107; try clear q108
           obtain ⟨kq, x92_29, rfl, HA, HJ29, ⟨mc29, rfl⟩⟩ := hcut
           cases kq with
           | zero => exact absurd HA.out (by simp [utf_letter.j2])
           | succ kj29 =>
            have H := HA.out
            clear HA
            simp only [utf_letter.j2] at H
            by_cases c38 : x92_29 = true
            ·subst c38
             have H1 : (if 0 ≤ (wrap64 (a1 + 1)) then (if (wrap64 (a1 + 1)) < (l0.length : Int) then (if 0 ≤ (wrap64 (a1 + 2)) then (if (wrap64 (a1 + 2)) < (l0.length : Int) then (if 0 ≤ (wrap64 (a1 + 3)) then (if (wrap64 (a1 + 3)) < (l0.length : Int) then (if (Go.bits .or .i32 (Go.bits .or .i32 (Go.bits .or .i32 (wrap32 ((Go.bits .and .i32 (wrap32 (rd l0 a1)) 7) * 262144)) (wrap32 ((wrap32 (Go.bits .and .u8 (rd l0 (wrap64 (a1 + 1))) 63)) * 4096))) (wrap32 ((wrap32 (Go.bits .and .u8 (rd l0 (wrap64 (a1 + 2))) 63)) * 64))) (wrap32 (Go.bits .and .u8 (rd l0 (wrap64 (a1 + 3))) 63))) ≥ 65536 then (if (Go.bits .or .i32 (Go.bits .or .i32 (Go.bits .or .i32 (wrap32 ((Go.bits .and .i32 (wrap32 (rd l0 a1)) 7) * 262144)) (wrap32 ((wrap32 (Go.bits .and .u8 (rd l0 (wrap64 (a1 + 1))) 63)) * 4096))) (wrap32 ((wrap32 (Go.bits .and .u8 (rd l0 (wrap64 (a1 + 2))) 63)) * 64))) (wrap32 (Go.bits .and .u8 (rd l0 (wrap64 (a1 + 3))) 63))) ≤ 1114111 then (some (Go.bits .or .i32 (Go.bits .or .i32 (Go.bits .or .i32 (wrap32 ((Go.bits .and .i32 (wrap32 (rd l0 a1)) 7) * 262144)) (wrap32 ((wrap32 (Go.bits .and .u8 (rd l0 (wrap64 (a1 + 1))) 63)) * 4096))) (wrap32 ((wrap32 (Go.bits .and .u8 (rd l0 (wrap64 (a1 + 2))) 63)) * 64))) (wrap32 (Go.bits .and .u8 (rd l0 (wrap64 (a1 + 3))) 63)), 4)) else (some (0, 0))) else (some (0, 0))) else (none)) else (none)) else (none)) else (none)) else (none)) else (none)) = some (r1, r2) := by rw [if_pos rfl] at H; exact H
             clear H
             have H := H1
             clear H1
             obtain ⟨ji39, hji39⟩ : ∃ j_ : Int, (wrap64 (a1 + 1)) = j_ := ⟨_, rfl⟩
             replace H : (if 0 ≤ (ji39) then (if (ji39) < (l0.length : Int) then (if 0 ≤ (wrap64 (a1 + 2)) then (if (wrap64 (a1 + 2)) < (l0.length : Int) then (if 0 ≤ (wrap64 (a1 + 3)) then (if (wrap64 (a1 + 3)) < (l0.length : Int) then (if (Go.bits .or .i32 (Go.bits .or .i32 (Go.bits .or .i32 (wrap32 ((Go.bits .and .i32 (wrap32 (rd l0 a1)) 7) * 262144)) (wrap32 ((wrap32 (Go.bits .and .u8 (rd l0 (ji39)) 63)) * 4096))) (wrap32 ((wrap32 (Go.bits .and .u8 (rd l0 (wrap64 (a1 + 2))) 63)) * 64))) (wrap32 (Go.bits .and .u8 (rd l0 (wrap64 (a1 + 3))) 63))) ≥ 65536 then (if (Go.bits .or .i32 (Go.bits .or .i32 (Go.bits .or .i32 (wrap32 ((Go.bits .and .i32 (wrap32 (rd l0 a1)) 7) * 262144)) (wrap32 ((wrap32 (Go.bits .and .u8 (rd l0 (ji39)) 63)) * 4096))) (wrap32 ((wrap32 (Go.bits .and .u8 (rd l0 (wrap64 (a1 + 2))) 63)) * 64))) (wrap32 (Go.bits .and .u8 (rd l0 (wrap64 (a1 + 3))) 63))) ≤ 1114111 then (some (Go.bits .or .i32 (Go.bits .or .i32 (Go.bits .or .i32 (wrap32 ((Go.bits .and .i32 (wrap32 (rd l0 a1)) 7) * 262144)) (wrap32 ((wrap32 (Go.bits .and .u8 (rd l0 (ji39)) 63)) * 4096))) (wrap32 ((wrap32 (Go.bits .and .u8 (rd l0 (wrap64 (a1 + 2))) 63)) * 64))) (wrap32 (Go.bits .and .u8 (rd l0 (wrap64 (a1 + 3))) 63)), 4)) else (some (0, 0))) else (some (0, 0))) else (none)) else (none)) else (none)) else (none)) else (none)) else (none)) = some (r1, r2) := by first | (rw [hji39] at H; exact H) | (simp only [hji39] at H ⊢; exact H)
             have hji39w : (IntKind.i64.wrap (a1 + 1)) = ji39 := (i64_w _).trans hji39
             by_cases c40 : 0 ≤ (ji39)
             ·rw [if_pos c40] at H
              have c40b0 : decide (0 ≤ (ji39)) = true := decide_eq_true c40
              clear c40
              by_cases c41 : (ji39) < (l0.length : Int)
              ·rw [if_pos c41] at H
               have c41b0 : decide ((ji39) < (l0.length : Int)) = true := decide_eq_true c41
               clear c41
               obtain ⟨ji42, hji42⟩ : ∃ j_ : Int, (wrap64 (a1 + 2)) = j_ := ⟨_, rfl⟩
               replace H : (if 0 ≤ (ji42) then (if (ji42) < (l0.length : Int) then (if 0 ≤ (wrap64 (a1 + 3)) then (if (wrap64 (a1 + 3)) < (l0.length : Int) then (if (Go.bits .or .i32 (Go.bits .or .i32 (Go.bits .or .i32 (wrap32 ((Go.bits .and .i32 (wrap32 (rd l0 a1)) 7) * 262144)) (wrap32 ((wrap32 (Go.bits .and .u8 (rd l0 (ji39)) 63)) * 4096))) (wrap32 ((wrap32 (Go.bits .and .u8 (rd l0 (ji42)) 63)) * 64))) (wrap32 (Go.bits .and .u8 (rd l0 (wrap64 (a1 + 3))) 63))) ≥ 65536 then (if (Go.bits .or .i32 (Go.bits .or .i32 (Go.bits .or .i32 (wrap32 ((Go.bits .and .i32 (wrap32 (rd l0 a1)) 7) * 262144)) (wrap32 ((wrap32 (Go.bits .and .u8 (rd l0 (ji39)) 63)) * 4096))) (wrap32 ((wrap32 (Go.bits .and .u8 (rd l0 (ji42)) 63)) * 64))) (wrap32 (Go.bits .and .u8 (rd l0 (wrap64 (a1 + 3))) 63))) ≤ 1114111 then (some (Go.bits .or .i32 (Go.bits .or .i32 (Go.bits .or .i32 (wrap32 ((Go.bits .and .i32 (wrap32 (rd l0 a1)) 7) * 262144)) (wrap32 ((wrap32 (Go.bits .and .u8 (rd l0 (ji39)) 63)) * 4096))) (wrap32 ((wrap32 (Go.bits .and .u8 (rd l0 (ji42)) 63)) * 64))) (wrap32 (Go.bits .and .u8 (rd l0 (wrap64 (a1 + 3))) 63)), 4)) else (some (0, 0))) else (some (0, 0))) else (none)) else (none)) else (none)) else (none)) = some (r1, r2) := by first | (rw [hji42] at H; exact H) | (simp only [hji42] at H ⊢; exact H)
               have hji42w : (IntKind.i64.wrap (a1 + 2)) = ji42 := (i64_w _).trans hji42
               by_cases c43 : 0 ≤ (ji42)
               ·rw [if_pos c43] at H
                have c43b0 : decide (0 ≤ (ji42)) = true := decide_eq_true c43
                clear c43
                by_cases c44 : (ji42) < (l0.length : Int)
                ·rw [if_pos c44] at H
                 have c44b0 : decide ((ji42) < (l0.length : Int)) = true := decide_eq_true c44
                 clear c44
                 obtain ⟨ji45, hji45⟩ : ∃ j_ : Int, (wrap64 (a1 + 3)) = j_ := ⟨_, rfl⟩
                 replace H : (if 0 ≤ (ji45) then (if (ji45) < (l0.length : Int) then (if (Go.bits .or .i32 (Go.bits .or .i32 (Go.bits .or .i32 (wrap32 ((Go.bits .and .i32 (wrap32 (rd l0 a1)) 7) * 262144)) (wrap32 ((wrap32 (Go.bits .and .u8 (rd l0 (ji39)) 63)) * 4096))) (wrap32 ((wrap32 (Go.bits .and .u8 (rd l0 (ji42)) 63)) * 64))) (wrap32 (Go.bits .and .u8 (rd l0 (ji45)) 63))) ≥ 65536 then (if (Go.bits .or .i32 (Go.bits .or .i32 (Go.bits .or .i32 (wrap32 ((Go.bits .and .i32 (wrap32 (rd l0 a1)) 7) * 262144)) (wrap32 ((wrap32 (Go.bits .and .u8 (rd l0 (ji39)) 63)) * 4096))) (wrap32 ((wrap32 (Go.bits .and .u8 (rd l0 (ji42)) 63)) * 64))) (wrap32 (Go.bits .and .u8 (rd l0 (ji45)) 63))) ≤ 1114111 then (some (Go.bits .or .i32 (Go.bits .or .i32 (Go.bits .or .i32 (wrap32 ((Go.bits .and .i32 (wrap32 (rd l0 a1)) 7) * 262144)) (wrap32 ((wrap32 (Go.bits .and .u8 (rd l0 (ji39)) 63)) * 4096))) (wrap32 ((wrap32 (Go.bits .and .u8 (rd l0 (ji42)) 63)) * 64))) (wrap32 (Go.bits .and .u8 (rd l0 (ji45)) 63)), 4)) else (some (0, 0))) else (some (0, 0))) else (none)) else (none)) = some (r1, r2) := by first | (rw [hji45] at H; exact H) | (simp only [hji45] at H ⊢; exact H)
                 have hji45w : (IntKind.i64.wrap (a1 + 3)) = ji45 := (i64_w _).trans hji45
                 by_cases c46 : 0 ≤ (ji45)
                 ·rw [if_pos c46] at H
                  have c46b0 : decide (0 ≤ (ji45)) = true := decide_eq_true c46
                  clear c46
                  by_cases c47 : (ji45) < (l0.length : Int)
                  ·rw [if_pos c47] at H
                   have c47b0 : decide ((ji45) < (l0.length : Int)) = true := decide_eq_true c47
                   clear c47
                   by_cases c48 : (Go.bits .or .i32 (Go.bits .or .i32 (Go.bits .or .i32 (wrap32 ((Go.bits .and .i32 (wrap32 (rd l0 a1)) 7) * 262144)) (wrap32 ((wrap32 (Go.bits .and .u8 (rd l0 (ji39)) 63)) * 4096))) (wrap32 ((wrap32 (Go.bits .and .u8 (rd l0 (ji42)) 63)) * 64))) (wrap32 (Go.bits .and .u8 (rd l0 (ji45)) 63))) ≥ 65536
                   ·rw [if_pos c48] at H
                    have c48b0 : decide (65536 ≤ (Go.bits .or .i32 (Go.bits .or .i32 (Go.bits .or .i32 (wrap32 ((Go.bits .and .i32 (wrap32 (rd l0 a1)) 7) * 262144)) (wrap32 ((wrap32 (Go.bits .and .u8 (rd l0 (ji39)) 63)) * 4096))) (wrap32 ((wrap32 (Go.bits .and .u8 (rd l0 (ji42)) 63)) * 64))) (wrap32 (Go.bits .and .u8 (rd l0 (ji45)) 63)))) = true := decide_eq_true c48
                    clear c48
                    by_cases c49 : (Go.bits .or .i32 (Go.bits .or .i32 (Go.bits .or .i32 (wrap32 ((Go.bits .and .i32 (wrap32 (rd l0 a1)) 7) * 262144)) (wrap32 ((wrap32 (Go.bits .and .u8 (rd l0 (ji39)) 63)) * 4096))) (wrap32 ((wrap32 (Go.bits .and .u8 (rd l0 (ji42)) 63)) * 64))) (wrap32 (Go.bits .and .u8 (rd l0 (ji45)) 63))) ≤ 1114111
                    ·rw [if_pos c49] at H
                     have c49b0 : decide ((Go.bits .or .i32 (Go.bits .or .i32 (Go.bits .or .i32 (wrap32 ((Go.bits .and .i32 (wrap32 (rd l0 a1)) 7) * 262144)) (wrap32 ((wrap32 (Go.bits .and .u8 (rd l0 (ji39)) 63)) * 4096))) (wrap32 ((wrap32 (Go.bits .and .u8 (rd l0 (ji42)) 63)) * 64))) (wrap32 (Go.bits .and .u8 (rd l0 (ji45)) 63))) ≤ 1114111) = true := decide_eq_true c49
                     clear c49
                     simp only [Option.some.injEq, Prod.mk.injEq] at H
                     obtain ⟨rfl, rfl⟩ := H
                     have p112 : 0 ≤ ((ji39) : Int) := of_decide_eq_true (by first | (with_reducible assumption) | assumption)
                     have q112 : (ji39) < (l0.length : Int) := of_decide_eq_true (by first | (with_reducible assumption) | assumption)
                     obtain ⟨ad112, e112, hx112_0⟩ := Kd.at_int HR0.out (ji39) p112 q112
                     obtain rfl : ad102 = ad112 := (by injection e112)
                     replace p112 := eq_true p112
                     replace q112 := eq_true q112
                     have p113 : 0 ≤ ((ji42) : Int) := of_decide_eq_true (by first | (with_reducible assumption) | assumption)
                     have q113 : (ji42) < (l0.length : Int) := of_decide_eq_true (by first | (with_reducible assumption) | assumption)
                     obtain ⟨ad113, e113, hx113_0⟩ := Kd.at_int HR0.out (ji42) p113 q113
                     obtain rfl : ad102 = ad113 := (by injection e113)
                     replace p113 := eq_true p113
                     replace q113 := eq_true q113
                     have p114 : 0 ≤ ((ji45) : Int) := of_decide_eq_true (by first | (with_reducible assumption) | assumption)
                     have q114 : (ji45) < (l0.length : Int) := of_decide_eq_true (by first | (with_reducible assumption) | assumption)
                     obtain ⟨ad114, e114, hx114_0⟩ := Kd.at_int HR0.out (ji45) p114 q114
                     obtain rfl : ad102 = ad114 := (by injection e114)
                     replace p114 := eq_true p114
                     replace q114 := eq_true q114
                     go_wp2
                     repeat (go_quiet (fail); try go_wp2)
                     go_ret2
                     exact ⟨by first | rfl | (simp; done) | (simp only [← hji39, ← hji42, ← hji45] <;> (first | rfl | simp)) | (simp [*]; done), by repeat (first | exact Drawn0.refl _ | apply Drawn0.step)⟩
                    ·rw [if_neg c49] at H
                     have c49b0 : decide ((Go.bits .or .i32 (Go.bits .or .i32 (Go.bits .or .i32 (wrap32 ((Go.bits .and .i32 (wrap32 (rd l0 a1)) 7) * 262144)) (wrap32 ((wrap32 (Go.bits .and .u8 (rd l0 (ji39)) 63)) * 4096))) (wrap32 ((wrap32 (Go.bits .and .u8 (rd l0 (ji42)) 63)) * 64))) (wrap32 (Go.bits .and .u8 (rd l0 (ji45)) 63))) ≤ 1114111) = false := decide_eq_false c49
                     clear c49
                     simp only [Option.some.injEq, Prod.mk.injEq] at H
                     obtain ⟨rfl, rfl⟩ := H
                     have p112 : 0 ≤ ((ji39) : Int) := of_decide_eq_true (by first | (with_reducible assumption) | assumption)
                     have q112 : (ji39) < (l0.length : Int) := of_decide_eq_true (by first | (with_reducible assumption) | assumption)
                     obtain ⟨ad112, e112, hx112_0⟩ := Kd.at_int HR0.out (ji39) p112 q112
                     obtain rfl : ad102 = ad112 := (by injection e112)
                     replace p112 := eq_true p112
                     replace q112 := eq_true q112
                     have p113 : 0 ≤ ((ji42) : Int) := of_decide_eq_true (by first | (with_reducible assumption) | assumption)
                     have q113 : (ji42) < (l0.length : Int) := of_decide_eq_true (by first | (with_reducible assumption) | assumption)
                     obtain ⟨ad113, e113, hx113_0⟩ := Kd.at_int HR0.out (ji42) p113 q113
                     obtain rfl : ad102 = ad113 := (by injection e113)
                     replace p113 := eq_true p113
                     replace q113 := eq_true q113
                     have p114 : 0 ≤ ((ji45) : Int) := of_decide_eq_true (by first | (with_reducible assumption) | assumption)
                     have q114 : (ji45) < (l0.length : Int) := of_decide_eq_true (by first | (with_reducible assumption) | assumption)
                     obtain ⟨ad114, e114, hx114_0⟩ := Kd.at_int HR0.out (ji45) p114 q114
                     obtain rfl : ad102 = ad114 := (by injection e114)
                     replace p114 := eq_true p114
                     replace q114 := eq_true q114
                     go_wp2
                     repeat (go_quiet (fail); try go_wp2)
                     go_ret2
                     exact ⟨by first | rfl | (simp; done) | (simp only [← hji39, ← hji42, ← hji45] <;> (first | rfl | simp)) | (simp [*]; done), by repeat (first | exact Drawn0.refl _ | apply Drawn0.step)⟩
                   ·rw [if_neg c48] at H
                    have c48b0 : decide (65536 ≤ (Go.bits .or .i32 (Go.bits .or .i32 (Go.bits .or .i32 (wrap32 ((Go.bits .and .i32 (wrap32 (rd l0 a1)) 7) * 262144)) (wrap32 ((wrap32 (Go.bits .and .u8 (rd l0 (ji39)) 63)) * 4096))) (wrap32 ((wrap32 (Go.bits .and .u8 (rd l0 (ji42)) 63)) * 64))) (wrap32 (Go.bits .and .u8 (rd l0 (ji45)) 63)))) = false := decide_eq_false c48
                    clear c48
                    simp only [Option.some.injEq, Prod.mk.injEq] at H
                    obtain ⟨rfl, rfl⟩ := H
                    have p112 : 0 ≤ ((ji39) : Int) := of_decide_eq_true (by first | (with_reducible assumption) | assumption)
                    have q112 : (ji39) < (l0.length : Int) := of_decide_eq_true (by first | (with_reducible assumption) | assumption)
                    obtain ⟨ad112, e112, hx112_0⟩ := Kd.at_int HR0.out (ji39) p112 q112
                    obtain rfl : ad102 = ad112 := (by injection e112)
                    replace p112 := eq_true p112
                    replace q112 := eq_true q112
                    have p113 : 0 ≤ ((ji42) : Int) := of_decide_eq_true (by first | (with_reducible assumption) | assumption)
                    have q113 : (ji42) < (l0.length : Int) := of_decide_eq_true (by first | (with_reducible assumption) | assumption)
                    obtain ⟨ad113, e113, hx113_0⟩ := Kd.at_int HR0.out (ji42) p113 q113
                    obtain rfl : ad102 = ad113 := (by injection e113)
                    replace p113 := eq_true p113
                    replace q113 := eq_true q113
                    have p114 : 0 ≤ ((ji45) : Int) := of_decide_eq_true (by first | (with_reducible assumption) | assumption)
                    have q114 : (ji45) < (l0.length : Int) := of_decide_eq_true (by first | (with_reducible assumption) | assumption)
                    obtain ⟨ad114, e114, hx114_0⟩ := Kd.at_int HR0.out (ji45) p114 q114
                    obtain rfl : ad102 = ad114 := (by injection e114)
                    replace p114 := eq_true p114
                    replace q114 := eq_true q114
                    go_wp2
                    repeat (go_quiet (fail); try go_wp2)
                    go_ret2
                    exact ⟨by first | rfl | (simp; done) | (simp only [← hji39, ← hji42, ← hji45] <;> (first | rfl | simp)) | (simp [*]; done), by repeat (first | exact Drawn0.refl _ | apply Drawn0.step)⟩
                  ·rw [if_neg c47] at H
                   exact absurd H (by simp)
                 ·rw [if_neg c46] at H
                  exact absurd H (by simp)
                ·rw [if_neg c44] at H
                 exact absurd H (by simp)
               ·rw [if_neg c43] at H
                exact absurd H (by simp)
              ·rw [if_neg c41] at H
               exact absurd H (by simp)
             ·rw [if_neg c40] at H
              exact absurd H (by simp)
            ·replace c38 := Bool.eq_false_iff.mpr c38
             subst c38
             have H1 : (some (0, 0)) = some (r1, r2) := by rw [if_neg (show ¬ (false = true) by decide)] at H; exact H
             clear H
             have H := H1
             clear H1
             simp only [Option.some.injEq, Prod.mk.injEq] at H
             obtain ⟨rfl, rfl⟩ := H
             go_wp2
             repeat (go_quiet (fail); try go_wp2)
             go_ret2
             exact ⟨by first | rfl | (simp; done) | (simp [*]; done), by repeat (first | exact Drawn0.refl _ | apply Drawn0.step)⟩
  ·rw [if_neg c4] at H
   exact absurd H (by simp)
 ·rw [if_neg c3] at H
  exact absurd H (by simp)
end Go.Proofs.Yteighppcdpaekaa.P
end
section
namespace Go.Proofs.Yteighppcdpaekaa.P
open Go.RowKit Go.Proofs.YteighppcdpaekaaW.PrintWords Go.Proofs.YteighppcdpaekaaW.PrintLast Go.Proofs.YteighppcdpaekaaW.PrintMore
attribute [local go_sem] max2_int min2_int max_two min_two max_three min_three max_four min_four
set_option linter.unusedVariables false
set_option linter.unusedSimpArgs false
def utf_Valid.l0 : Nat → List Int → Int → Option (Int × Int)
 | 0, _, _ => none
 | k + 1, x0, x4 => if x4 < (x0.length : Int) then ((utf_letter.f k x0 x4).bind fun bt115 => (if bt115.2 = 0 then (some (x4, 10)) else (utf_Valid.l0 k x0 (wrap64 (x4 + bt115.2))))) else (some (0, 0))
def utf_Valid.f (k : Nat) (l0 : List Int) : Option (Int × Int) := utf_Valid.l0 k l0 0
theorem utf_Valid.mono_l : ∀ k, (∀ y0 y1, LeO (utf_Valid.l0 k y0 y1) (utf_Valid.l0 (k + 1) y0 y1))
 | 0 => fun _ _ r h => by simp [utf_Valid.l0] at h
 | k + 1 => by
  have ih0 := utf_Valid.mono_l k
  ·intro y0 y1
   unfold utf_Valid.l0
   repeat' first
   | (with_reducible exact ih0 _ _)
   | (with_reducible exact utf_letter.mono _ _ _)
   | (with_reducible exact LeO.refl _)
   | (with_reducible exact LeO.none _)
   | (with_reducible refine LeO.ite ?_ ?_)
   | (with_reducible refine LeO.bind ?_ (fun _ => ?_))
   | exact ih0 _ _
   | exact utf_letter.mono _ _ _
   | exact LeO.none _
   | refine LeO.ite ?_ ?_
   | refine LeO.bind ?_ (fun _ => ?_)
theorem utf_Valid.mono : ∀ a0 k, LeO (utf_Valid.f k a0) (utf_Valid.f (k + 1) a0) := by
 intro a0 k
 have ih0 := utf_Valid.mono_l k
 unfold utf_Valid.f
 repeat' first
   | (with_reducible exact ih0 _ _)
   | (with_reducible exact utf_letter.mono _ _ _)
   | (with_reducible exact LeO.refl _)
   | (with_reducible exact LeO.none _)
   | (with_reducible refine LeO.ite ?_ ?_)
   | (with_reducible refine LeO.bind ?_ (fun _ => ?_))
   | exact ih0 _ _
   | exact utf_letter.mono _ _ _
   | exact LeO.none _
   | refine LeO.ite ?_ ?_
   | refine LeO.bind ?_ (fun _ => ?_)
set_option maxHeartbeats 8000000 in
set_option maxRecDepth 100000 in
theorem utf_Valid.calls (k : Nat) (A0 : Option Addr) (c0 : Nat) (l0 : List Int) (r1 : Int) (r2 : Int) (w : World) (hr0 : Kd.C (Kd.int .u8) w A0 l0.length l0) (hc0 : l0.length ≤ c0) (h : utf_Valid.f k l0 = some (r1, r2)) :
  Calls Try.prog 17 #[.slice A0 l0.length c0] w fun e w' => e = .returned (.tuple #[.int .i64 r1, .int .i64 r2]) ∧ Drawn0 w w' := by
 have HR0 := Aside0.mk hr0
 have HC0 := Aside0.mk hc0
 clear hr0 hc0
 have H : (utf_Valid.l0 k l0 0) = some (r1, r2) := h
 clear h
 have H' := Aside0.mk H
 clear H
 go_enter Try.func17, Try.ntmps17
 go_wp2
 go_loopg [4] k (fun kq v4 w' => ∃ (x4_1 : Int), v4 = .int .i64 x4_1 ∧ Aside0 (utf_Valid.l0 kq l0 x4_1 = some (r1, r2)) ∧ Aside0 (kq ≤ k) ∧ Drawn0 w w')
 case atStart => exact ⟨(0), (by first | rfl | (simp; done) | (simp [*]; done)), H', ⟨Nat.le_refl _⟩, by repeat (first | exact Drawn0.refl _ | apply Drawn0.step)⟩
 case round =>
  clear H'
  try clear c1
  obtain ⟨x4_1, rfl, HA, HK1, ⟨m1, rfl⟩⟩ := hrel
  cases gk with
  | zero => exact absurd HA.out (by simp [utf_Valid.l0])
  | succ k1 =>
   have H := HA.out
   clear HA
   simp only [utf_Valid.l0] at H
   by_cases c2 : x4_1 < (l0.length : Int)
   ·rw [if_pos c2] at H
    have c2b0 : decide (x4_1 < (l0.length : Int)) = true := decide_eq_true c2
    clear c2
    replace H := Option.bind_eq_some_iff.mp H
    obtain ⟨⟨t115, t116⟩, A30, H⟩ := H
    replace H : (if t116 = 0 then (some (x4_1, 10)) else (utf_Valid.l0 k1 l0 (wrap64 (x4_1 + t116)))) = some (r1, r2) := H
    have A3 := Aside0.mk A30
    clear A30
    by_cases c4 : t116 = 0
    ·rw [if_pos c4] at H
     have c4b0 : (t116 == 0) = true := beq_iff_eq.mpr c4
     have c4b1 : (t116 != 0) = false := bne_eq_false_iff_eq.mpr c4
     clear c4
     simp only [Option.some.injEq, Prod.mk.injEq] at H
     obtain ⟨rfl, rfl⟩ := H
     go_wp2_with (first | ((with_reducible refine gate_callee (f := 26) rfl ?_); refine goesL_ (some 14) rfl rfl Try.func26 (by kernel_rfl) rfl #[.slice A0 l0.length c0, .int .i64 x4_1] rfl (by (try simp only [List.map_toArray, List.map_cons, List.map_nil]); first | done | rfl | (simp only [List.length_drop, List.length_take]; rfl)) ?_; (with_reducible refine (utf_letter.calls k1 _ _ l0 x4_1 t115 t116 _ ?side1 ?side2 A3.out).mono ?_); (case side1 => repeat (first | exact HR0.out | (with_reducible refine Kd.C_alloc ?_ _) | (with_reducible refine Kd.C_drewN ?_ _) | (with_reducible refine Kd.C_drew ?_))); (case side2 => exact HC0.out); rintro e w' ⟨rfl, ⟨nd, rfl⟩⟩; refine ⟨_, rfl, ?_⟩))
     go_ret2
     exact ⟨by first | rfl | (simp; done) | (simp [*]; done), by repeat (first | exact Drawn0.refl _ | apply Drawn0.step)⟩
    ·rw [if_neg c4] at H
     have c4b0 : (t116 == 0) = false := beq_eq_false_iff_ne.mpr c4
     have c4b1 : (t116 != 0) = true := bne_iff_ne.mpr c4
     have H' := Aside0.mk H
     clear H
     go_wp2_with (first | ((with_reducible refine gate_callee (f := 26) rfl ?_); refine goesL_ (some 14) rfl rfl Try.func26 (by kernel_rfl) rfl #[.slice A0 l0.length c0, .int .i64 x4_1] rfl (by (try simp only [List.map_toArray, List.map_cons, List.map_nil]); first | done | rfl | (simp only [List.length_drop, List.length_take]; rfl)) ?_; (with_reducible refine (utf_letter.calls k1 _ _ l0 x4_1 t115 t116 _ ?side1 ?side2 A3.out).mono ?_); (case side1 => repeat (first | exact HR0.out | (with_reducible refine Kd.C_alloc ?_ _) | (with_reducible refine Kd.C_drewN ?_ _) | (with_reducible refine Kd.C_drew ?_))); (case side2 => exact HC0.out); rintro e w' ⟨rfl, ⟨nd, rfl⟩⟩; refine ⟨_, rfl, ?_⟩))
     go_roundg k1
     case measure => have := HK1.out; omega
     case rel => exact ⟨(wrap64 (x4_1 + t116)), (by first | rfl | (simp; done) | (simp [*]; done)), H', ⟨by have := HK1.out; omega⟩, by repeat (first | exact Drawn0.refl _ | apply Drawn0.step)⟩
   ·rw [if_neg c2] at H
    have c2b0 : decide (x4_1 < (l0.length : Int)) = false := decide_eq_false c2
    clear c2
    simp only [Option.some.injEq, Prod.mk.injEq] at H
    obtain ⟨rfl, rfl⟩ := H
    go_wp2
    go_ret2
    exact ⟨by first | rfl | (simp; done) | (simp [*]; done), by repeat (first | exact Drawn0.refl _ | apply Drawn0.step)⟩
end Go.Proofs.Yteighppcdpaekaa.P
end
section
namespace Go.Proofs.Yteighppcdpaekaa.Js
open Go.RowKit Go.Proofs.YteighppcdpaekaaW.PrintWords Go.Proofs.Yteighppcdpaekaa.P
def contO : Option Int → Bool
 | some c => decide (128 ≤ c) && decide (c ≤ 191)
 | none => false
def val3 (l : List Int) : Int := (rd l 0 % 16) * 4096 + (rd l 1 % 64) * 64 + rd l 2 % 64
def val4 (l : List Int) : Int := (rd l 0 % 8) * 262144 + (rd l 1 % 64) * 4096 + (rd l 2 % 64) * 64 + rd l 3 % 64
def letterLen (l : List Int) : Nat := match l[0]? with
 | none => 0
 | some c =>
  if c < 128 then 1
  else if 194 ≤ c ∧ c ≤ 223 then (if contO l[1]? = true then 2 else 0)
  else if 224 ≤ c ∧ c ≤ 239 then (if contO l[1]? = true ∧ contO l[2]? = true ∧ 2048 ≤ val3 l ∧ (val3 l < 55296 ∨ 57343 < val3 l) then 3 else 0)
  else if 240 ≤ c ∧ c ≤ 244 then (if contO l[1]? = true ∧ contO l[2]? = true ∧ contO l[3]? = true ∧ 65536 ≤ val4 l ∧ val4 l ≤ 1114111 then 4 else 0)
  else 0
theorem rd_get {l m : List Int} {i : Nat} (h : m[i]? = l[i]?) : rd m i = rd l i := by
 unfold rd
 rw [List.getD_eq_getElem?_getD, List.getD_eq_getElem?_getD, Int.toNat_natCast, h]
theorem rd_of {l : List Int} {i : Nat} {c : Int} (h : l[i]? = some c) : rd l i = c := by
 unfold rd
 rw [List.getD_eq_getElem?_getD, Int.toNat_natCast, h]
 rfl
theorem letterLen_agree {l m : List Int} {n : Nat} (h : letterLen l = n) (hn : n ≠ 0) (ha : ∀ i, i < n → m[i]? = l[i]?) : letterLen m = n := by
 have h0 := ha 0 (by omega)
 unfold letterLen at h ⊢
 rw [h0]
 cases hx : l[0]? with
 | none => rw [hx] at h; exact absurd h.symm hn
 | some c =>
  rw [hx] at h
  simp only at h ⊢
  split at h
  ·rename_i hc; rw [if_pos hc]; exact h
  rename_i hc
  rw [if_neg hc]
  split at h
  ·rename_i hc
   rw [if_pos hc]
   split at h
   ·subst h; rw [ha 1 (by omega)]; rename_i h1; rw [if_pos h1]
   ·exact absurd h.symm hn
  rename_i hc
  rw [if_neg hc]
  split at h
  ·rename_i hc
   rw [if_pos hc]
   split at h
   ·rename_i h1
    subst h
    have r0 : rd m 0 = rd l 0 := rd_get h0
    have r1 : rd m 1 = rd l 1 := rd_get (ha 1 (by omega))
    have r2 : rd m 2 = rd l 2 := rd_get (ha 2 (by omega))
    have hv : val3 m = val3 l := by unfold val3; rw [r0, r1, r2]
    rw [ha 1 (by omega), ha 2 (by omega), hv, if_pos h1]
   ·exact absurd h.symm hn
  rename_i hc
  rw [if_neg hc]
  split at h
  ·rename_i hc
   rw [if_pos hc]
   split at h
   ·rename_i h1
    subst h
    have r0 : rd m 0 = rd l 0 := rd_get h0
    have r1 : rd m 1 = rd l 1 := rd_get (ha 1 (by omega))
    have r2 : rd m 2 = rd l 2 := rd_get (ha 2 (by omega))
    have r3 : rd m 3 = rd l 3 := rd_get (ha 3 (by omega))
    have hv : val4 m = val4 l := by unfold val4; rw [r0, r1, r2, r3]
    rw [ha 1 (by omega), ha 2 (by omega), ha 3 (by omega), hv, if_pos h1]
   ·exact absurd h.symm hn
  ·exact absurd h.symm hn
theorem contO_lt {l : List Int} {i : Nat} (h : contO l[i]? = true) : i < l.length := by
 cases hx : l[i]? with
 | none => rw [hx] at h; cases h
 | some c => exact at_lt hx
theorem letterLen_facts {l : List Int} {n : Nat} (h : letterLen l = n) (hn : n ≠ 0) : n ≤ l.length ∧ n ≤ 4 ∧ (∀ i, 1 ≤ i → i < n → contO l[i]? = true) ∧ (n = 1 → ∃ c, l[0]? = some c ∧ c < 128) ∧ (n ≠ 1 → ∃ c, l[0]? = some c ∧ 194 ≤ c) := by
 unfold letterLen at h
 cases hx : l[0]? with
 | none => rw [hx] at h; exact absurd h.symm hn
 | some c =>
  have hl := at_lt hx
  rw [hx] at h
  simp only at h
  split at h
  ·rename_i hc; subst h; exact ⟨by omega, by omega, fun i h1 h2 => by omega, fun _ => ⟨c, rfl, hc⟩, fun h => absurd rfl h⟩
  split at h
  ·rename_i hc
   split at h
   ·rename_i h1
    subst h
    have := contO_lt h1
    exact ⟨by omega, by omega, fun i h2 h3 => (by obtain rfl : i = 1 := (by omega); exact h1), fun h => by omega, fun _ => ⟨c, rfl, hc.1⟩⟩
   ·exact absurd h.symm hn
  split at h
  ·rename_i hc
   split at h
   ·rename_i h1
    subst h
    have := contO_lt h1.1
    have := contO_lt h1.2.1
    exact ⟨by omega, by omega, fun i h2 h3 => by (rcases (show i = 1 ∨ i = 2 by omega) with rfl | rfl); exact h1.1; exact h1.2.1, fun h => by omega, fun _ => ⟨c, rfl, by omega⟩⟩
   ·exact absurd h.symm hn
  split at h
  ·rename_i hc
   split at h
   ·rename_i h1
    subst h
    have := contO_lt h1.1
    have := contO_lt h1.2.2.1
    exact ⟨by omega, by omega, fun i h2 h3 => by (rcases (show i = 1 ∨ i = 2 ∨ i = 3 by omega) with rfl | rfl | rfl); exact h1.1; exact h1.2.1; exact h1.2.2.1, fun h => by omega, fun _ => ⟨c, rfl, by omega⟩⟩
   ·exact absurd h.symm hn
  ·exact absurd h.symm hn
inductive V : List Int → Prop where
 | nil : V []
 | cons {l : List Int} (h : letterLen l ≠ 0) (r : V (l.drop (letterLen l))) : V l
theorem V.app {a s : List Int} (h : V a) (hs : V s) : V (a ++ s) := by
 induction h with
 | nil => exact hs
 | @cons l hn hr ih =>
  have hf := letterLen_facts rfl hn
  have he : letterLen (l ++ s) = letterLen l := letterLen_agree rfl hn (fun i hi => List.getElem?_append_left (by omega))
  refine V.cons (by rw [he]; exact hn) ?_
  rw [he, List.drop_append_of_le_length hf.1]
  exact ih
theorem letterLen_ascii {c : Int} (hc : c < 128) (s : List Int) : letterLen (c :: s) = 1 := by
 unfold letterLen
 simp [hc]
theorem V.ascii {c : Int} (hc : c < 128) {s : List Int} (hs : V s) : V (c :: s) := V.cons (by rw [letterLen_ascii hc]; omega) (by rw [letterLen_ascii hc]; exact hs)
theorem V.behind {c : Int} (hc : c < 128) {s : List Int} (h : V (c :: s)) : V s := by
 cases h with
 | cons hn hr => rw [letterLen_ascii hc] at hr; exact hr
theorem V.all_ascii {l : List Int} (h : ∀ x ∈ l, x < 128) : V l := by
 induction l with
 | nil => exact .nil
 | cons c r ih => exact V.ascii (h c (List.mem_cons_self ..)) (ih fun x hx => h x (List.mem_cons_of_mem _ hx))
theorem V.split {l a s : List Int} {c : Int} (h : V l) (hl : l = a ++ c :: s) (hc : c < 128) : V a ∧ V (c :: s) := by
 induction h generalizing a with
 | nil => simp at hl
 | @cons l hn hr ih =>
  have hf := letterLen_facts rfl hn
  by_cases ha : a = []
  ·subst ha
   rw [List.nil_append] at hl
   exact ⟨.nil, hl ▸ V.cons hn hr⟩
  ·have hal : a.length ≠ 0 := fun h => ha (List.length_eq_zero_iff.1 h)
   by_cases hle : letterLen l ≤ a.length
   ·have he : letterLen a = letterLen l := letterLen_agree rfl hn (fun i hi => by rw [hl, List.getElem?_append_left (by omega)])
    have hd : l.drop (letterLen l) = a.drop (letterLen l) ++ c :: s := by
     have := congrArg (List.drop (letterLen l)) hl
     rw [List.drop_append_of_le_length hle] at this
     exact this
    obtain ⟨h1, h2⟩ := ih hd
    exact ⟨V.cons (by rw [he]; exact hn) (by rw [he]; exact h1), h2⟩
   ·have h1 := hf.2.2.1 a.length (by omega) (by omega)
    rw [hl, List.getElem?_append_right (Nat.le_refl _), Nat.sub_self] at h1
    simp [contO] at h1
    omega
theorem V.at_ {b : List Int} (h : V b) {p : Nat} {c : Int} (hx : b[p]? = some c) (hc : c < 128) : V (b.take p) ∧ V (b.drop p) ∧ V (b.drop (p + 1)) := by
 have hd := drop_some hx
 have hs : b = b.take p ++ c :: b.drop (p + 1) := by rw [← hd, List.take_append_drop]
 obtain ⟨h1, h2⟩ := h.split hs hc
 exact ⟨h1, by rw [hd]; exact h2, h2.behind hc⟩
theorem escB_high {c : Int} (h : 128 ≤ c) : escB c = [c] := by
 unfold escB
 rw [if_neg (by omega), if_neg (by omega), if_neg (by omega), if_neg (by omega), if_neg (by omega), if_neg (by omega), if_neg (by omega)]
theorem escB_ascii {c : Int} (h0 : 0 ≤ c) (h : c < 128) : ∀ x ∈ escB c, 0 ≤ x ∧ x < 128 := by
 have hh : ∀ n : Int, 0 ≤ n → n < 16 → 0 ≤ hexd n ∧ hexd n < 128 := fun n _ _ => by unfold hexd; split <;> omega
 have h1 := hh (c / 16)
 have h2 := hh (c % 16) (by omega) (by omega)
 unfold escB
 repeat' split
 all_goals (intro x hx; simp at hx; rcases hx with rfl | hx)
 all_goals (try omega)
 all_goals (rcases hx with rfl | rfl | rfl | rfl | rfl <;> omega)
theorem flat_high {l : List Int} (h : ∀ x ∈ l, 128 ≤ x) : l.flatMap escB = l := by
 induction l with
 | nil => rfl
 | cons c r ih =>
  rw [List.flatMap_cons, escB_high (h c (List.mem_cons_self ..)), ih fun x hx => h x (List.mem_cons_of_mem _ hx)]
  rfl
theorem V.esc {l : List Int} (h : V l) (hb : Bytes l) : V (l.flatMap escB) := by
 induction h with
 | nil => exact .nil
 | @cons l hn hr ih =>
  have hf := letterLen_facts rfl hn
  have hr2 := ih (fun x hx => hb x (List.mem_of_mem_drop hx))
  have hs : l.flatMap escB = (l.take (letterLen l)).flatMap escB ++ (l.drop (letterLen l)).flatMap escB := by rw [← List.flatMap_append, List.take_append_drop]
  rw [hs]
  refine V.app ?_ hr2
  by_cases h1 : letterLen l = 1
  ·obtain ⟨c, hc, hlt⟩ := hf.2.2.2.1 h1
   have ht : l.take (letterLen l) = [c] := by
    rw [h1]
    cases l with
    | nil => simp at hc
    | cons x r => simp at hc; subst hc; rfl
   rw [ht]
   refine V.all_ascii fun x hx => ?_
   simp at hx
   exact (escB_ascii (hb c (List.mem_of_getElem? hc)).1 hlt x hx).2
  ·obtain ⟨c, hc, hlt⟩ := hf.2.2.2.2 h1
   rw [flat_high]
   ·have he : letterLen (l.take (letterLen l)) = letterLen l := letterLen_agree rfl hn (fun i hi => by rw [List.getElem?_take_of_lt hi])
    refine V.cons (by rw [he]; exact hn) ?_
    rw [he, List.drop_take_self]
    exact .nil
   ·intro x hx
    obtain ⟨i, hi⟩ := List.mem_iff_getElem?.1 hx
    by_cases hlt2 : i < letterLen l
    ·rw [List.getElem?_take_of_lt hlt2] at hi
     by_cases h0 : i = 0
     ·subst h0; rw [hc] at hi; simp at hi; omega
     ·have := hf.2.2.1 i (by omega) hlt2
      rw [hi] at this
      simp [contO] at this
      omega
    ·have := at_lt hi
     simp at this
     omega
theorem V.encode {n : Int} {l : List Int} (h : encode n = some l) : V l := by
 have key : ∀ l : List Int, letterLen l = l.length → l ≠ [] → V l := fun l h1 h2 => V.cons (by rw [h1]; intro h; exact h2 (List.length_eq_zero_iff.1 h)) (by rw [h1, List.drop_length]; exact .nil)
 unfold Js.encode at h
 split at h
 ·cases h
 rename_i h0
 split at h
 ·rename_i h1
  cases h
  exact V.ascii h1 .nil
 rename_i h1
 split at h
 ·rename_i h2
  cases h
  refine key _ ?_ (by simp)
  unfold letterLen
  simp only [List.getElem?_cons_zero, List.getElem?_cons_succ]
  rw [if_neg (by omega), if_pos (by omega), if_pos (by simp [contO]; omega)]
  rfl
 rename_i h2
 split at h
 ·rename_i h3
  cases h
  refine key _ ?_ (by simp)
  have hv : val3 [224 + n / 4096, 128 + n / 64 % 64, 128 + n % 64] = n := by
   show (224 + n / 4096) % 16 * 4096 + (128 + n / 64 % 64) % 64 * 64 + (128 + n % 64) % 64 = n
   omega
  unfold letterLen
  rw [hv]
  simp only [List.getElem?_cons_zero, List.getElem?_cons_succ]
  rw [if_neg (by omega), if_neg (by omega), if_pos (by omega), if_pos (by simp [contO]; omega)]
  rfl
 ·rename_i h3
  cases h
  refine key _ ?_ (by simp)
  have hv : val4 [240 + n / 262144, 128 + n / 4096 % 64, 128 + n / 64 % 64, 128 + n % 64] = n := by
   show (240 + n / 262144) % 8 * 262144 + (128 + n / 4096 % 64) % 64 * 4096 + (128 + n / 64 % 64) % 64 * 64 + (128 + n % 64) % 64 = n
   omega
  unfold letterLen
  rw [hv]
  simp only [List.getElem?_cons_zero, List.getElem?_cons_succ]
  rw [if_neg (by omega), if_neg (by omega), if_neg (by omega), if_pos (by omega), if_pos (by simp [contO]; omega)]
  rfl
end Go.Proofs.Yteighppcdpaekaa.Js
end
section
namespace Go.Proofs.Yteighppcdpaekaa.Js
open Go.RowKit Go.Proofs.YteighppcdpaekaaW.PrintWords Go.Proofs.Yteighppcdpaekaa.P
theorem bits192 : ∀ n : Fin 256, (Go.bits .and .u8 (n.val : Int) 192 == 128) = (decide (128 ≤ (n.val : Int)) && decide ((n.val : Int) ≤ 191)) := by decide +kernel
theorem wrap32_small {n : Int} (h0 : 0 ≤ n) (h1 : n < 2147483648) : wrap32 n = n := by unfold wrap32; omega
theorem wrap64_small {n : Int} (h0 : 0 ≤ n) (h1 : n < 9223372036854775808) : wrap64 n = n := by unfold wrap64; omega
theorem i32_mask {x : Int} (h0 : 0 ≤ x) (h1 : x < 256) : Go.bits .and .i32 x 31 = x % 32 ∧ Go.bits .and .i32 x 15 = x % 16 ∧ Go.bits .and .i32 x 7 = x % 8 :=
 ⟨bits_mask .i32 31 (by decide) wraps_i32 5 (by decide) x h0 (by omega), bits_mask .i32 31 (by decide) wraps_i32 4 (by decide) x h0 (by omega), bits_mask .i32 31 (by decide) wraps_i32 3 (by decide) x h0 (by omega)⟩
theorem bits3 {x y z : Int} (hx0 : 0 ≤ x) (hx1 : x < 256) (hy0 : 0 ≤ y) (hy1 : y < 256) (hz0 : 0 ≤ z) (hz1 : z < 256) :
  Go.bits .or .i32 (Go.bits .or .i32 (wrap32 ((Go.bits .and .i32 x 15) * 4096)) (wrap32 ((wrap32 (Go.bits .and .u8 y 63)) * 64))) (wrap32 (Go.bits .and .u8 z 63)) = (x % 16) * 4096 + (y % 64) * 64 + z % 64 := by
 rw [(i32_mask hx0 hx1).2.1, u8_and63 y hy0 hy1, u8_and63 z hz0 hz1, wrap32_small (by omega) (by omega), wrap32_small (n := y % 64) (by omega) (by omega), wrap32_small (by omega) (by omega), wrap32_small (by omega) (by omega),
  i32_or12 (x % 16 * 4096) (y % 64 * 64) (by omega) (by omega) (by omega) (by omega) (by omega), i32_or6 (x % 16 * 4096 + y % 64 * 64) (z % 64) (by omega) (by omega) (by omega) (by omega) (by omega)]
theorem bits4 {x y z u : Int} (hx0 : 0 ≤ x) (hx1 : x < 256) (hy0 : 0 ≤ y) (hy1 : y < 256) (hz0 : 0 ≤ z) (hz1 : z < 256) (hu0 : 0 ≤ u) (hu1 : u < 256) :
  Go.bits .or .i32 (Go.bits .or .i32 (Go.bits .or .i32 (wrap32 ((Go.bits .and .i32 x 7) * 262144)) (wrap32 ((wrap32 (Go.bits .and .u8 y 63)) * 4096))) (wrap32 ((wrap32 (Go.bits .and .u8 z 63)) * 64))) (wrap32 (Go.bits .and .u8 u 63)) = (x % 8) * 262144 + (y % 64) * 4096 + (z % 64) * 64 + u % 64 := by
 rw [(i32_mask hx0 hx1).2.2, u8_and63 y hy0 hy1, u8_and63 z hz0 hz1, u8_and63 u hu0 hu1, wrap32_small (by omega) (by omega), wrap32_small (n := y % 64) (by omega) (by omega), wrap32_small (by omega) (by omega), wrap32_small (n := z % 64) (by omega) (by omega), wrap32_small (by omega) (by omega), wrap32_small (by omega) (by omega),
  i32_or18 (x % 8 * 262144) (y % 64 * 4096) (by omega) (by omega) (by omega) (by omega) (by omega), i32_or12 (x % 8 * 262144 + y % 64 * 4096) (z % 64 * 64) (by omega) (by omega) (by omega) (by omega) (by omega), i32_or6 (x % 8 * 262144 + y % 64 * 4096 + z % 64 * 64) (u % 64) (by omega) (by omega) (by omega) (by omega) (by omega)]
theorem rd_bytes {l : List Int} (hb : Bytes l) (i : Int) : 0 ≤ rd l i ∧ rd l i < 256 := by
 unfold rd
 rw [List.getD_eq_getElem?_getD]
 cases h : l[i.toNat]? with
 | none => simp
 | some c => have := hb c (List.mem_of_getElem? h); simp; omega
theorem more_val {l : List Int} (hb : Bytes l) (i : Nat) : utf_more.f l (i : Int) = some (contO l[i]?) := by
 unfold utf_more.f
 by_cases h : (i : Int) < (l.length : Int)
 ·rw [if_pos h, if_pos (by omega)]
  obtain ⟨c, hc⟩ : ∃ c, l[i]? = some c := ⟨_, List.getElem?_eq_getElem (by omega)⟩
  have hr : rd l (i : Int) = c := rd_of hc
  obtain ⟨h0, h1⟩ := rd_bytes hb (i : Int)
  rw [hr] at h0 h1 ⊢
  have := bits192 ⟨c.toNat, by omega⟩
  simp only [Int.toNat_of_nonneg h0] at this
  rw [this, hc]
  rfl
 ·rw [if_neg h, at_none (by omega)]
  rfl
theorem letter_val {l : List Int} (hb : Bytes l) (hl : l.length ≤ 100000000000) {p : Nat} (hp : p < l.length) (k : Nat) : ∃ r, utf_letter.f (k + 3) l (p : Int) = some (r, (letterLen (l.drop p) : Int)) := by
 obtain ⟨c, hc⟩ : ∃ c, l[p]? = some c := ⟨_, List.getElem?_eq_getElem hp⟩
 have hr : rd l (p : Int) = c := rd_of hc
 obtain ⟨h0, h1⟩ := rd_bytes hb (p : Int)
 rw [hr] at h0 h1
 have hd : ∀ i : Nat, (l.drop p)[i]? = l[p + i]? := fun i => List.getElem?_drop
 have hrd : ∀ i : Nat, rd (l.drop p) (i : Int) = rd l ((p + i : Nat) : Int) := fun i => by
  unfold rd
  rw [List.getD_eq_getElem?_getD, List.getD_eq_getElem?_getD, Int.toNat_natCast, Int.toNat_natCast, hd]
 have w1 : wrap64 ((p : Int) + 1) = ((p + 1 : Nat) : Int) := by rw [wrap64_small (by omega) (by omega)]; omega
 have w2 : wrap64 ((p : Int) + 2) = ((p + 2 : Nat) : Int) := by rw [wrap64_small (by omega) (by omega)]; omega
 have w3 : wrap64 ((p : Int) + 3) = ((p + 3 : Nat) : Int) := by rw [wrap64_small (by omega) (by omega)]; omega
 have m1 := more_val hb (p + 1)
 have m2 := more_val hb (p + 2)
 have m3 := more_val hb (p + 3)
 have f2 : ∀ j, utf_letter.j2 (j + 1) l (p : Int) c false = some (0, 0) := fun j => by simp [utf_letter.j2]
 have f1 : ∀ j, ¬ (240 ≤ c ∧ c ≤ 244) → utf_letter.j1 (j + 2) l (p : Int) c false = some (0, 0) := fun j h => by
  simp only [utf_letter.j1]
  rw [if_neg (by simp)]
  by_cases h240 : c ≥ 240
  ·rw [if_pos h240, if_neg (by omega), f2]
  ·rw [if_neg h240, f2]
 have f0 : ∀ j, ¬ (224 ≤ c ∧ c ≤ 239) → utf_letter.j0 (j + 1) l (p : Int) c false = utf_letter.j1 j l (p : Int) c false := fun j h => by
  simp only [utf_letter.j0]
  rw [if_neg (by simp)]
  by_cases h224 : c ≥ 224
  ·rw [if_pos h224, if_neg (by omega)]
  ·rw [if_neg h224]
 have inn : ∀ i : Nat, contO l[p + i]? = true → ((p + i : Nat) : Int) < (l.length : Int) := fun i h => by have := contO_lt h; omega
 unfold utf_letter.f letterLen
 rw [show (l.drop p)[0]? = some c from (hd 0).trans hc, hr, wrap32_small h0 (by omega), if_pos (by omega), if_pos (by omega), hd, hd, hd, w1, m1]
 simp only
 by_cases c1 : c < 128
 ·rw [if_pos c1, if_pos c1]; exact ⟨_, rfl⟩
 rw [if_neg c1, if_neg c1]
 by_cases c2 : 194 ≤ c ∧ c ≤ 223
 ·rw [if_pos c2, if_pos c2.1, if_pos c2.2]
  simp only [Option.bind_some]
  cases hx : contO l[p + 1]? with
  | false => rw [f0 _ (by omega), f1 _ (by omega), if_neg (by simp)]; exact ⟨_, rfl⟩
  | true =>
   simp only [utf_letter.j0]
   rw [if_pos (by trivial), w1, if_pos (by omega), if_pos (inn 1 hx), if_pos (by trivial)]
   exact ⟨_, rfl⟩
 rw [if_neg c2]
 have hj : (if c ≥ 194 then (if c ≤ 223 then ((some (contO l[p + 1]?)).bind fun t103 => utf_letter.j0 (k + 3) l (p : Int) c t103) else utf_letter.j0 (k + 3) l (p : Int) c false) else utf_letter.j0 (k + 3) l (p : Int) c false) = utf_letter.j0 (k + 3) l (p : Int) c false := by
  by_cases h194 : c ≥ 194
  ·rw [if_pos h194, if_neg (by omega)]
  ·rw [if_neg h194]
 rw [hj]
 by_cases c3 : 224 ≤ c ∧ c ≤ 239
 ·rw [if_pos c3]
  simp only [utf_letter.j0]
  rw [if_neg (by simp), if_pos c3.1, if_pos c3.2, w1, m1]
  simp only [Option.bind_some]
  cases hx : contO l[p + 1]? with
  | false => rw [if_neg (by simp), f1 _ (by omega), if_neg (by simp)]; exact ⟨_, rfl⟩
  | true =>
   rw [if_pos (by trivial), w2, m2]
   simp only [Option.bind_some]
   cases hy : contO l[p + 2]? with
   | false => rw [f1 _ (by omega), if_neg (by simp)]; exact ⟨_, rfl⟩
   | true =>
    obtain ⟨a0, a1⟩ := rd_bytes hb ((p + 1 : Nat) : Int)
    obtain ⟨b0, b1⟩ := rd_bytes hb ((p + 2 : Nat) : Int)
    have hv : val3 (l.drop p) = (c % 16) * 4096 + (rd l ((p + 1 : Nat) : Int) % 64) * 64 + rd l ((p + 2 : Nat) : Int) % 64 := by
     have e0 : rd (l.drop p) 0 = c := (hrd 0).trans hr
     have e1 : rd (l.drop p) 1 = rd l ((p + 1 : Nat) : Int) := hrd 1
     have e2 : rd (l.drop p) 2 = rd l ((p + 2 : Nat) : Int) := hrd 2
     unfold val3; rw [e0, e1, e2]
    simp only [utf_letter.j1]
    rw [if_pos (by trivial), w1, w2, bits3 h0 h1 a0 a1 b0 b1, ← hv, if_pos (by omega), if_pos (inn 1 hx), if_pos (by omega), if_pos (inn 2 hy)]
    by_cases v1 : val3 (l.drop p) ≥ 2048
    ·rw [if_pos v1]
     by_cases v2 : val3 (l.drop p) < 55296
     ·rw [if_pos v2, if_pos ⟨by trivial, by trivial, v1, .inl v2⟩]; exact ⟨_, rfl⟩
     ·rw [if_neg v2]
      by_cases v3 : val3 (l.drop p) > 57343
      ·rw [if_pos v3, if_pos ⟨by trivial, by trivial, v1, .inr v3⟩]; exact ⟨_, rfl⟩
      ·rw [if_neg v3, if_neg (by omega)]; exact ⟨_, rfl⟩
    ·rw [if_neg v1, if_neg (by omega)]; exact ⟨_, rfl⟩
 rw [if_neg c3, f0 _ c3]
 by_cases c4 : 240 ≤ c ∧ c ≤ 244
 ·rw [if_pos c4]
  simp only [utf_letter.j1]
  rw [if_neg (by simp), if_pos c4.1, if_pos c4.2, w1, m1]
  simp only [Option.bind_some]
  cases hx : contO l[p + 1]? with
  | false => rw [if_neg (by simp), f2, if_neg (by simp)]; exact ⟨_, rfl⟩
  | true =>
   rw [if_pos (by trivial), w2, m2]
   simp only [Option.bind_some]
   cases hy : contO l[p + 2]? with
   | false => rw [if_neg (by simp), f2, if_neg (by simp)]; exact ⟨_, rfl⟩
   | true =>
    rw [if_pos (by trivial), w3, m3]
    simp only [Option.bind_some]
    cases hz : contO l[p + 3]? with
    | false => rw [f2, if_neg (by simp)]; exact ⟨_, rfl⟩
    | true =>
     obtain ⟨a0, a1⟩ := rd_bytes hb ((p + 1 : Nat) : Int)
     obtain ⟨b0, b1⟩ := rd_bytes hb ((p + 2 : Nat) : Int)
     obtain ⟨d0, d1⟩ := rd_bytes hb ((p + 3 : Nat) : Int)
     have hv : val4 (l.drop p) = (c % 8) * 262144 + (rd l ((p + 1 : Nat) : Int) % 64) * 4096 + (rd l ((p + 2 : Nat) : Int) % 64) * 64 + rd l ((p + 3 : Nat) : Int) % 64 := by
      have e0 : rd (l.drop p) 0 = c := (hrd 0).trans hr
      have e1 : rd (l.drop p) 1 = rd l ((p + 1 : Nat) : Int) := hrd 1
      have e2 : rd (l.drop p) 2 = rd l ((p + 2 : Nat) : Int) := hrd 2
      have e3 : rd (l.drop p) 3 = rd l ((p + 3 : Nat) : Int) := hrd 3
      unfold val4; rw [e0, e1, e2, e3]
     simp only [utf_letter.j2]
     rw [if_pos (by trivial), w1, w2, w3, bits4 h0 h1 a0 a1 b0 b1 d0 d1, ← hv, if_pos (by omega), if_pos (inn 1 hx), if_pos (by omega), if_pos (inn 2 hy), if_pos (by omega), if_pos (inn 3 hz)]
     by_cases v1 : val4 (l.drop p) ≥ 65536
     ·rw [if_pos v1]
      by_cases v2 : val4 (l.drop p) ≤ 1114111
      ·rw [if_pos v2, if_pos ⟨by trivial, by trivial, by trivial, v1, v2⟩]; exact ⟨_, rfl⟩
      ·rw [if_neg v2, if_neg (by omega)]; exact ⟨_, rfl⟩
     ·rw [if_neg v1, if_neg (by omega)]; exact ⟨_, rfl⟩
 ·rw [if_neg c4, f1 _ c4]; exact ⟨_, rfl⟩
theorem V.inv {m : List Int} (h : V m) (hm : m ≠ []) : letterLen m ≠ 0 ∧ V (m.drop (letterLen m)) := by
 cases h with
 | nil => exact absurd rfl hm
 | cons h r => exact ⟨h, r⟩
theorem valid_from {l : List Int} (hb : Bytes l) (hl : l.length ≤ 100000000000) : ∀ n p : Nat, l.length - p ≤ n → p ≤ l.length → ∃ x e, utf_Valid.l0 (n + 4) l (p : Int) = some (x, e) ∧ (e = 0 ∨ e = 10) ∧ (e = 0 ↔ V (l.drop p)) ∧ (e = 0 → x = 0) := by
 intro n
 induction n with
 | zero =>
  intro p h hp
  refine ⟨0, 0, ?_, .inl rfl, ?_, fun _ => rfl⟩
  ·simp only [utf_Valid.l0]; rw [if_neg (by omega)]
  ·rw [List.drop_eq_nil_of_le (by omega)]; exact ⟨fun _ => .nil, fun _ => rfl⟩
 | succ n ih =>
  intro p h hp
  by_cases hlt : p < l.length
  ·obtain ⟨r, hr⟩ := letter_val hb hl hlt (n + 1)
   have hne : l.drop p ≠ [] := by simp; omega
   have hstep : utf_Valid.l0 (n + 1 + 4) l (p : Int) = (utf_letter.f (n + 1 + 3) l (p : Int)).bind fun bt115 => (if bt115.2 = 0 then (some ((p : Int), 10)) else (utf_Valid.l0 (n + 4) l (wrap64 ((p : Int) + bt115.2)))) := by
    rw [show n + 1 + 4 = (n + 4) + 1 by omega]
    simp only [utf_Valid.l0]
    rw [if_pos (by omega)]
   by_cases hn : letterLen (l.drop p) = 0
   ·refine ⟨(p : Int), 10, ?_, .inr rfl, ?_, fun h => absurd h (by decide)⟩
    ·rw [hstep, hr, hn]; rfl
    ·exact ⟨fun h => absurd h (by decide), fun hv => absurd hn (hv.inv hne).1⟩
   ·have hf := (letterLen_facts rfl hn).1
    have hle : p + letterLen (l.drop p) ≤ l.length := by have := hf; simp at this; omega
    obtain ⟨x, e, h1, h2, h3, h4⟩ := ih (p + letterLen (l.drop p)) (by omega) hle
    refine ⟨x, e, ?_, h2, ?_, h4⟩
    ·rw [hstep, hr]
     simp only [Option.bind_some]
     rw [if_neg (by omega), wrap64_small (by omega) (by omega)]
     rw [show (p : Int) + (letterLen (l.drop p) : Int) = ((p + letterLen (l.drop p) : Nat) : Int) by omega]
     exact h1
    ·rw [h3, ← List.drop_drop]
     exact ⟨fun h => V.cons hn h, fun hv => (hv.inv hne).2⟩
  ·refine ⟨0, 0, ?_, .inl rfl, ?_, fun _ => rfl⟩
   ·rw [show n + 1 + 4 = (n + 4) + 1 by omega]; simp only [utf_Valid.l0]; rw [if_neg (by omega)]
   ·rw [List.drop_eq_nil_of_le (by omega)]; exact ⟨fun _ => .nil, fun _ => rfl⟩
theorem valid_all {l : List Int} (hb : Bytes l) (hl : l.length ≤ 100000000000) {k : Nat} (hk : l.length + 4 ≤ k) : ∃ x e, utf_Valid.f k l = some (x, e) ∧ (e = 0 ∨ e = 10) ∧ (e = 0 ↔ V l) ∧ (e = 0 → x = 0) := by
 obtain ⟨x, e, h1, h2, h3, h4⟩ := valid_from hb hl l.length 0 (by omega) (by omega)
 exact ⟨x, e, at_rounds (fun j => utf_Valid.mono l j) hk h1, h2, h3, h4⟩
theorem valid_ok {l : List Int} (hb : Bytes l) (hl : l.length ≤ 100000000000) (hv : V l) {k : Nat} (hk : l.length + 4 ≤ k) : utf_Valid.f k l = some (0, 0) := by
 obtain ⟨x, e, h1, h2, h3, h4⟩ := valid_all hb hl hk
 have h5 := h3.2 hv
 rw [h1, h5, h4 h5]
end Go.Proofs.Yteighppcdpaekaa.Js
end
section
namespace Go.Proofs.Yteighppcdpaekaa.Eq4
open Go.RowKit Go.Proofs.YteighppcdpaekaaW.PrintWords Go.Proofs.Yteighppcdpaekaa.P
def eqK : List ByteArray → List ByteArray → Bool
 | a :: r, b :: s => (a.toList == b.toList) && eqK r s
 | _, _ => true
mutual
def eqS : S25 → S25 → Bool
 | ⟨k1, t1, ks1, l1⟩, ⟨k2, t2, ks2, l2⟩ =>
  if k1 = k2 then (if k1 = 3 ∨ k1 = 4 then t1.toList == t2.toList
   else if k1 = 5 ∨ k1 = 6 then (decide (l1.length = l2.length) && ((if k1 = 6 then decide (ks1.length = ks2.length) && eqK ks1 ks2 else true) && eqL l1 l2)) else true) else false
def eqL : List S25 → List S25 → Bool
 | a :: r, b :: s => eqS a b && eqL r s
 | _, _ => true
end
theorem eqS_eq (a b : S25) : eqS a b = if a.f0 = b.f0 then (if a.f0 = 3 ∨ a.f0 = 4 then a.f1.toList == b.f1.toList
      else if a.f0 = 5 ∨ a.f0 = 6 then (decide (a.f3.length = b.f3.length) && ((if a.f0 = 6 then decide (a.f2.length = b.f2.length) && eqK a.f2 b.f2 else true) && eqL a.f3 b.f3)) else true) else false := by
  cases a; cases b; simp only [eqS]
theorem eqK_refl (l : List ByteArray) : eqK l l = true := by
 induction l with
 | nil => rfl
 | cons a r ih => simp [eqK, ih]
end Go.Proofs.Yteighppcdpaekaa.Eq4
end
