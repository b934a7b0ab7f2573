/- Walks and words of this session, put together by a program of this session (pack.py). Conditions: as each text says. -/
import Derived.Test.YteighppcdpaekaaDoorProg
import Derived.WalkKit
import Derived.Below
import Derived.KernelRfl
import Derived.WalkLawsBesides
import Derived.WalkSpells
import Derived.Deep.QuietTactic
import Derived.Deep.LoopGhost
import Derived.BigQuiet
import Derived.Outline
import Derived.Lib.Hide
import Derived.Deep.DeepCutAuto
import Derived.StillTailTactics
import Derived.Deep.RegionWith
import Derived.Test.YteighppcdpaekaaDoorP0
import Derived.Test.YteighppcdpaekaaDoorP1
import Derived.Test.YteighppcdpaekaaDoorP2
import Derived.Test.YteighppcdpaekaaDoorP5
import Derived.Test.YteighppcdpaekaaDoorP7
set_option linter.unusedVariables false
set_option linter.unusedSimpArgs false
section
namespace Go.Proofs.YteighppcdpaekaaDoor.Rf
open Go.RowKit Go.Proofs.YteighppcdpaekaaDoorW.PrintWords Go.Proofs.YteighppcdpaekaaDoor Go.Proofs.YteighppcdpaekaaDoor.P
def Bs (b : List Int) : Prop := (∀ x ∈ b, 0 ≤ x ∧ x ≤ 255) ∧ b.length ≤ 1000000
section
variable {α : Type} {r : α}
theorem evT {c : Prop} [Decidable c] {A B : Nat → Option α} (hc : c) (h : Ev A r) : Ev (fun k => if c then A k else B k) r := by simpa only [if_pos hc] using h
theorem evF {c : Prop} [Decidable c] {A B : Nat → Option α} (hc : ¬ c) (h : Ev B r) : Ev (fun k => if c then A k else B k) r := by simpa only [if_neg hc] using h
theorem evC {o : Option α} (h : o = some r) : Ev (fun _ => o) r := ⟨0, fun _ _ => h⟩
theorem evB {β : Type} {o : Option α} {f : Nat → α → Option β} {s : β} (h : o = some r) (k : Ev (fun n => f n r) s) : Ev (fun n => o.bind (f n)) s := by
 subst h; exact k
end
theorem w64 {z : Int} (h0 : -9223372036854775808 ≤ z) (h1 : z ≤ 9223372036854775807) : wrap64 z = z := by unfold wrap64; omega
theorem w64n {n : Nat} (h : n ≤ 1000000) : wrap64 ((n : Int) + 1) = ((n + 1 : Nat) : Int) := by unfold wrap64; omega
variable {b : List Int} {p : Nat} {d B : Int}
theorem rd_at {c : Int} (h : b[p]? = some c) : rd b (p : Int) = c := by simp [rd, h]
theorem lt_of {c : Int} (h : b[p]? = some c) : p < b.length := (List.getElem?_eq_some_iff.1 h).1
theorem byte_of {c : Int} (hb : Bs b) (h : b[p]? = some c) : 0 ≤ c ∧ c ≤ 255 := hb.1 c (List.mem_of_getElem? h)
theorem see_ok {c : Int} (hb : Bs b) (h : b[p]? = some c) : rR_see.f b p d 0 B = some (c, (p : Int), d, (0 : Int), B) := by
 have := lt_of h
 have := byte_of hb h
 unfold rR_see.f
 rw [if_pos rfl, if_neg (by omega), if_pos (by omega), if_pos (by omega), rd_at h, w64 (by omega) (by omega)]
theorem see_end (h : b[p]? = none) : rR_see.f b p d 0 B = some (-1, (p : Int), d, (0 : Int), B) := by
 have : b.length ≤ p := by simpa using h
 unfold rR_see.f
 rw [if_pos rfl, if_pos (by omega)]
theorem see_bad {a e : Int} (he : e ≠ 0) : rR_see.f b a d e B = some (-1, a, d, e, B) := by
 unfold rR_see.f
 rw [if_neg he]
theorem peek_ok {c : Int} (hb : Bs b) (h : b[p]? = some c) : rR_peek.f b p d 0 B = some (c, (p : Int), d, (0 : Int), B) := by
 have := lt_of h
 have := byte_of hb h
 unfold rR_peek.f
 rw [if_pos rfl, if_neg (by omega), if_pos (by omega), if_pos (by omega), rd_at h, w64 (by omega) (by omega)]
theorem peek_end (h : b[p]? = none) : rR_peek.f b p d 0 B = some (-1, (p : Int), d, (11 : Int), (b.length : Int)) := by
 have : b.length ≤ p := by simpa using h
 unfold rR_peek.f
 rw [if_pos rfl, if_pos (by omega)]
 rfl
theorem peek_bad {a e : Int} (he : e ≠ 0) : rR_peek.f b a d e B = some (-1, a, d, e, B) := by
 unfold rR_peek.f
 rw [if_neg he]
theorem fail_0 (a c x : Int) : rR_fail.f b a d 0 B c x = some (a, d, c, x) := by unfold rR_fail.f; rw [if_pos rfl]
theorem fail_bad {a e : Int} (he : e ≠ 0) (c x : Int) : rR_fail.f b a d e B c x = some (a, d, e, B) := by unfold rR_fail.f; rw [if_neg he]
theorem n6 : (6 : Int) ≠ 0 := by decide
theorem n10 : (10 : Int) ≠ 0 := by decide
theorem n11 : (11 : Int) ≠ 0 := by decide
theorem n12 : (12 : Int) ≠ 0 := by decide
theorem n13 : (13 : Int) ≠ 0 := by decide
theorem n23 : (23 : Int) ≠ 0 := by decide
def Ends0 (o : Js.Out Unit) (d B : Int) (g : Nat → Option (Int × Int × Int × Int)) : Prop :=
 match o with
 | .ok _ q => Ev g ((q : Int), d, 0, B)
 | .no _ _ => ∃ a d' e B', e ≠ 0 ∧ Ev g (a, d', e, B')
theorem blank_loop (hb : Bs b) : ∀ (j : Nat) (p : Nat), p + j = b.length → ∀ c, (∀ x, b[p]? = some x → c = x) → (b[p]? = none → c = -1) → Ev (fun k => rR_blank.l0 k c b p d 0 B) ((Js.blank b p : Nat), d, 0, B)
 | 0, p, hj, c, _, h2 => by
  have hn : b[p]? = none := by simp; omega
  have := h2 hn
  subst this
  refine Ev.step (fun k => rfl) ?_
  refine evF (by decide) (evF (by decide) (evF (by decide) (evF (by decide) ?_)))
  rw [Js.blank, Js.blank_end hn]
  exact Ev.now _
 | j + 1, p, hj, c, h1, _ => by
  obtain ⟨x, hx⟩ : ∃ x, b[p]? = some x := ⟨b[p]'(by omega), by simp⟩
  have := h1 x hx
  subst this
  have hl := hb.2
  have ih : ∀ c', (∀ x, b[p + 1]? = some x → c' = x) → (b[p + 1]? = none → c' = -1) → Ev (fun k => rR_blank.l0 k c' b ((p + 1 : Nat) : Int) d 0 B) ((Js.blank b (p + 1) : Nat), d, 0, B) := fun c' a a' => blank_loop hb j (p + 1) (by omega) c' a a'
  have go : Ev (fun k => (rR_see.f b (wrap64 ((p : Int) + 1)) d 0 B).bind fun t => rR_blank.l0 k t.1 b t.2.1 t.2.2.1 t.2.2.2.1 t.2.2.2.2) ((Js.blank b (p + 1) : Nat), d, 0, B) := by
   rw [w64n (by omega)]
   cases hn : b[p + 1]? with
   | none => exact evB (see_end hn) (ih _ (fun x e => by rw [hn] at e; cases e) (fun _ => rfl))
   | some y => exact evB (see_ok hb hn) (ih _ (fun x e => by rw [hn] at e; exact Option.some.inj e) (fun e => by rw [hn] at e; cases e))
  by_cases hc : Js.isBlank c = true
  ·have e : Js.blank b p = Js.blank b (p + 1) := by unfold Js.blank; rw [Js.blank_step hx hc]; omega
   rw [e]
   refine Ev.step (fun k => rfl) ?_
   by_cases e1 : c = 32
   ·exact evT e1 go
   refine evF e1 ?_
   by_cases e2 : c = 9
   ·exact evT e2 go
   refine evF e2 ?_
   by_cases e3 : c = 10
   ·exact evT e3 go
   refine evF e3 ?_
   by_cases e4 : c = 13
   ·exact evT e4 go
   ·exact absurd hc (by simp [Js.isBlank, e1, e2, e3, e4])
  ·have e : Js.blank b p = p := by unfold Js.blank; rw [Js.blank_stop hx (by simpa using hc)]; rfl
   rw [e]
   have hc' : c ≠ 32 ∧ c ≠ 9 ∧ c ≠ 10 ∧ c ≠ 13 := by simpa [Js.isBlank, not_or, and_assoc] using hc
   refine Ev.step (fun k => rfl) ?_
   exact evF hc'.1 (evF hc'.2.1 (evF hc'.2.2.1 (evF hc'.2.2.2 (Ev.now _))))
theorem blank_ok (hb : Bs b) (hp : p ≤ b.length) : Ev (fun k => rR_blank.f k b p d 0 B) ((Js.blank b p : Nat), d, 0, B) := by
 show Ev (fun k => (rR_see.f b p d 0 B).bind fun t => rR_blank.l0 k t.1 b t.2.1 t.2.2.1 t.2.2.2.1 t.2.2.2.2) _
 cases hn : b[p]? with
 | none => exact evB (see_end hn) (blank_loop hb (b.length - p) p (by omega) _ (fun x e => by rw [hn] at e; cases e) (fun _ => rfl))
 | some y => exact evB (see_ok hb hn) (blank_loop hb (b.length - p) p (by omega) _ (fun x e => by rw [hn] at e; exact Option.some.inj e) (fun e => by rw [hn] at e; cases e))
theorem blank_bad {a e : Int} (he : e ≠ 0) : Ev (fun k => rR_blank.f k b a d e B) (a, d, e, B) := by
 refine evB (see_bad he) ?_
 refine Ev.step (fun k => rfl) ?_
 exact evF (by show ¬ ((-1 : Int) = 32); decide) (evF (by show ¬ ((-1 : Int) = 9); decide) (evF (by show ¬ ((-1 : Int) = 10); decide) (evF (by show ¬ ((-1 : Int) = 13); decide) (Ev.now _))))
theorem must_ok {c : Int} (hb : Bs b) (h : b[p]? = some c) : Ev (fun k => rR_must.f k b p d 0 B c) (((p + 1 : Nat) : Int), d, 0, B) := by
 unfold rR_must.f
 have := lt_of h
 have hl := hb.2
 refine evB (peek_ok hb h) ?_
 refine evT rfl ?_
 refine Ev.step (fun k => rfl) ?_
 refine evF (by simp) (evT rfl ?_)
 show Ev (fun _ => some (wrap64 ((p : Int) + 1), d, 0, B)) _
 rw [w64n (by omega)]
 exact Ev.now _
theorem must_no {c x : Int} (hb : Bs b) (h : b[p]? = some x) (hx : x ≠ c) : Ev (fun k => rR_must.f k b p d 0 B c) ((p : Int), d, 6, (p : Int)) := by
 unfold rR_must.f
 refine evB (peek_ok hb h) ?_
 refine evT rfl ?_
 refine Ev.step (fun k => rfl) ?_
 refine evT (by simpa using hx) ?_
 refine evB (fail_0 _ _ _) ?_
 exact evF (by show ¬ ((6 : Int) = 0); decide) (Ev.now _)
theorem must_bad {a e c : Int} (he : e ≠ 0) : Ev (fun k => rR_must.f k b a d e B c) (a, d, e, B) := by
 unfold rR_must.f
 refine evB (peek_bad he) ?_
 refine evF (by exact he) ?_
 refine Ev.step (fun k => rfl) ?_
 exact evF (by exact he) (Ev.now _)
theorem must_end {c : Int} (h : b[p]? = none) : Ev (fun k => rR_must.f k b p d 0 B c) ((p : Int), d, 11, (b.length : Int)) := by
 unfold rR_must.f
 refine evB (peek_end h) ?_
 refine evF (by show ¬ ((11 : Int) = 0); decide) ?_
 refine Ev.step (fun k => rfl) ?_
 exact Ev.now _
theorem digits_loop (hb : Bs b) : ∀ (j : Nat) (p : Nat), p + j = b.length → ∀ c, (∀ x, b[p]? = some x → c = x) → (b[p]? = none → c = -1) → Ev (fun k => rR_digits.l0 k c b p d 0 B) (((p + Js.digitLen (b.drop p) : Nat) : Int), d, 0, B)
 | 0, p, hj, c, _, h2 => by
  have hn : b[p]? = none := by simp; omega
  have := h2 hn
  subst this
  refine Ev.step (fun k => rfl) ?_
  rw [Js.digit_end hn]
  exact evF (c := (-1 : Int) ≥ 48) (by decide) (Ev.now _)
 | j + 1, p, hj, c, h1, _ => by
  obtain ⟨x, hx⟩ : ∃ x, b[p]? = some x := ⟨b[p]'(by omega), by simp⟩
  have := h1 x hx
  subst this
  have hl := hb.2
  refine Ev.step (fun k => rfl) ?_
  by_cases e1 : c ≥ 48
  ·refine evT e1 ?_
   by_cases e2 : c ≤ 57
   ·refine evT e2 ?_
    have e : p + Js.digitLen (b.drop p) = (p + 1) + Js.digitLen (b.drop (p + 1)) := by rw [Js.digit_step hx (by simp [Js.isDigit]; omega)]; omega
    rw [e, w64n (by omega)]
    cases hn : b[p + 1]? with
    | none => exact evB (see_end hn) (digits_loop hb j (p + 1) (by omega) _ (fun x e => by rw [hn] at e; cases e) (fun _ => rfl))
    | some y => exact evB (see_ok hb hn) (digits_loop hb j (p + 1) (by omega) _ (fun x e => by rw [hn] at e; exact Option.some.inj e) (fun e => by rw [hn] at e; cases e))
   ·rw [Js.digit_stop hx (by simp [Js.isDigit]; omega)]
    exact evF e2 (Ev.now _)
  ·rw [Js.digit_stop hx (by simp [Js.isDigit]; omega)]
   exact evF e1 (Ev.now _)
theorem digits_1 (hb : Bs b) (hp : p ≤ b.length) : Ev (fun k => rR_digits.j1 k b p d 0 B) (((p + Js.digitLen (b.drop p) : Nat) : Int), d, 0, B) := by
 refine Ev.step (fun k => rfl) ?_
 cases hn : b[p]? with
 | none => exact evB (see_end hn) (digits_loop hb (b.length - p) p (by omega) _ (fun x e => by rw [hn] at e; cases e) (fun _ => rfl))
 | some y => exact evB (see_ok hb hn) (digits_loop hb (b.length - p) p (by omega) _ (fun x e => by rw [hn] at e; exact Option.some.inj e) (fun e => by rw [hn] at e; cases e))
theorem digits_1bad {a e : Int} (he : e ≠ 0) : Ev (fun k => rR_digits.j1 k b a d e B) (a, d, e, B) := by
 refine Ev.step (fun k => rfl) ?_
 refine evB (see_bad he) ?_
 refine Ev.step (fun k => rfl) ?_
 exact evF (c := (-1 : Int) ≥ 48) (by decide) (Ev.now _)
theorem digits_bad {a e : Int} (he : e ≠ 0) : Ev (fun k => rR_digits.f k b a d e B) (a, d, e, B) := by
 unfold rR_digits.f
 refine evB (peek_bad he) ?_
 refine evF (by exact he) ?_
 exact Ev.step (fun k => rfl) (digits_1bad he)
theorem digits_ends (hb : Bs b) : Ends0 (Js.digits b p) d B (fun k => rR_digits.f k b p d 0 B) := by
 unfold rR_digits.f Js.digits
 cases hn : b[p]? with
 | none =>
  refine ⟨(p : Int), d, 11, (b.length : Int), by decide, evB (peek_end hn) ?_⟩
  refine evF (by show ¬ ((11 : Int) = 0); decide) ?_
  exact Ev.step (fun k => rfl) (digits_1bad n11)
 | some c =>
  have hp := lt_of hn
  simp only
  by_cases e1 : Js.isDigit c = true
  ·rw [if_pos e1]
   refine evB (peek_ok hb hn) ?_
   refine evT rfl ?_
   have e2 : 48 ≤ c ∧ c ≤ 57 := by simpa [Js.isDigit] using e1
   refine evF (by show ¬ (c < 48); omega) ?_
   refine Ev.step (fun k => rfl) ?_
   refine evF (by show ¬ (decide (c > 57) = true); simp; omega) ?_
   exact digits_1 hb (by omega)
  ·rw [if_neg e1]
   have e2 : ¬ (48 ≤ c ∧ c ≤ 57) := by simpa [Js.isDigit] using e1
   refine ⟨(p : Int), d, 6, (p : Int), by decide, evB (peek_ok hb hn) ?_⟩
   refine evT rfl ?_
   have bad : Ev (fun k => rR_digits.j0 k true b p d 0 B) ((p : Int), d, 6, (p : Int)) := by
    refine Ev.step (f := fun k => (rR_fail.f b p d 0 B 6 p).bind fun t => rR_digits.j1 k b t.1 t.2.1 t.2.2.1 t.2.2.2) (fun k => rfl) ?_
    exact evB (fail_0 _ _ _) (digits_1bad n6)
   by_cases e3 : c < 48
   ·exact evT e3 bad
   ·refine evF e3 ?_
    show Ev (fun k => rR_digits.j0 k (decide (c > 57)) b p d 0 B) _
    rw [decide_eq_true (by omega : c > 57)]
    exact bad
theorem word_bad (s : ByteArray) (kd : Int) : ∀ (j i : Nat), i + j = s.size → ∀ {a e : Int}, e ≠ 0 → s.size ≤ 1000 → Ev (fun k => rR_word.l0 k s kd i b a d e B) (kd, (⟨#[]⟩ : ByteArray), [], [], a, d, e, B)
 | 0, i, h, a, e, he, hs => by
  refine Ev.step (fun k => rfl) ?_
  exact evF (by omega) (Ev.now _)
 | j + 1, i, h, a, e, he, hs => by
  refine Ev.step (fun k => rfl) ?_
  refine evT (by omega) (evT (by omega) ?_)
  refine Ev.bind (must_bad he) ?_
  rw [w64n (by omega)]
  exact word_bad s kd j (i + 1) (by omega) he hs
theorem word_loop (hb : Bs b) (s : ByteArray) (kd : Int) (hs : s.size ≤ 1000) : ∀ (ws : List Int) (i p : Nat), i + ws.length = s.size → (∀ j (h : j < ws.length), bt s ((i + j : Nat) : Int) = ws[j]) → p ≤ b.length →
  (match Js.word b ws p with
   | .ok _ q => Ev (fun k => rR_word.l0 k s kd i b p d 0 B) (kd, (⟨#[]⟩ : ByteArray), [], [], (q : Int), d, 0, B)
   | .no _ _ => ∃ a e B', e ≠ 0 ∧ Ev (fun k => rR_word.l0 k s kd i b p d 0 B) (kd, (⟨#[]⟩ : ByteArray), [], [], a, d, e, B'))
 | [], i, p, h, hw, hp => by
  show Ev _ _
  refine Ev.step (fun k => rfl) ?_
  exact evF (by simp at h; omega) (Ev.now _)
 | w :: r, i, p, h, hw, hp => by
  have hr := bt_range s (i : Int)
  have h0 : bt s (i : Int) = w := hw 0 (by simp)
  simp only [List.length_cons] at h
  have e0 : wrap64 (bt s (i : Int)) = w := by rw [w64 (by omega) (by omega), h0]
  have stepE : ∀ {o : Int × ByteArray × List ByteArray × List S44 × Int × Int × Int × Int} {t : Int × Int × Int × Int}, Ev (fun k => rR_must.f k b p d 0 B w) t → Ev (fun k => rR_word.l0 k s kd ((i + 1 : Nat) : Int) b t.1 t.2.1 t.2.2.1 t.2.2.2) o → Ev (fun k => rR_word.l0 k s kd i b p d 0 B) o := by
   intro o t h1 h2
   refine Ev.step (fun k => rfl) ?_
   refine evT (by omega) (evT (by omega) ?_)
   rw [e0, w64n (by omega)]
   exact Ev.bind h1 h2
  simp only [Js.word]
  cases hn : b[p]? with
  | none => exact ⟨_, _, _, n11, stepE (must_end hn) (word_bad s kd (s.size - (i + 1)) (i + 1) (by omega) n11 hs)⟩
  | some x =>
   simp only
   by_cases hx : x = w
   ·subst hx
    rw [if_pos (by simp)]
    have ih := word_loop hb s kd hs r (i + 1) (p + 1) (by omega) (fun j hj => by have := hw (j + 1) (by simpa using hj); simpa [Nat.add_assoc, Nat.add_comm 1 j] using this) (by have := lt_of hn; omega)
    cases ho : Js.word b r (p + 1) with
    | ok u q => rw [ho] at ih; exact stepE (must_ok hb hn) ih
    | no y e => rw [ho] at ih; obtain ⟨a, e, B', he, h⟩ := ih; exact ⟨a, e, B', he, stepE (must_ok hb hn) h⟩
   ·rw [if_neg (by simpa using hx)]
    exact ⟨_, _, _, n6, stepE (must_no hb hn hx) (word_bad s kd (s.size - (i + 1)) (i + 1) (by omega) n6 hs)⟩
def dv (c : Int) : Int := match Js.hexDigit c with
 | some x => x
 | none => -1
theorem dv_spec (c : Int) : dv c = if 48 ≤ c ∧ c ≤ 57 then c - 48 else if 97 ≤ c ∧ c ≤ 102 then c - 87 else if 65 ≤ c ∧ c ≤ 70 then c - 55 else -1 := by
 unfold dv Js.hexDigit
 by_cases h1 : 48 ≤ c ∧ c ≤ 57
 ·rw [if_pos h1, if_pos h1]
 rw [if_neg h1, if_neg h1]
 by_cases h2 : 97 ≤ c ∧ c ≤ 102
 ·rw [if_pos h2, if_pos h2]
 rw [if_neg h2, if_neg h2]
 by_cases h3 : 65 ≤ c ∧ c ≤ 70
 ·rw [if_pos h3, if_pos h3]
 ·rw [if_neg h3, if_neg h3]
theorem hex_chain {c n i a e : Int} (hc : -1 ≤ c ∧ c ≤ 255) {r : Int × Int × Int × Int × Int} (h : Ev (fun k => rR_hex.j6 k n i (dv c) b a d e B) r) :
  Ev (fun k => if c ≥ 48 then rR_hex.j1 k n i c (-1) (decide (c ≤ 57)) b a d e B else rR_hex.j1 k n i c (-1) false b a d e B) r := by
 have s4 : ∀ x6 : Int, (if 65 ≤ c ∧ c ≤ 70 then c - 55 else x6) = dv c → Ev (fun k => rR_hex.j4 k n i c x6 b a d e B) r := by
  intro x6 hx
  by_cases h1 : c ≥ 65
  ·by_cases h2 : c ≤ 70
   ·rw [if_pos ⟨h1, h2⟩] at hx
    refine Ev.step (fun k => rfl) (evT h1 ?_)
    refine Ev.step (fun k => rfl) (evT (decide_eq_true h2) ?_)
    rw [show wrap64 (wrap64 (c - 65) + 10) = dv c from by rw [← hx]; unfold wrap64; omega]
    exact h
   ·rw [if_neg (fun z => h2 z.2)] at hx
    subst hx
    refine Ev.step (fun k => rfl) (evT h1 ?_)
    exact Ev.step (fun k => rfl) (evF (by simpa using h2) h)
  ·rw [if_neg (fun z => h1 z.1)] at hx
   subst hx
   refine Ev.step (fun k => rfl) (evF h1 ?_)
   exact Ev.step (f := fun k => rR_hex.j6 k n i (dv c) b a d e B) (fun k => rfl) h
 have s2 : ∀ x6 : Int, (if 97 ≤ c ∧ c ≤ 102 then c - 87 else if 65 ≤ c ∧ c ≤ 70 then c - 55 else x6) = dv c → Ev (fun k => rR_hex.j2 k n i c x6 b a d e B) r := by
  intro x6 hx
  by_cases h1 : c ≥ 97
  ·by_cases h2 : c ≤ 102
   ·rw [if_pos ⟨h1, h2⟩] at hx
    refine Ev.step (fun k => rfl) (evT h1 ?_)
    refine Ev.step (fun k => rfl) (evT (decide_eq_true h2) ?_)
    exact s4 _ (by rw [if_neg (by omega), ← hx]; unfold wrap64; omega)
   ·rw [if_neg (fun z => h2 z.2)] at hx
    refine Ev.step (fun k => rfl) (evT h1 ?_)
    exact Ev.step (fun k => rfl) (evF (by simpa using h2) (s4 _ hx))
  ·rw [if_neg (fun z => h1 z.1)] at hx
   refine Ev.step (fun k => rfl) (evF h1 ?_)
   exact Ev.step (f := fun k => rR_hex.j4 k n i c x6 b a d e B) (fun k => rfl) (s4 _ hx)
 by_cases h1 : c ≥ 48
 ·refine evT h1 ?_
  by_cases h2 : c ≤ 57
  ·refine Ev.step (fun k => rfl) (evT (decide_eq_true h2) ?_)
   refine s2 _ ?_
   rw [dv_spec, if_pos (show 48 ≤ c ∧ c ≤ 57 from ⟨h1, h2⟩), if_neg (show ¬ (97 ≤ c ∧ c ≤ 102) from by omega), if_neg (show ¬ (65 ≤ c ∧ c ≤ 70) from by omega)]
   unfold wrap64; omega
  ·refine Ev.step (fun k => rfl) (evF (by simpa using h2) ?_)
   refine s2 _ ?_
   rw [dv_spec, if_neg (show ¬ (48 ≤ c ∧ c ≤ 57) from fun z => h2 z.2)]
 ·refine evF h1 ?_
  refine Ev.step (f := fun k => rR_hex.j2 k n i c (-1) b a d e B) (fun k => rfl) (s2 _ ?_)
  rw [dv_spec, if_neg (show ¬ (48 ≤ c ∧ c ≤ 57) from fun z => h1 z.1)]
theorem hex_loop (hb : Bs b) : ∀ (j : Nat) (i : Nat) (n : Int) (p : Nat), i + j = 4 → 0 ≤ n → n < 16 ^ i → p ≤ b.length →
    (match Js.hexTo b j n p with
      | .ok v q => Ev (fun k => rR_hex.l0 k n i b p d 0 B) (v, (q : Int), d, 0, B) ∧ 0 ≤ v ∧ v ≤ 65535
      | .no _ _ => ∃ a e B', e ≠ 0 ∧ Ev (fun k => rR_hex.l0 k n i b p d 0 B) (0, a, d, e, B'))
  | 0, i, n, p, h, h0, h1, hp => by
    obtain rfl : i = 4 := by omega
    refine ⟨?_, h0, by have : (16 : Int) ^ 4 = 65536 := by decide
                       omega⟩
    exact Ev.step (f := fun k => some (n, (p : Int), d, 0, B)) (fun k => rfl) (Ev.now _)
  | j + 1, i, n, p, h, h0, h1, hp => by
    have hl := hb.2
    have hp16 : (16 : Int) ^ i ≤ 4096 := by
      have h3 : i ≤ 3 := by omega
      have : i = 0 ∨ i = 1 ∨ i = 2 ∨ i = 3 := by omega
      rcases this with rfl | rfl | rfl | rfl <;> decide
    simp only [Js.hexTo]
    cases hn : b[p]? with
    | none =>
      refine ⟨(p : Int), 11, (b.length : Int), n11, ?_⟩
      refine Ev.step (fun k => rfl) (evT (by omega) ?_)
      refine evB (peek_end hn) ?_
      refine hex_chain (c := -1) ⟨by decide, by decide⟩ ?_
      refine Ev.step (f := fun k => rR_hex.j7 k n i (dv (-1)) false b p d 11 (b.length : Int)) (fun k => rfl) ?_
      exact Ev.step (f := fun k => some (0, (p : Int), d, 11, (b.length : Int))) (fun k => rfl) (Ev.now _)
    | some c =>
      have hc := byte_of hb hn
      have hpl := lt_of hn
      simp only
      cases hd : Js.hexDigit c with
      | none =>
        have e : dv c = -1 := by unfold dv; rw [hd]
        refine ⟨(p : Int), 6, (p : Int), n6, ?_⟩
        refine Ev.step (fun k => rfl) (evT (by omega) ?_)
        refine evB (peek_ok hb hn) ?_
        refine hex_chain (by omega) ?_
        rw [e]
        refine Ev.step (f := fun k => rR_hex.j7 k n i (-1) true b p d 0 B) (fun k => rfl) ?_
        refine Ev.step (f := fun k => (rR_fail.f b p d 0 B 6 p).bind fun t => if t.2.2.1 = 0 then rR_hex.l0 k (wrap64 (wrap64 (n * 16) + -1)) (wrap64 ((i : Int) + 1)) b (wrap64 (t.1 + 1)) t.2.1 t.2.2.1 t.2.2.2 else some (0, t.1, t.2.1, t.2.2.1, t.2.2.2)) (fun k => rfl) ?_
        exact evB (fail_0 _ _ _) (evF n6 (Ev.now _))
      | some x =>
        have e : dv c = x := by unfold dv; rw [hd]
        have hx : 0 ≤ x ∧ x ≤ 15 := by
          unfold Js.hexDigit at hd
          split at hd
          · cases hd; omega
          split at hd
          · cases hd; omega
          split at hd
          · cases hd; omega
          · cases hd
        have goes : ∀ r, Ev (fun k => rR_hex.l0 k (n * 16 + x) ((i + 1 : Nat) : Int) b ((p + 1 : Nat) : Int) d 0 B) r → Ev (fun k => rR_hex.l0 k n i b p d 0 B) r := by
          intro r hr
          refine Ev.step (fun k => rfl) (evT (by omega) ?_)
          refine evB (peek_ok hb hn) ?_
          refine hex_chain (by omega) ?_
          rw [e]
          refine Ev.step (f := fun k => rR_hex.j7 k n i x (decide (x < 0)) b p d 0 B) (fun k => rfl) ?_
          rw [decide_eq_false (by omega : ¬ x < 0)]
          refine Ev.step (f := fun k => rR_hex.l0 k (wrap64 (wrap64 (n * 16) + x)) (wrap64 ((i : Int) + 1)) b (wrap64 ((p : Int) + 1)) d 0 B) (fun k => rfl) ?_
          rw [w64 (z := n * 16) (by omega) (by omega), w64 (z := n * 16 + x) (by omega) (by omega), w64n (by omega), w64n (by omega)]
          exact hr
        have ih := hex_loop hb j (i + 1) (n * 16 + x) (p + 1) (by omega) (by omega) (by rw [Int.pow_succ]; omega) (by omega)
        simp only
        cases ho : Js.hexTo b j (n * 16 + x) (p + 1) with
        | ok v q => rw [ho] at ih; exact ⟨goes _ ih.1, ih.2⟩
        | no y z => rw [ho] at ih; obtain ⟨a, e, B', he, h⟩ := ih; exact ⟨a, e, B', he, goes _ h⟩
theorem hex_ends (hb : Bs b) (hp : p ≤ b.length) : (match Js.hex b p with
      | .ok v q => Ev (fun k => rR_hex.f k b p d 0 B) (v, (q : Int), d, 0, B) ∧ 0 ≤ v ∧ v ≤ 65535
      | .no _ _ => ∃ a e B', e ≠ 0 ∧ Ev (fun k => rR_hex.f k b p d 0 B) (0, a, d, e, B')) := hex_loop hb 4 0 0 p rfl (by decide) (by decide) hp
theorem enc_ok {n : Int} {l : List Int} (h : Js.encode n = some l) : Ev (fun k => r3_Encode.f k n) (l, 0) := by
 unfold Js.encode at h
 split at h
 ·cases h
 rename_i h0
 have go : ∀ r, Ev (fun k => r3_Encode.j0 k n false) r → Ev (fun k => r3_Encode.f k n) r := by
  intro r hr
  unfold r3_Encode.f
  refine evF (by omega) (evF (by omega) ?_)
  by_cases h1 : n ≥ 55296
  ·refine evT h1 ?_
   rw [decide_eq_false (by omega : ¬ n ≤ 57343)]
   exact hr
  ·exact evF h1 hr
 refine go _ ?_
 have d1 : ∀ m : Int, 0 ≤ n → Int.tdiv n m = n / m := fun m hn => Int.tdiv_eq_ediv_of_nonneg hn
 have d2 : ∀ x m : Int, 0 ≤ x → Int.tmod x m = x % m := fun x m hx => Int.tmod_eq_emod_of_nonneg hx
 have hn : 0 ≤ n := by omega
 refine Ev.step (f := fun k => if n < 128 then (some ((([(n) % 256] : List Int)), 0)) else (if n < 2048 then (some ((([(wrap64 (192 + (wrap64 (Int.tdiv n 64)))) % 256, (wrap64 (128 + (Int.tmod n 64))) % 256] : List Int)), 0)) else (if n < 65536 then (some ((([(wrap64 (224 + (wrap64 (Int.tdiv n 4096)))) % 256, (wrap64 (128 + (Int.tmod (wrap64 (Int.tdiv n 64)) 64))) % 256, (wrap64 (128 + (Int.tmod n 64))) % 256] : List Int)), 0)) else (some ((([(wrap64 (240 + (wrap64 (Int.tdiv n 262144)))) % 256, (wrap64 (128 + (Int.tmod (wrap64 (Int.tdiv n 4096)) 64))) % 256, (wrap64 (128 + (Int.tmod (wrap64 (Int.tdiv n 64)) 64))) % 256, (wrap64 (128 + (Int.tmod n 64))) % 256] : List Int)), 0))))) (fun k => rfl) ?_
 have w1 : wrap64 (n / 64) = n / 64 := w64 (by omega) (by omega)
 have w2 : wrap64 (n / 4096) = n / 4096 := w64 (by omega) (by omega)
 have w3 : wrap64 (n / 262144) = n / 262144 := w64 (by omega) (by omega)
 rw [d1 64 hn, d1 4096 hn, d1 262144 hn, w1, w2, w3, d2 n 64 hn, d2 (n / 64) 64 (by omega), d2 (n / 4096) 64 (by omega)]
 by_cases h1 : n < 128
 ·rw [if_pos h1] at h
  cases h
  refine evT h1 (evC ?_)
  rw [Int.emod_eq_of_lt hn (by omega)]
 rw [if_neg h1] at h
 refine evF h1 ?_
 have a2 : wrap64 (128 + n % 64) % 256 = 128 + n % 64 := by unfold wrap64; omega
 by_cases h2 : n < 2048
 ·rw [if_pos h2] at h
  cases h
  refine evT h2 (evC ?_)
  rw [a2, show wrap64 (192 + n / 64) % 256 = 192 + n / 64 from by unfold wrap64; omega]
 rw [if_neg h2] at h
 refine evF h2 ?_
 have a3 : wrap64 (128 + n / 64 % 64) % 256 = 128 + n / 64 % 64 := by unfold wrap64; omega
 by_cases h3 : n < 65536
 ·rw [if_pos h3] at h
  cases h
  refine evT h3 (evC ?_)
  rw [a2, a3, show wrap64 (224 + n / 4096) % 256 = 224 + n / 4096 from by unfold wrap64; omega]
 rw [if_neg h3] at h
 cases h
 refine evF h3 (evC ?_)
 rw [a2, a3, show wrap64 (128 + n / 4096 % 64) % 256 = 128 + n / 4096 % 64 from by unfold wrap64; omega, show wrap64 (240 + n / 262144) % 256 = 240 + n / 262144 from by unfold wrap64; omega]
theorem enc_no {n : Int} (h : Js.encode n = none) : Ev (fun k => r3_Encode.f k n) ([], 10) := by
 unfold Js.encode at h
 have h0 : n < 0 ∨ n > 0x10FFFF ∨ (0xD800 ≤ n ∧ n ≤ 0xDFFF) := by
  split at h
  ·assumption
  ·repeat (split at h; · cases h)
   cases h
 have go : Ev (fun k => r3_Encode.j0 k n true) ([], 10) := Ev.step (f := fun k => some ([], 10)) (fun k => rfl) (Ev.now _)
 unfold r3_Encode.f
 by_cases h1 : n < 0
 ·exact evT h1 go
 refine evF h1 ?_
 by_cases h2 : n > 1114111
 ·exact evT h2 go
 refine evF h2 (evT (by omega) ?_)
 rw [decide_eq_true (by omega : n ≤ 57343)]
 exact go
end Go.Proofs.YteighppcdpaekaaDoor.Rf
end
section
namespace Go.Proofs.YteighppcdpaekaaDoor.Rf
open Go.RowKit Go.Proofs.YteighppcdpaekaaDoorW.PrintWords Go.Proofs.YteighppcdpaekaaDoor Go.Proofs.YteighppcdpaekaaDoor.P
variable {b : List Int} {p : Nat} {d B : Int}
def sec (b : List Int) (n : Int) (q : Nat) : Option (Int × Nat) :=
 if Js.next b q 92 then
  match b[q + 1]? with
  | none => none
  | some c => if c == 117 then
    match Js.hex b (q + 2) with
    | .no _ _ => none
    | .ok low q => if low < 0xDC00 ∨ low > 0xDFFF then none else some (0x10000 + (n - 0xD800) * 1024 + low - 0xDC00, q)
   else none
 else none
def uni (b : List Int) (n : Int) (q : Nat) : Option (Int × Nat) := if 0xD800 ≤ n ∧ n ≤ 0xDBFF then sec b n q else some (n, q)
theorem second_1 {q : Nat} {n from_ : Int} (hq : q + 1 ≤ 1000000) {r : Int × Int × Int × Int × Int} (hr : Ev (fun k => (rR_hex.f k b ((q + 1 + 1 : Nat) : Int) d 0 B).bind fun t => (if t.2.2.2.1 = 0 then (if t.1 < 56320 then ((rR_fail.f b t.2.1 t.2.2.1 t.2.2.2.1 t.2.2.2.2 6 from_).bind fun u => (some (wrap64 ((wrap64 ((wrap64 (65536 + (wrap64 ((wrap64 (n - 55296)) * 1024)))) + t.1)) - 56320), u.1, u.2.1, u.2.2.1, u.2.2.2))) else (if t.1 > 57343 then ((rR_fail.f b t.2.1 t.2.2.1 t.2.2.2.1 t.2.2.2.2 6 from_).bind fun u => (some (wrap64 ((wrap64 ((wrap64 (65536 + (wrap64 ((wrap64 (n - 55296)) * 1024)))) + t.1)) - 56320), u.1, u.2.1, u.2.2.1, u.2.2.2))) else (some (wrap64 ((wrap64 ((wrap64 (65536 + (wrap64 ((wrap64 (n - 55296)) * 1024)))) + t.1)) - 56320), t.2.1, t.2.2.1, t.2.2.2.1, t.2.2.2.2)))) else (some (wrap64 ((wrap64 ((wrap64 (65536 + (wrap64 ((wrap64 (n - 55296)) * 1024)))) + t.1)) - 56320), t.2.1, t.2.2.1, t.2.2.2.1, t.2.2.2.2)))) r) : Ev (fun k => rR_second.j1 k from_ n b ((q + 1 : Nat) : Int) d 0 B) r := by
 refine Ev.step (fun k => ?_) hr
 rw [rR_second.j1, if_pos rfl, w64n hq]
theorem second_some (hb : Bs b) {q q' : Nat} {n v from_ : Int} (hn : 0xD800 ≤ n ∧ n ≤ 0xDBFF) (h : sec b n q = some (v, q')) : Ev (fun k => rR_second.f k b q d 0 B from_ n) (v, (q' : Int), d, 0, B) := by
 have hl := hb.2
 unfold sec at h
 split at h
 ·rename_i hx
  have hx' : b[q]? = some 92 := by simpa [Js.next] using hx
  have := lt_of hx'
  cases hy : b[q + 1]? with
  | none => rw [hy] at h; cases h
  | some c =>
   rw [hy] at h
   simp only at h
   split at h
   ·rename_i hc
    obtain rfl : c = 117 := by simpa using hc
    have := lt_of hy
    have hh := hex_ends (d := d) (B := B) hb (p := q + 2) (by omega)
    cases ho : Js.hex b (q + 2) with
    | no x e => rw [ho] at h; cases h
    | ok low q2 =>
     rw [ho] at h hh
     simp only at h hh
     split at h
     ·cases h
     ·rename_i hlo
      cases h
      unfold rR_second.f
      refine evB (see_ok hb hx') ?_
      refine evT rfl ?_
      show Ev (fun k => (rR_peek.f b (wrap64 ((q : Int) + 1)) d 0 B).bind _) _
      rw [w64n (by omega)]
      refine evB (peek_ok hb hy) ?_
      refine evT rfl ?_
      refine Ev.step (f := fun k => rR_second.j1 k from_ n b ((q + 1 : Nat) : Int) d 0 B) (fun k => rfl) ?_
      refine second_1 (by omega) ?_
      refine Ev.bind hh.1 ?_
      refine evT rfl (evF (by show ¬ (low < 56320); omega) (evF (by show ¬ (low > 57343); omega) (evC ?_)))
      have e : wrap64 (wrap64 (wrap64 (65536 + wrap64 (wrap64 (n - 55296) * 1024)) + low) - 56320) = 0x10000 + (n - 0xD800) * 1024 + low - 0xDC00 := by
       have := hh.2
       rw [w64 (z := n - 55296) (by omega) (by omega), w64 (z := (n - 55296) * 1024) (by omega) (by omega), w64 (z := 65536 + (n - 55296) * 1024) (by omega) (by omega), w64 (z := 65536 + (n - 55296) * 1024 + low) (by omega) (by omega), w64 (by omega) (by omega)]
      exact congrArg some (Prod.ext e rfl)
   ·cases h
 ·cases h
theorem second_none (hb : Bs b) {q : Nat} {n from_ : Int} (h : sec b n q = none) : ∃ u a e B', e ≠ 0 ∧ Ev (fun k => rR_second.f k b q d 0 B from_ n) (u, a, d, e, B') := by
 have hl := hb.2
 unfold rR_second.f
 unfold sec at h
 by_cases hx : Js.next b q 92 = true
 ·rw [if_pos hx] at h
  have hx' : b[q]? = some 92 := by simpa [Js.next] using hx
  have := lt_of hx'
  have go : ∀ {r}, Ev (fun k => (rR_peek.f b ((q + 1 : Nat) : Int) d 0 B).bind fun t => if t.2.2.2.1 = 0 then rR_second.j0 k from_ n (t.1 != 117) b t.2.1 t.2.2.1 t.2.2.2.1 t.2.2.2.2 else rR_second.j0 k from_ n false b t.2.1 t.2.2.1 t.2.2.2.1 t.2.2.2.2) r → Ev (fun k => (rR_see.f b q d 0 B).bind fun t => if t.1 = 92 then (rR_peek.f b (wrap64 (t.2.1 + 1)) t.2.2.1 t.2.2.2.1 t.2.2.2.2).bind fun t => if t.2.2.2.1 = 0 then rR_second.j0 k from_ n (t.1 != 117) b t.2.1 t.2.2.1 t.2.2.2.1 t.2.2.2.2 else rR_second.j0 k from_ n false b t.2.1 t.2.2.1 t.2.2.2.1 t.2.2.2.2 else (rR_fail.f b t.2.1 t.2.2.1 t.2.2.2.1 t.2.2.2.2 6 from_).bind fun u => some (0, u.1, u.2.1, u.2.2.1, u.2.2.2)) r := by
   intro r hr
   refine evB (see_ok hb hx') ?_
   refine evT rfl ?_
   show Ev (fun k => (rR_peek.f b (wrap64 ((q : Int) + 1)) d 0 B).bind _) _
   rw [w64n (by omega)]
   exact hr
  cases hy : b[q + 1]? with
  | none =>
   refine ⟨0, ((q + 1 : Nat) : Int), 11, (b.length : Int), n11, go (evB (peek_end hy) ?_)⟩
   refine Ev.step (f := fun k => rR_second.j1 k from_ n b ((q + 1 : Nat) : Int) d 11 (b.length : Int)) (fun k => rfl) ?_
   exact Ev.step (f := fun k => some (0, ((q + 1 : Nat) : Int), d, 11, (b.length : Int))) (fun k => rfl) (Ev.now _)
  | some c =>
   rw [hy] at h
   simp only at h
   have := lt_of hy
   by_cases hc : c = 117
   ·subst hc
    rw [if_pos (by simp)] at h
    have hh := hex_ends (d := d) (B := B) hb (p := q + 2) (by omega)
    have go2 : ∀ {r}, Ev (fun k => (rR_hex.f k b ((q + 1 + 1 : Nat) : Int) d 0 B).bind fun t => (if t.2.2.2.1 = 0 then (if t.1 < 56320 then ((rR_fail.f b t.2.1 t.2.2.1 t.2.2.2.1 t.2.2.2.2 6 from_).bind fun u => (some (wrap64 ((wrap64 ((wrap64 (65536 + (wrap64 ((wrap64 (n - 55296)) * 1024)))) + t.1)) - 56320), u.1, u.2.1, u.2.2.1, u.2.2.2))) else (if t.1 > 57343 then ((rR_fail.f b t.2.1 t.2.2.1 t.2.2.2.1 t.2.2.2.2 6 from_).bind fun u => (some (wrap64 ((wrap64 ((wrap64 (65536 + (wrap64 ((wrap64 (n - 55296)) * 1024)))) + t.1)) - 56320), u.1, u.2.1, u.2.2.1, u.2.2.2))) else (some (wrap64 ((wrap64 ((wrap64 (65536 + (wrap64 ((wrap64 (n - 55296)) * 1024)))) + t.1)) - 56320), t.2.1, t.2.2.1, t.2.2.2.1, t.2.2.2.2)))) else (some (wrap64 ((wrap64 ((wrap64 (65536 + (wrap64 ((wrap64 (n - 55296)) * 1024)))) + t.1)) - 56320), t.2.1, t.2.2.1, t.2.2.2.1, t.2.2.2.2)))) r → Ev (fun k => (rR_peek.f b ((q + 1 : Nat) : Int) d 0 B).bind fun t => if t.2.2.2.1 = 0 then rR_second.j0 k from_ n (t.1 != 117) b t.2.1 t.2.2.1 t.2.2.2.1 t.2.2.2.2 else rR_second.j0 k from_ n false b t.2.1 t.2.2.1 t.2.2.2.1 t.2.2.2.2) r := by
     intro r hr
     refine evB (peek_ok hb hy) ?_
     refine evT rfl ?_
     refine Ev.step (f := fun k => rR_second.j1 k from_ n b ((q + 1 : Nat) : Int) d 0 B) (fun k => rfl) ?_
     exact second_1 (by omega) hr
    cases ho : Js.hex b (q + 2) with
    | no x e =>
     rw [ho] at hh
     obtain ⟨a, e, B', he, hh⟩ := hh
     exact ⟨_, a, e, B', he, go (go2 (Ev.bind hh (evF he (Ev.now _))))⟩
    | ok low q2 =>
     rw [ho] at h hh
     simp only at h hh
     have hlo : low < 0xDC00 ∨ low > 0xDFFF := by
      by_cases hz : low < 0xDC00 ∨ low > 0xDFFF
      ·exact hz
      ·rw [if_neg hz] at h; cases h
     refine ⟨wrap64 ((wrap64 ((wrap64 (65536 + (wrap64 ((wrap64 (n - 55296)) * 1024)))) + low)) - 56320), (q2 : Int), 6, from_, n6, go (go2 (Ev.bind hh.1 (evT rfl ?_)))⟩
     by_cases hz : low < 56320
     ·exact evT hz (evB (fail_0 _ _ _) (Ev.now _))
     ·exact evF hz (evT (by show low > 57343; omega) (evB (fail_0 _ _ _) (Ev.now _)))
   ·refine ⟨0, ((q + 1 : Nat) : Int), 6, from_, n6, go (evB (peek_ok hb hy) (evT rfl ?_))⟩
    show Ev (fun k => rR_second.j0 k from_ n (c != 117) b ((q + 1 : Nat) : Int) d 0 B) _
    rw [show (c != 117) = true by simpa using hc]
    refine Ev.step (f := fun k => (rR_fail.f b ((q + 1 : Nat) : Int) d 0 B 6 from_).bind fun t => rR_second.j1 k from_ n b t.1 t.2.1 t.2.2.1 t.2.2.2) (fun k => rfl) ?_
    refine evB (fail_0 _ _ _) ?_
    exact Ev.step (f := fun k => some (0, ((q + 1 : Nat) : Int), d, 6, from_)) (fun k => rfl) (Ev.now _)
 ·refine ⟨0, (q : Int), 6, from_, n6, ?_⟩
  cases hy : b[q]? with
  | none => exact evB (see_end hy) (evF (by show ¬ ((-1 : Int) = 92); decide) (evB (fail_0 _ _ _) (Ev.now _)))
  | some c => exact evB (see_ok hb hy) (evF (by show ¬ (c = 92); intro e; exact hx (by simp [Js.next, hy, e])) (evB (fail_0 _ _ _) (Ev.now _)))
theorem esc_2 (from_ v : Int) (q : Nat) : (match Js.encode v with
  | some l => Ev (fun k => rR_escape.j2 k from_ v b q d 0 B) (l, (q : Int), d, 0, B)
  | none => ∃ a e B', e ≠ 0 ∧ Ev (fun k => rR_escape.j2 k from_ v b q d 0 B) ([], a, d, e, B')) := by
 have go : ∀ {r}, Ev (fun k => (r3_Encode.f k v).bind fun t => if t.2 = 0 then some (t.1, (q : Int), d, 0, B) else (rR_fail.f b q d 0 B 6 from_).bind fun u => some (t.1, u.1, u.2.1, u.2.2.1, u.2.2.2)) r → Ev (fun k => rR_escape.j2 k from_ v b q d 0 B) r := by
  intro r hr
  refine Ev.step (fun k => ?_) hr
  rw [rR_escape.j2, if_pos rfl]
 cases h : Js.encode v with
 | some l => exact go (Ev.bind (enc_ok h) (evT rfl (Ev.now _)))
 | none => exact ⟨(q : Int), 6, from_, n6, go (Ev.bind (enc_no h) (evF n10 (evB (fail_0 _ _ _) (Ev.now _))))⟩
theorem esc_2bad {from_ v a e : Int} (he : e ≠ 0) : Ev (fun k => rR_escape.j2 k from_ v b a d e B) ([], a, d, e, B) := by
 refine Ev.step (fun k => rfl) (evF he (Ev.now _))
def unio (b : List Int) (p : Nat) : Option (List Int × Nat) := match Js.hex b p with
 | .no _ _ => none
 | .ok n q => (uni b n q).bind fun v => (Js.encode v.1).map fun l => (l, v.2)
theorem unio_eq (b : List Int) (p : Nat) : unio b p = (match Js.unit b p with
  | .ok l q => some (l, q)
  | .no _ _ => none) := by
 unfold unio Js.unit
 cases Js.hex b p with
 | no x e => rfl
 | ok n q =>
  simp only [uni]
  by_cases h1 : 0xD800 ≤ n ∧ n ≤ 0xDBFF
  ·rw [if_pos h1, if_pos h1]
   unfold sec
   by_cases h2 : Js.next b q 92 = true
   ·rw [if_pos h2, if_pos h2]
    cases b[q + 1]? with
    | none => rfl
    | some c =>
     simp only
     by_cases h3 : (c == 117) = true
     ·rw [if_pos h3, if_pos h3]
      cases Js.hex b (q + 2) with
      | no x e => rfl
      | ok low q2 =>
       simp only
       by_cases h4 : low < 0xDC00 ∨ low > 0xDFFF
       ·rw [if_pos h4, if_pos h4]; rfl
       ·rw [if_neg h4, if_neg h4]
        simp only [Option.bind_some]
        cases Js.encode (0x10000 + (n - 0xD800) * 1024 + low - 0xDC00) <;> rfl
     ·rw [if_neg h3, if_neg h3]; rfl
   ·rw [if_neg h2, if_neg h2]; rfl
  ·rw [if_neg h1, if_neg h1]
   simp only [Option.bind_some]
   cases Js.encode n <;> rfl
theorem esc_u (hb : Bs b) (from_ : Int) (hp : p ≤ b.length) : (match unio b p with
  | some (l, q) => Ev (fun k => (rR_hex.f k b p d 0 B).bind fun t => if t.2.2.2.1 = 0 then (if t.1 ≥ 55296 then rR_escape.j1 k from_ t.1 (decide (t.1 ≤ 56319)) b t.2.1 t.2.2.1 t.2.2.2.1 t.2.2.2.2 else rR_escape.j1 k from_ t.1 false b t.2.1 t.2.2.1 t.2.2.2.1 t.2.2.2.2) else rR_escape.j1 k from_ t.1 false b t.2.1 t.2.2.1 t.2.2.2.1 t.2.2.2.2) (l, (q : Int), d, 0, B)
  | none => ∃ a e B', e ≠ 0 ∧ Ev (fun k => (rR_hex.f k b p d 0 B).bind fun t => if t.2.2.2.1 = 0 then (if t.1 ≥ 55296 then rR_escape.j1 k from_ t.1 (decide (t.1 ≤ 56319)) b t.2.1 t.2.2.1 t.2.2.2.1 t.2.2.2.2 else rR_escape.j1 k from_ t.1 false b t.2.1 t.2.2.1 t.2.2.2.1 t.2.2.2.2) else rR_escape.j1 k from_ t.1 false b t.2.1 t.2.2.1 t.2.2.2.1 t.2.2.2.2) ([], a, d, e, B')) := by
 have hh := hex_ends (d := d) (B := B) hb hp
 unfold unio
 cases ho : Js.hex b p with
 | no x e =>
  rw [ho] at hh
  obtain ⟨a, e, B', he, hh⟩ := hh
  exact ⟨a, e, B', he, Ev.bind hh (evF he (Ev.step (f := fun k => rR_escape.j2 k from_ 0 b a d e B') (fun k => rfl) (esc_2bad he)))⟩
 | ok n q =>
  rw [ho] at hh
  simp only at hh ⊢
  have low : ∀ {r}, ¬ (0xD800 ≤ n ∧ n ≤ 0xDBFF) → Ev (fun k => rR_escape.j2 k from_ n b q d 0 B) r → Ev (fun k => if n ≥ 55296 then rR_escape.j1 k from_ n (decide (n ≤ 56319)) b q d 0 B else rR_escape.j1 k from_ n false b q d 0 B) r := by
   intro r hn hr
   have h1 : Ev (fun k => rR_escape.j1 k from_ n false b q d 0 B) r := Ev.step (f := fun k => rR_escape.j2 k from_ n b q d 0 B) (fun k => rfl) hr
   by_cases h : n ≥ 55296
   ·refine evT h ?_
    rw [decide_eq_false (by omega : ¬ n ≤ 56319)]
    exact h1
   ·exact evF h h1
  have high : ∀ {r}, (0xD800 ≤ n ∧ n ≤ 0xDBFF) → Ev (fun k => (rR_second.f k b q d 0 B from_ n).bind fun t => rR_escape.j2 k from_ t.1 b t.2.1 t.2.2.1 t.2.2.2.1 t.2.2.2.2) r → Ev (fun k => if n ≥ 55296 then rR_escape.j1 k from_ n (decide (n ≤ 56319)) b q d 0 B else rR_escape.j1 k from_ n false b q d 0 B) r := by
   intro r hn hr
   refine evT hn.1 ?_
   rw [decide_eq_true hn.2]
   exact Ev.step (fun k => rfl) hr
  unfold uni
  by_cases hn : 0xD800 ≤ n ∧ n ≤ 0xDBFF
  ·rw [if_pos hn]
   cases hs : sec b n q with
   | none =>
    obtain ⟨u, a, e, B', he, h2⟩ := second_none (d := d) (B := B) (from_ := from_) hb hs
    exact ⟨a, e, B', he, Ev.bind hh.1 (evT rfl (high hn (Ev.bind h2 (esc_2bad he))))⟩
   | some vq =>
    obtain ⟨v, q'⟩ := vq
    have h2 := second_some (d := d) (B := B) (from_ := from_) hb hn hs
    have h3 := esc_2 (b := b) (d := d) (B := B) from_ v q'
    simp only [Option.bind_some]
    cases he : Js.encode v with
    | none => rw [he] at h3; obtain ⟨a, e, B', hee, h3⟩ := h3; exact ⟨a, e, B', hee, Ev.bind hh.1 (evT rfl (high hn (Ev.bind h2 h3)))⟩
    | some l => rw [he] at h3; exact Ev.bind hh.1 (evT rfl (high hn (Ev.bind h2 h3)))
  ·rw [if_neg hn]
   have h3 := esc_2 (b := b) (d := d) (B := B) from_ n q
   simp only [Option.bind_some]
   cases he : Js.encode n with
   | none => rw [he] at h3; obtain ⟨a, e, B', hee, h3⟩ := h3; exact ⟨a, e, B', hee, Ev.bind hh.1 (evT rfl (low hn h3))⟩
   | some l => rw [he] at h3; exact Ev.bind hh.1 (evT rfl (low hn h3))
end Go.Proofs.YteighppcdpaekaaDoor.Rf
end
section
namespace Go.Proofs.YteighppcdpaekaaDoor.Rf
open Go.RowKit Go.Proofs.YteighppcdpaekaaDoorW.PrintWords Go.Proofs.YteighppcdpaekaaDoor Go.Proofs.YteighppcdpaekaaDoor.P
variable {b : List Int} {p : Nat} {d B : Int}
def NM : ByteArray := ⟨#[34, 92, 47, 98, 102, 110, 114, 116]⟩
def NL : List Int := [34, 92, 47, 98, 102, 110, 114, 116]
def VL : List Int := [34, 92, 47, 8, 12, 10, 13, 9]
theorem NM_at : ∀ i : Nat, (h : i < 8) → bt NM (i : Int) = NL[i]'h := by decide
theorem VL_at : ∀ i : Nat, (h : i < 8) → rd VL (i : Int) = VL[i]'h := by decide
theorem NL_byte : ∀ i : Nat, (h : i < 8) → 0 ≤ NL[i]'h ∧ NL[i]'h ≤ 255 := by decide
def escTail (b : List Int) (from_ c a d B : Int) (k : Nat) : Option (List Int × Int × Int × Int × Int) :=
 if c = 117 then ((rR_hex.f k b (wrap64 (a + 1)) d 0 B).bind fun t => if t.2.2.2.1 = 0 then (if t.1 ≥ 55296 then rR_escape.j1 k from_ t.1 (decide (t.1 ≤ 56319)) b t.2.1 t.2.2.1 t.2.2.2.1 t.2.2.2.2 else rR_escape.j1 k from_ t.1 false b t.2.1 t.2.2.1 t.2.2.2.1 t.2.2.2.2) else rR_escape.j1 k from_ t.1 false b t.2.1 t.2.2.1 t.2.2.2.1 t.2.2.2.2) else ((rR_fail.f b a d 0 B 6 a).bind fun u => some (([] : List Int), u.1, u.2.1, u.2.2.1, u.2.2.2))
theorem esc_loop (from_ c a : Int) : ∀ (j i : Nat), i + j = 8 → (∀ i' : Nat, (h : i' < 8) → i' < i → c ≠ NL[i']'h) →
  (∀ i' : Nat, (h : i' < 8) → i ≤ i' → c = NL[i']'h → Ev (fun k => rR_escape.l0 k from_ c NM VL i b a d 0 B) ([VL[i']'h], wrap64 (a + 1), d, 0, B)) ∧
  ((∀ i' : Nat, (h : i' < 8) → c ≠ NL[i']'h) → ∀ r, Ev (escTail b from_ c a d B) r → Ev (fun k => rR_escape.l0 k from_ c NM VL i b a d 0 B) r)
 | 0, i, h, _ => by
  obtain rfl : i = 8 := by omega
  refine ⟨fun i' h' h2 => absurd h2 (by omega), fun _ r hr => ?_⟩
  exact Ev.step (f := escTail b from_ c a d B) (fun k => rfl) hr
 | j + 1, i, h, hne => by
  have hi : i < 8 := by omega
  have step : ∀ r, (c = NL[i]'hi → r = ([VL[i]'hi], wrap64 (a + 1), d, 0, B)) → (c ≠ NL[i]'hi → Ev (fun k => rR_escape.l0 k from_ c NM VL ((i + 1 : Nat) : Int) b a d 0 B) r) → Ev (fun k => rR_escape.l0 k from_ c NM VL i b a d 0 B) r := by
   intro r h1 h2
   refine Ev.step (fun k => rfl) (evT (by show (i : Int) < 8; omega) (evT (by omega) ?_))
   rw [NM_at i hi, w64 (by have := NL_byte i hi; omega) (by have := NL_byte i hi; omega)]
   by_cases hc : c = NL[i]'hi
   ·refine evT hc (evT (by show (i : Int) < 8; omega) ?_)
    rw [VL_at i hi, h1 hc]
    exact Ev.now _
   ·refine evF hc ?_
    rw [w64n (by omega)]
    exact h2 hc
  have ih : c ≠ NL[i]'hi → _ := fun hc => esc_loop from_ c a j (i + 1) (by omega) (fun i' h' h2 => by
   by_cases e : i' = i
   ·subst e; exact hc
   ·exact hne i' h' (by omega))
  refine ⟨fun i' h' h2 h3 => ?_, fun hall r hr => step r (fun e => absurd e (hall i hi)) (fun hc => (ih hc).2 hall r hr)⟩
  by_cases e : i' = i
  ·subst e; exact step _ (fun _ => rfl) (fun hc => absurd h3 hc)
  ·have hc : c ≠ NL[i]'hi := by
    intro hc
    rw [h3] at hc
    revert hc
    have : ∀ x : Nat, (hx : x < 8) → ∀ y : Nat, (hy : y < 8) → x ≠ y → NL[x]'hx ≠ NL[y]'hy := by decide
    exact this i' h' i hi e
   exact step _ (fun e2 => absurd e2 hc) (fun _ => (ih hc).1 i' h' (by omega) h3)
theorem escape_ends (hb : Bs b) (hp : p < b.length) : (match Js.escape b (p + 1) with
  | .ok l q => Ev (fun k => rR_escape.f k b p d 0 B) (l, (q : Int), d, 0, B)
  | .no _ _ => ∃ a e B', e ≠ 0 ∧ Ev (fun k => rR_escape.f k b p d 0 B) ([], a, d, e, B')) := by
 have hl := hb.2
 unfold rR_escape.f Js.escape
 rw [w64n (by omega)]
 cases hn : b[p + 1]? with
 | none => exact ⟨((p + 1 : Nat) : Int), 11, (b.length : Int), n11, evB (peek_end hn) (evF n11 (Ev.now _))⟩
 | some c =>
  have hlt := lt_of hn
  have hL := esc_loop (b := b) (d := d) (B := B) (p : Int) c ((p + 1 : Nat) : Int) 8 0 rfl (fun _ _ h => absurd h (by omega))
  have go : ∀ {r}, Ev (fun k => rR_escape.l0 k (p : Int) c NM VL ((0 : Nat) : Int) b ((p + 1 : Nat) : Int) d 0 B) r → Ev (fun k => (rR_peek.f b ((p + 1 : Nat) : Int) d 0 B).bind fun t => if t.2.2.2.1 = 0 then rR_escape.l0 k (p : Int) t.1 (⟨#[34, 92, 47, 98, 102, 110, 114, 116]⟩ : ByteArray) ([34, 92, 47, 8, 12, 10, 13, 9] : List Int) 0 b t.2.1 t.2.2.1 t.2.2.2.1 t.2.2.2.2 else some (([] : List Int), t.2.1, t.2.2.1, t.2.2.2.1, t.2.2.2.2)) r := fun hr => evB (peek_ok hb hn) (evT rfl hr)
  have hit : ∀ (i : Nat) (h : i < 8), c = NL[i]'h → Ev (fun k => (rR_peek.f b ((p + 1 : Nat) : Int) d 0 B).bind fun t => if t.2.2.2.1 = 0 then rR_escape.l0 k (p : Int) t.1 (⟨#[34, 92, 47, 98, 102, 110, 114, 116]⟩ : ByteArray) ([34, 92, 47, 8, 12, 10, 13, 9] : List Int) 0 b t.2.1 t.2.2.1 t.2.2.2.1 t.2.2.2.2 else some (([] : List Int), t.2.1, t.2.2.1, t.2.2.2.1, t.2.2.2.2)) ([VL[i]'h], ((p + 1 + 1 : Nat) : Int), d, 0, B) := fun i h e => by
   have := hL.1 i h (by omega) e
   rw [w64n (by omega)] at this
   exact go this
  simp only
  by_cases h1 : (c == 34 || c == 92 || c == 47) = true
  ·rw [if_pos h1]
   have h1' : c = 34 ∨ c = 92 ∨ c = 47 := by simpa [or_assoc] using h1
   rcases h1' with rfl | rfl | rfl
   ·exact hit 0 (by decide) rfl
   ·exact hit 1 (by decide) rfl
   ·exact hit 2 (by decide) rfl
  rw [if_neg h1]
  by_cases h2 : (c == 98) = true
  ·rw [if_pos h2]; exact hit 3 (by decide) (eq_of_beq h2)
  rw [if_neg h2]
  by_cases h3 : (c == 102) = true
  ·rw [if_pos h3]; exact hit 4 (by decide) (eq_of_beq h3)
  rw [if_neg h3]
  by_cases h4 : (c == 110) = true
  ·rw [if_pos h4]; exact hit 5 (by decide) (eq_of_beq h4)
  rw [if_neg h4]
  by_cases h5 : (c == 114) = true
  ·rw [if_pos h5]; exact hit 6 (by decide) (eq_of_beq h5)
  rw [if_neg h5]
  by_cases h6 : (c == 116) = true
  ·rw [if_pos h6]; exact hit 7 (by decide) (eq_of_beq h6)
  rw [if_neg h6]
  have hall : ∀ i' : Nat, (h : i' < 8) → c ≠ NL[i']'h := by
   have h1' : c ≠ 34 ∧ c ≠ 92 ∧ c ≠ 47 := by simpa [and_assoc] using h1
   have h2' : c ≠ 98 := by simpa using h2
   have h3' : c ≠ 102 := by simpa using h3
   have h4' : c ≠ 110 := by simpa using h4
   have h5' : c ≠ 114 := by simpa using h5
   have h6' : c ≠ 116 := by simpa using h6
   intro i h
   have : i = 0 ∨ i = 1 ∨ i = 2 ∨ i = 3 ∨ i = 4 ∨ i = 5 ∨ i = 6 ∨ i = 7 := by omega
   rcases this with rfl | rfl | rfl | rfl | rfl | rfl | rfl | rfl
   ·exact h1'.1
   ·exact h1'.2.1
   ·exact h1'.2.2
   ·exact h2'
   ·exact h3'
   ·exact h4'
   ·exact h5'
   ·exact h6'
  by_cases h7 : (c == 117) = true
  ·rw [if_pos h7]
   obtain rfl : c = 117 := by simpa using h7
   have hu := esc_u (d := d) (B := B) hb (p : Int) (p := p + 1 + 1) (by omega)
   have tail : ∀ {r}, Ev (fun k => (rR_hex.f k b ((p + 1 + 1 : Nat) : Int) d 0 B).bind fun t => if t.2.2.2.1 = 0 then (if t.1 ≥ 55296 then rR_escape.j1 k (p : Int) t.1 (decide (t.1 ≤ 56319)) b t.2.1 t.2.2.1 t.2.2.2.1 t.2.2.2.2 else rR_escape.j1 k (p : Int) t.1 false b t.2.1 t.2.2.1 t.2.2.2.1 t.2.2.2.2) else rR_escape.j1 k (p : Int) t.1 false b t.2.1 t.2.2.1 t.2.2.2.1 t.2.2.2.2) r → Ev (escTail b (p : Int) 117 ((p + 1 : Nat) : Int) d B) r := by
    intro r hr
    unfold escTail
    refine evT rfl ?_
    rw [w64n (by omega)]
    exact hr
   rw [unio_eq] at hu
   cases ho : Js.unit b (p + 1 + 1) with
   | ok l q => rw [ho] at hu; exact go (hL.2 hall _ (tail hu))
   | no x e => rw [ho] at hu; obtain ⟨a, e, B', he, hu⟩ := hu; exact ⟨a, e, B', he, go (hL.2 hall _ (tail hu))⟩
  ·rw [if_neg h7]
   have h7' : c ≠ 117 := by simpa using h7
   refine ⟨((p + 1 : Nat) : Int), 6, ((p + 1 : Nat) : Int), n6, go (hL.2 hall _ ?_)⟩
   unfold escTail
   exact evF h7' (evB (fail_0 _ _ _) (Ev.now _))
theorem text_bad (out : List Int) {a e : Int} (he : e ≠ 0) : Ev (fun k => rR_text.l0 k out b a d e B) ((⟨#[]⟩ : ByteArray), a, d, e, B) := by
 exact Ev.step (fun k => rfl) (evF he (Ev.now _))
theorem text_loop (hb : Bs b) : ∀ (j : Nat) (out : List Int) (p : Nat) (o : Js.Out (List Int)), p ≤ b.length → out.length ≤ p → (∀ x ∈ out, 0 ≤ x ∧ x ≤ 255) → Js.textTo b j out p = some o →
  (match o with
   | .ok l q => Ev (fun k => rR_text.l0 k out b p d 0 B) (strOfNums l, (q : Int), d, 0, B)
   | .no _ _ => ∃ u a e B', e ≠ 0 ∧ Ev (fun k => rR_text.l0 k out b p d 0 B) (u, a, d, e, B'))
 | 0, out, p, o, _, _, _, h => by simp [Js.textTo] at h
 | j + 1, out, p, o, hp, ho, hob, h => by
  have hl := hb.2
  simp only [Js.textTo] at h
  have go : ∀ {t r}, rR_peek.f b p d 0 B = some t → Ev (fun k => (if t.2.2.2.1 = 0 then (if t.1 = 34 then (some (strOfNums out, wrap64 (t.2.1 + 1), t.2.2.1, t.2.2.2.1, t.2.2.2.2)) else (if t.1 < 32 then ((rR_fail.f b t.2.1 t.2.2.1 t.2.2.2.1 t.2.2.2.2 6 t.2.1).bind fun u => (rR_text.l0 k out b u.1 u.2.1 u.2.2.1 u.2.2.2)) else (if t.1 = 92 then ((rR_escape.f k b t.2.1 t.2.2.1 t.2.2.2.1 t.2.2.2.2).bind fun u => (if out.length + u.1.length < 140737488355328 then (rR_text.l0 k (out ++ u.1) b u.2.1 u.2.2.1 u.2.2.2.1 u.2.2.2.2) else (none))) else (if out.length < 140737488355328 then (rR_text.l0 k (out ++ [(t.1) % 256]) b (wrap64 (t.2.1 + 1)) t.2.2.1 t.2.2.2.1 t.2.2.2.2) else (none))))) else (some ((⟨#[]⟩ : ByteArray), t.2.1, t.2.2.1, t.2.2.2.1, t.2.2.2.2)))) r → Ev (fun k => rR_text.l0 k out b p d 0 B) r := by
   intro t r ht hr
   exact Ev.step (fun k => rfl) (evT rfl (evB ht hr))
  cases hn : b[p]? with
  | none =>
   rw [hn] at h
   obtain rfl : Js.Out.no p 11 = o := Option.some.inj h
   exact ⟨_, (p : Int), 11, (b.length : Int), n11, go (peek_end hn) (evF n11 (Ev.now _))⟩
  | some c =>
   rw [hn] at h
   simp only at h
   have hlt := lt_of hn
   have hc := byte_of hb hn
   by_cases h1 : (c == 34) = true
   ·rw [if_pos h1] at h
    obtain rfl := Option.some.inj h
    refine go (peek_ok hb hn) (evT rfl (evT (eq_of_beq h1) (evC ?_)))
    show some (strOfNums out, wrap64 ((p : Int) + 1), d, (0 : Int), B) = _
    rw [w64n (by omega)]
   rw [if_neg h1] at h
   have h1' : c ≠ 34 := by simpa using h1
   by_cases h2 : (c == 92) = true
   ·rw [if_pos h2] at h
    have h2' : c = 92 := eq_of_beq h2
    have hE := escape_ends (d := d) (B := B) hb hlt
    cases hx : Js.escape b (p + 1) with
    | no x e =>
     rw [hx] at h hE
     obtain rfl := Option.some.inj h
     obtain ⟨a, e, B', he, hE⟩ := hE
     exact ⟨_, a, e, B', he, go (peek_ok hb hn) (evT rfl (evF h1' (evF (by show ¬ (c < 32); omega) (evT h2' (Ev.bind hE (evT (by show out.length + ([] : List Int).length < 140737488355328; simp; omega) (text_bad _ he)))))))⟩
    | ok l q =>
     rw [hx] at h hE
     simp only at h hE
     have hle := Js.escape_le hx
     have hby := Js.escape_bytes hb.1 hx
     have ih := text_loop hb j (out ++ l) q o hle.2 (by rw [List.length_append]; omega) (fun x hx2 => (List.mem_append.1 hx2).elim (hob x) (hby.1 x)) h
     have fin : ∀ {r}, Ev (fun k => rR_text.l0 k (out ++ l) b q d 0 B) r → Ev (fun k => rR_text.l0 k out b p d 0 B) r := by
      intro r hr
      exact go (peek_ok hb hn) (evT rfl (evF h1' (evF (by show ¬ (c < 32); omega) (evT h2' (Ev.bind hE (evT (by show out.length + l.length < 140737488355328; omega) hr))))))
     cases o with
     | ok l2 q2 => exact fin ih
     | no x e => obtain ⟨u, a, e, B', he, ih⟩ := ih; exact ⟨u, a, e, B', he, fin ih⟩
   rw [if_neg h2] at h
   have h2' : c ≠ 92 := by simpa using h2
   by_cases h3 : c < 32
   ·rw [if_pos h3] at h
    obtain rfl := Option.some.inj h
    exact ⟨_, (p : Int), 6, (p : Int), n6, go (peek_ok hb hn) (evT rfl (evF h1' (evT h3 (evB (fail_0 _ _ _) (text_bad _ n6)))))⟩
   rw [if_neg h3] at h
   have ih := text_loop hb j (out ++ [c]) (p + 1) o (by omega) (by rw [List.length_append]; simp; omega) (fun x hx2 => (List.mem_append.1 hx2).elim (hob x) (fun h => by simp at h; rw [h]; exact hc)) h
   have fin : ∀ {r}, Ev (fun k => rR_text.l0 k (out ++ [c]) b ((p + 1 : Nat) : Int) d 0 B) r → Ev (fun k => rR_text.l0 k out b p d 0 B) r := by
    intro r hr
    refine go (peek_ok hb hn) (evT rfl (evF h1' (evF h3 (evF h2' (evT (by omega) ?_)))))
    show Ev (fun k => rR_text.l0 k (out ++ [c % 256]) b (wrap64 ((p : Int) + 1)) d 0 B) r
    rw [w64n (by omega), Int.emod_eq_of_lt hc.1 (by omega)]
    exact hr
   cases o with
   | ok l2 q2 => exact fin ih
   | no x e => obtain ⟨u, a, e, B', he, ih⟩ := ih; exact ⟨u, a, e, B', he, fin ih⟩
theorem text_ends (hb : Bs b) {j : Nat} {o : Js.Out (List Int)} (h : Js.text b j p = some o) : (match o with
      | .ok l q => Ev (fun k => rR_text.f k b p d 0 B) (strOfNums l, (q : Int), d, 0, B)
      | .no _ _ => ∃ u a e B', e ≠ 0 ∧ Ev (fun k => rR_text.f k b p d 0 B) (u, a, d, e, B')) := by
  unfold rR_text.f
  unfold Js.text at h
  cases hn : b[p]? with
  | none =>
    rw [hn] at h
    obtain rfl : Js.Out.no p 11 = o := Option.some.inj h
    exact ⟨_, _, _, _, n11, Ev.bind (must_end hn) (text_bad _ n11)⟩
  | some c =>
    rw [hn] at h
    simp only at h
    have hlt := lt_of hn
    by_cases hc : (c == 34) = true
    · rw [if_pos hc] at h
      obtain rfl : c = 34 := eq_of_beq hc
      have ih := text_loop (d := d) (B := B) hb j [] (p + 1) o (by omega) (by simp) (fun x hx => by cases hx) h
      cases o with
      | ok l q => exact Ev.bind (must_ok hb hn) ih
      | no x e => obtain ⟨u, a, e, B', he, ih⟩ := ih; exact ⟨u, a, e, B', he, Ev.bind (must_ok hb hn) ih⟩
    · rw [if_neg hc] at h
      obtain rfl := Option.some.inj h
      exact ⟨_, _, _, _, n6, Ev.bind (must_no hb hn (by simpa using hc)) (text_bad _ n6)⟩
theorem enter_deep {cl a : Int} (hd : ¬ d + 1 ≤ 64) (h0 : d ≤ 1000) : rR_enter.f 0 b a d 0 B cl = some (true, a, d + 1, 13, a) ∧ ∀ k, rR_enter.f k b a d 0 B cl = some (true, a, d + 1, 13, a) := by
 have : ∀ k, rR_enter.f k b a d 0 B cl = some (true, a, d + 1, 13, a) := by
  intro k
  unfold rR_enter.f
  rw [w64 (z := d + 1) (by omega) (by omega), if_pos (by omega), fail_0]
  rfl
 exact ⟨this 0, this⟩
theorem enter_ends (hb : Bs b) (hp : p < b.length) {cl : Int} (h0 : 0 ≤ d) (hd : d + 1 ≤ 64) : (match b[Js.blank b (p + 1)]? with
  | none => ∃ a e B', e ≠ 0 ∧ Ev (fun k => rR_enter.f k b p d 0 B cl) (true, a, d + 1, e, B')
  | some c => if c = cl then Ev (fun k => rR_enter.f k b p d 0 B cl) (true, ((Js.blank b (p + 1) + 1 : Nat) : Int), d, 0, B)
    else Ev (fun k => rR_enter.f k b p d 0 B cl) (false, ((Js.blank b (p + 1) : Nat) : Int), d + 1, 0, B)) := by
 have hl := hb.2
 have hbl := Js.blank_le (b := b) (p := p + 1) (by omega)
 have go : ∀ {t r}, rR_peek.f b ((Js.blank b (p + 1) : Nat) : Int) (d + 1) 0 B = some t → Ev (fun _ => if t.2.2.2.1 = 0 then (if t.1 = cl then some (true, wrap64 (t.2.1 + 1), wrap64 (t.2.2.1 - 1), t.2.2.2.1, t.2.2.2.2) else some (false, t.2.1, t.2.2.1, t.2.2.2.1, t.2.2.2.2)) else some (true, t.2.1, t.2.2.1, t.2.2.2.1, t.2.2.2.2)) r → Ev (fun k => rR_enter.f k b p d 0 B cl) r := by
  intro t r ht hr
  unfold rR_enter.f
  rw [w64 (z := d + 1) (by omega) (by omega), w64n (by omega)]
  refine evF (by omega) (Ev.bind (blank_ok hb (by omega)) ?_)
  exact evB ht hr
 cases hn : b[Js.blank b (p + 1)]? with
 | none => exact ⟨_, 11, _, n11, go (peek_end hn) (evF n11 (Ev.now _))⟩
 | some c =>
  have hlt := lt_of hn
  simp only
  by_cases hc : c = cl
  ·rw [if_pos hc]
   refine go (peek_ok hb hn) (evT rfl (evT hc (evC ?_)))
   show some (true, wrap64 (((Js.blank b (p + 1) : Nat) : Int) + 1), wrap64 (d + 1 - 1), (0 : Int), B) = _
   rw [w64n (by omega), w64 (by omega) (by omega), show d + 1 - 1 = d by omega]
  ·rw [if_neg hc]
   exact go (peek_ok hb hn) (evT rfl (evF hc (Ev.now _)))
theorem more_bad {cl a e : Int} (he : e ≠ 0) : Ev (fun k => rR_more.f k b a d e B cl) (false, a, d, e, B) := by
 unfold rR_more.f
 exact Ev.bind (blank_bad he) (evB (peek_bad he) (evF he (Ev.now _)))
theorem more_ends (hb : Bs b) (hp : p ≤ b.length) {cl : Int} (h1 : 1 ≤ d) (hd : d ≤ 64) : (match Js.comma b cl p with
  | .ok t q => Ev (fun k => rR_more.f k b p d 0 B cl) (t, (q : Int), (if t = true then d else d - 1), 0, B)
  | .no _ _ => ∃ a e B', e ≠ 0 ∧ Ev (fun k => rR_more.f k b p d 0 B cl) (false, a, d, e, B')) := by
 have hl := hb.2
 have hbl := Js.blank_le (b := b) (p := p) hp
 unfold Js.comma
 unfold rR_more.f
 simp only
 cases hn : b[Js.blank b p]? with
 | none => exact ⟨_, 11, _, n11, Ev.bind (blank_ok hb hp) (evB (peek_end hn) (evF n11 (Ev.now _)))⟩
 | some c =>
  have hlt := lt_of hn
  simp only
  by_cases hc : (c == cl) = true
  ·rw [if_pos hc]
   refine Ev.bind (blank_ok hb hp) (evB (peek_ok hb hn) (evT rfl (evT (eq_of_beq hc) (evC ?_))))
   show some (false, wrap64 (((Js.blank b p : Nat) : Int) + 1), wrap64 (d - 1), (0 : Int), B) = _
   rw [w64n (by omega), w64 (by omega) (by omega)]
   rfl
  ·rw [if_neg hc]
   have hc' : ¬ (c = cl) := by simpa using hc
   by_cases h2 : (c == 44) = true
   ·rw [if_pos h2]
    refine Ev.bind (blank_ok hb hp) (evB (peek_ok hb hn) (evT rfl (evF hc' (evT (eq_of_beq h2) ?_))))
    show Ev (fun k => (rR_blank.f k b (wrap64 (((Js.blank b p : Nat) : Int) + 1)) d 0 B).bind fun t => some (true, t.1, t.2.1, t.2.2.1, t.2.2.2)) _
    rw [w64n (by omega)]
    exact Ev.bind (blank_ok hb (by omega)) (Ev.now _)
   ·rw [if_neg h2]
    exact ⟨_, 6, _, n6, Ev.bind (blank_ok hb hp) (evB (peek_ok hb hn) (evT rfl (evF hc' (evF (by simpa using h2) (evB (fail_0 _ _ _) (Ev.now _))))))⟩
end Go.Proofs.YteighppcdpaekaaDoor.Rf
end
section
namespace Go.Proofs.YteighppcdpaekaaDoor.Rd
open Go.RowKit Go.Proofs.YteighppcdpaekaaDoorW.PrintWords
open Go.Proofs.YteighppcdpaekaaDoor
structure RS (w0 : World) (g : Nat) (A : Option Addr) (c : Nat) (b : List Int) (W : World) (p d : Int) : Prop where
 blk : W.heap[g]? = some (.cells #[.slice A b.length c, .int .i64 p, .int .i64 d] 113 (0, 0))
 ge : w0.heap.size ≤ g
 read : Kd.C (Kd.int .u8) w0 A b.length b
 bel : Below w0.heap.size w0 W
 small : b.length ≤ 100000000000
section
variable {w0 : World} {g : Nat} {A : Option Addr} {c : Nat} {b : List Int} {W : World} {p d : Int}
theorem RS.c0 (h : RS w0 g A c b W p d) : W.cell? ⟨g, 0, none⟩ = some (.slice A b.length c) := (blk_cell h.blk 0).trans rfl
theorem RS.c1 (h : RS w0 g A c b W p d) : W.cell? ⟨g, 1, none⟩ = some (.int .i64 p) := (blk_cell h.blk 1).trans rfl
theorem RS.c2 (h : RS w0 g A c b W p d) : W.cell? ⟨g, 2, none⟩ = some (.int .i64 d) := (blk_cell h.blk 2).trans rfl
theorem RS.fr (h : RS w0 g A c b W p d) (i : Nat) : W.frozen? ⟨g, i, none⟩ = false := bfz h.blk i
theorem RS.drewN (h : RS w0 g A c b W p d) (n : Nat) : RS w0 g A c b (W.drewN n) p d := ⟨h.blk, h.ge, h.read, pbdN h.bel n, h.small⟩
theorem RS.drew (h : RS w0 g A c b W p d) : RS w0 g A c b W.drew p d := ⟨h.blk, h.ge, h.read, below_drew h.bel, h.small⟩
theorem RS.set1 (h : RS w0 g A c b W p d) (q : Int) : RS w0 g A c b (W.setCell ⟨g, 1, none⟩ (.int .i64 q)) q d :=
 ⟨by simpa using blk_set h.blk 1 (.int .i64 q), h.ge, h.read, below_set h.bel h.ge, h.small⟩
theorem RS.set2 (h : RS w0 g A c b W p d) (q : Int) : RS w0 g A c b (W.setCell ⟨g, 2, none⟩ (.int .i64 q)) p q :=
 ⟨by simpa using blk_set h.blk 2 (.int .i64 q), h.ge, h.read, below_set h.bel h.ge, h.small⟩
theorem RS.to (h : RS w0 g A c b W p d) {p' d' : Int} (e : p = p') (e' : d = d') : RS w0 g A c b W p' d' := by subst e; subst e'; exact h
theorem RS.lt (h : RS w0 g A c b W p d) : g < W.heap.size := blk_lt h.blk
theorem RS.alloc (h : RS w0 g A c b W p d) (x : Obj) : RS w0 g A c b (W.alloc x) p d := ⟨blk_alloc h.blk x, h.ge, h.read, bal h.bel x, h.small⟩
theorem RS.grown {W1 : World} {row : Option Nat} (h : RS w0 g A c b W p d) (hg : W.grownBy W1 row) (hne : some g ≠ row) (hb : Below w0.heap.size w0 W1) : RS w0 g A c b W1 p d := ⟨blk_grown h.blk hg hne, h.ge, h.read, hb, h.small⟩
theorem RS.far (h : RS w0 g A c b W p d) {q : Addr} (hne : g ≠ q.block) (hq : w0.heap.size ≤ q.block) (u : Value) : RS w0 g A c b (W.setCell q u) p d :=
 ⟨blk_far h.blk hne u, h.ge, h.read, h.bel.setCell (p := q) hq _, h.small⟩
theorem RS.at_ (h : RS w0 g A c b W p d) {i : Nat} {x : Int} (hi : b[i]? = some x) : ∃ ad, A = some ad ∧ W.cell? (ad.add i) = some (.int .u8 x) := by
 have hl := (List.getElem?_eq_some_iff.1 hi).1
 obtain ⟨ad, e, hc⟩ := Kd.at_int h.read (i : Int) (by omega) (by omega)
 refine ⟨ad, e, ?_⟩
 have := pw_cell_below h.bel hc
 simpa [rd, List.getD_eq_getElem?_getD, hi] using this
end
def Post {α : Type} (w0 : World) (g : Nat) (A : Option Addr) (c : Nat) (b : List Int) (w : World) (d : Int) (V : World → α → Value → Prop) (o : Js.Out α) (e : Ending) (w' : World) : Prop :=
 match o with
 | .ok v q => ∃ u, e = .returned u ∧ V w' v u ∧ RS w0 g A c b w' q d ∧ KeepBut w w' g none
 | .no x k => e = .panicked [{ v := .iface 115 (.agg #[.int .i64 (x : Int), .int .i64 (k : Int)]), recovered := false }] ∧ Below w0.heap.size w0 w' ∧ KeepBut w w' g none
theorem fail_calls {w0 : World} {g : Nat} {A : Option Addr} {c : Nat} {b : List Int} {w : World} {p d : Int} (e : Int) (h : RS w0 g A c b w p d) :
  Calls Tryd.prog 60 #[.pointer (some ⟨g, 0, none⟩), .int .i64 e] w fun en w' => en = .panicked [{ v := .iface 115 (.agg #[.int .i64 p, .int .i64 e]), recovered := false }] ∧ w' = w := by
 have h1 := h.c1
 go_enter Tryd.func60, Tryd.ntmps60
 go_wp2
 exact ⟨rfl, rfl, rfl⟩
def VInt (k : IntKind) (_ : World) (x : Int) (u : Value) : Prop := u = .int k x
theorem peek_ok {w0 : World} {g : Nat} {A : Option Addr} {c : Nat} {b : List Int} {w : World} {d : Int} {p : Nat} {x : Int} (h : RS w0 g A c b w p d) (hx : b[p]? = some x) :
  Calls Tryd.prog 74 #[.pointer (some ⟨g, 0, none⟩)] w fun e w' => e = .returned (.int .u8 x) ∧ ∃ n, w' = w.drewN n := by
 have h0 := h.c0
 have h1 := h.c1
 have hsm := h.small
 have hp : p < b.length := (List.getElem?_eq_some_iff.1 hx).1
 obtain ⟨ad, rfl, hc⟩ := h.at_ hx
 clear hx
 go_enter Tryd.func74, Tryd.ntmps74
 go_wp2
 go_quiet (fail)
 go_wp2
 go_quiet (fail)
 go_wp2
 go_ret
 exact ⟨rfl, _, World.drewN_drewN _ _ _⟩
theorem peek_no {w0 : World} {g : Nat} {A : Option Addr} {c : Nat} {b : List Int} {w : World} {d : Int} {p : Nat} (h : RS w0 g A c b w p d) (hx : b[p]? = none) :
  Calls Tryd.prog 74 #[.pointer (some ⟨g, 0, none⟩)] w fun e w' => e = .panicked [{ v := .iface 115 (.agg #[.int .i64 (p : Int), .int .i64 11]), recovered := false }] ∧ ∃ n, w' = w.drewN n := by
 have h0 := h.c0
 have h1 := h.c1
 have hsm := h.small
 have hp : b.length ≤ p := by simpa using hx
 clear hx
 go_enter Tryd.func74, Tryd.ntmps74
 go_wp2
 go_quiet (fail)
 go_wp2_with (go_at_call 60; refine (fail_calls _ (h.drewN _)).mono ?_; rintro e w' ⟨rfl, rfl⟩)
 exact ⟨rfl, rfl, _, rfl⟩
theorem blank_calls {w0 : World} {g : Nat} {A : Option Addr} {c : Nat} {b : List Int} {w : World} {d : Int} (p : Nat) (h : RS w0 g A c b w p d) :
  Calls Tryd.prog 58 #[.pointer (some ⟨g, 0, none⟩)] w (fun e w' => e = .returned (.tuple #[]) ∧ RS w0 g A c b w' (Js.blank b p) d ∧ KeepBut w w' g none) := by
 have hsm := h.small
 go_enter Tryd.func58, Tryd.ntmps58
 go_wp2
 go_loopg [] (Js.blankLen (b.drop p)) (fun kq w' => ∃ q : Nat, Hid (q + kq = Js.blank b p) ∧ Hid (kq = Js.blankLen (b.drop q)) ∧ RS w0 g A c b w' q d ∧ KeepBut w w' g none)
 case atStart => exact ⟨p, rfl, rfl, h, KeepBut.refl _ _ _⟩
 case round =>
  obtain ⟨q, hq, hk, hS, hK⟩ := hrel
  clear h
  have h0 := hS.c0
  have h1 := hS.c1
  have f1 := hS.fr 1
  cases hx : b[q]? with
  | none =>
   have hp : b.length ≤ q := by simpa using hx
   have hz' : Hid (Js.blank b p = q) := by have := hk.out; have := hq.out; have := Js.blank_end hx; show _ = _; omega
   clear hx hq hk
   have hlt : decide (q < b.length) = false := by simp; omega
   go_wp2
   repeat (go_quiet (fail); try go_wp2)
   go_end0
   exact ⟨rfl, by rw [hz'.out]; first | exact hS.drewN _ | exact hS, by first | exact kdrN hK _ | exact hK⟩
  | some x =>
   have hp : q < b.length := (List.getElem?_eq_some_iff.1 hx).1
   obtain ⟨ad, rfl, hc⟩ := hS.at_ hx
   have hlt : decide (q < b.length) = true := by simp; omega
   cases hbl : Js.isBlank x with
   | false =>
    have hz' : Hid (Js.blank b p = q) := by have := hk.out; have := hq.out; have := Js.blank_stop hx hbl; show _ = _; omega
    clear hx hq hk
    simp only [Js.isBlank, Bool.or_eq_false_iff] at hbl
    obtain ⟨⟨⟨e1, e2⟩, e3⟩, e4⟩ := hbl
    go_wp2
    repeat (go_quiet (fail); try go_wp2)
    go_end0
    exact ⟨rfl, by rw [hz'.out]; first | exact hS.drewN _ | exact hS, by first | exact kdrN hK _ | exact hK⟩
   | true =>
    have hst := Js.blank_step hx hbl
    obtain ⟨k1, rfl⟩ : ∃ k, gk = k + 1 := ⟨Js.blankLen (b.drop (q + 1)), by have := hk.out; omega⟩
    have hq1 : Hid (q + 1 + k1 = Js.blank b p) := by have := hq.out; show _ = _; omega
    have hk1 : Hid (k1 = Js.blankLen (b.drop (q + 1))) := by have := hk.out; show _ = _; omega
    clear hx hq hk hst
    have hbl' : x = 32 ∨ x ≠ 32 ∧ (x = 9 ∨ x ≠ 9 ∧ (x = 10 ∨ x ≠ 10 ∧ x = 13)) := by
     simp only [Js.isBlank, Bool.or_eq_true, beq_iff_eq] at hbl; omega
    clear hbl
    rcases hbl' with e | ⟨n1, e | ⟨n2, e | ⟨n3, e⟩⟩⟩
    all_goals
     (try replace n1 := beq_eq_false_iff_ne.2 n1)
     (try replace n2 := beq_eq_false_iff_ne.2 n2)
     (try replace n3 := beq_eq_false_iff_ne.2 n3)
     replace e := beq_iff_eq.2 e
     go_wp2
     repeat (go_quiet (fail); try go_wp2)
     go_roundg k1
     case measure => omega
     case rel => exact ⟨q + 1, hq1, hk1, (RS.to (p := (q : Int) + 1) (by repeat (first | exact hS | apply RS.drewN | apply RS.drew | apply RS.set1 | apply RS.set2)) (by omega) rfl), (by repeat (first | exact hK | apply KeepBut.set_ | apply kdrN | apply keep_drew | apply kal))⟩
theorem next_calls {w0 : World} {g : Nat} {A : Option Addr} {c : Nat} {b : List Int} {w : World} {d : Int} (p : Nat) (x : Int) (h : RS w0 g A c b w p d) :
  Calls Tryd.prog 100 #[.pointer (some ⟨g, 0, none⟩), .int .u8 x] w fun e w' => e = .returned (.bool (Js.next b p x)) ∧ ∃ n, w' = w.drewN n := by
 have h0 := h.c0
 have h1 := h.c1
 have hsm := h.small
 cases hx : b[p]? with
 | none =>
  have hp : b.length ≤ p := by simpa using hx
  have hr : Hid (Js.next b p x = false) := by show _ = _; simp [Js.next, hx]
  have hlt : decide (p < b.length) = false := by simp; omega
  clear hx
  go_enter Tryd.func100, Tryd.ntmps100
  go_wp2
  repeat (go_quiet (fail); try go_wp2)
  go_ret
  exact ⟨by rw [hr.out]; rfl, _, rfl⟩
 | some y =>
  have hp : p < b.length := (List.getElem?_eq_some_iff.1 hx).1
  obtain ⟨ad, rfl, hc⟩ := h.at_ hx
  have hr : Hid (Js.next b p x = (y == x)) := by show _ = _; simp [Js.next, hx]
  have hlt : decide (p < b.length) = true := by simp; omega
  clear hx
  go_enter Tryd.func100, Tryd.ntmps100
  go_wp2
  repeat (go_quiet (fail); try go_wp2)
  go_ret
  exact ⟨by rw [hr.out]; rfl, _, rfl⟩
theorem digits_ok {w0 : World} {g : Nat} {A : Option Addr} {c : Nat} {b : List Int} {w : World} {d : Int} {p q : Nat} (h : RS w0 g A c b w p d) (hd : Js.digits b p = .ok () q) :
  Calls Tryd.prog 101 #[.pointer (some ⟨g, 0, none⟩)] w fun e w' => e = .returned (.tuple #[]) ∧ RS w0 g A c b w' q d ∧ KeepBut w w' g none := by
 have hsm := h.small
 cases hx : b[p]? with
 | none => simp [Js.digits, hx] at hd
 | some x =>
 cases hdx : Js.isDigit x with
 | false => simp [Js.digits, hx, hdx] at hd
 | true =>
 have hq : Hid (q = p + Js.digitLen (b.drop p)) := by simp [Js.digits, hx, hdx] at hd; exact hd.symm
 clear hd
 simp only [Js.isDigit, Bool.and_eq_true] at hdx
 have hp1 := peek_ok h hx
 clear hx
 obtain ⟨e1, e2⟩ := hdx
 have e1' := of_decide_eq_true e1
 have e2' := of_decide_eq_true e2
 go_enter Tryd.func101, Tryd.ntmps101
 go_wp2_with (go_at_call 74; refine hp1.mono ?_; rintro e w' ⟨rfl, n, rfl⟩)
 go_loopg [] (Js.digitLen (b.drop p)) (fun kq w' => ∃ r : Nat, Hid (r + kq = q) ∧ Hid (kq = Js.digitLen (b.drop r)) ∧ RS w0 g A c b w' r d ∧ KeepBut w w' g none)
 case atStart => exact ⟨p, hq.out.symm, rfl, h.drewN _, kdrN (KeepBut.refl _ _ _) _⟩
 case round =>
  clear hp1 h e1 e2 e1' e2' hq
  obtain ⟨r, hq, hk, hS, hK⟩ := hrel
  have h0 := hS.c0
  have h1 := hS.c1
  have f1 := hS.fr 1
  cases hx : b[r]? with
  | none =>
   have hp : b.length ≤ r := by simpa using hx
   have hz' : Hid (q = r) := by have := hk.out; have := hq.out; have := Js.digit_end hx; show _ = _; omega
   clear hx hq hk
   have hlt : decide (r < b.length) = false := by simp; omega
   go_wp2
   repeat (go_quiet (fail); try go_wp2)
   go_end0
   exact ⟨rfl, by rw [hz'.out]; first | exact hS.drewN _ | exact hS, by first | exact kdrN hK _ | exact hK⟩
  | some x =>
   have hp : r < b.length := (List.getElem?_eq_some_iff.1 hx).1
   obtain ⟨ad, rfl, hc⟩ := hS.at_ hx
   have hlt : decide (r < b.length) = true := by simp; omega
   cases hbl : Js.isDigit x with
   | false =>
    have hz' : Hid (q = r) := by have := hk.out; have := hq.out; have := Js.digit_stop hx hbl; show _ = _; omega
    clear hx hq hk
    have hbl' : x < 48 ∨ 48 ≤ x ∧ 57 < x := by
     simp only [Js.isDigit, Bool.and_eq_false_iff, decide_eq_false_iff_not] at hbl; omega
    clear hbl
    rcases hbl' with e | ⟨e, e'⟩
    ·have b1 : decide (48 ≤ x) = false := by simp; omega
     go_wp2
     repeat (go_quiet (fail); try go_wp2)
     go_end0
     exact ⟨rfl, by rw [hz'.out]; first | exact hS.drewN _ | exact hS, by first | exact kdrN hK _ | exact hK⟩
    ·have b1 : decide (48 ≤ x) = true := by simp; omega
     have b2 : decide (x ≤ 57) = false := by simp; omega
     go_wp2
     repeat (go_quiet (fail); try go_wp2)
     go_end0
     exact ⟨rfl, by rw [hz'.out]; first | exact hS.drewN _ | exact hS, by first | exact kdrN hK _ | exact hK⟩
   | true =>
    have hst := Js.digit_step hx hbl
    obtain ⟨k1, rfl⟩ : ∃ k, gk = k + 1 := ⟨Js.digitLen (b.drop (r + 1)), by have := hk.out; omega⟩
    have hq1 : Hid (r + 1 + k1 = q) := by have := hq.out; show _ = _; omega
    have hk1 : Hid (k1 = Js.digitLen (b.drop (r + 1))) := by have := hk.out; show _ = _; omega
    clear hx hq hk hst
    simp only [Js.isDigit, Bool.and_eq_true] at hbl
    obtain ⟨b1, b2⟩ := hbl
    go_wp2
    repeat (go_quiet (fail); try go_wp2)
    go_roundg k1
    case measure => omega
    case rel => exact ⟨r + 1, hq1, hk1, (RS.to (p := (r : Int) + 1) (by repeat (first | exact hS | apply RS.drewN | apply RS.drew | apply RS.set1 | apply RS.set2)) (by omega) rfl), (by repeat (first | exact hK | apply KeepBut.set_ | apply kdrN | apply keep_drew | apply kal))⟩
theorem digits_no {w0 : World} {g : Nat} {A : Option Addr} {c : Nat} {b : List Int} {w : World} {d : Int} {p x k : Nat} (h : RS w0 g A c b w p d) (hd : Js.digits b p = .no x k) :
  Calls Tryd.prog 101 #[.pointer (some ⟨g, 0, none⟩)] w fun e w' => e = .panicked [{ v := .iface 115 (.agg #[.int .i64 (x : Int), .int .i64 (k : Int)]), recovered := false }] ∧ Below w0.heap.size w0 w' ∧ KeepBut w w' g none := by
 have hsm := h.small
 cases hx : b[p]? with
 | none =>
  obtain ⟨rfl, rfl⟩ : p = x ∧ 11 = k := by simpa [Js.digits, hx] using hd
  clear hd
  have hp1 := peek_no h hx
  clear hx
  go_enter Tryd.func101, Tryd.ntmps101
  go_wp2_with (go_at_call 74; refine hp1.mono ?_; rintro e w' ⟨rfl, n, rfl⟩)
  exact ⟨rfl, rfl, pbdN h.bel _, kdrN (KeepBut.refl _ _ _) _⟩
 | some y =>
  cases hdx : Js.isDigit y with
  | true => simp [Js.digits, hx, hdx] at hd
  | false =>
   obtain ⟨rfl, rfl⟩ : p = x ∧ 6 = k := by simpa [Js.digits, hx, hdx] using hd
   clear hd
   have hp1 := peek_ok h hx
   clear hx
   have hbl' : y < 48 ∨ 48 ≤ y ∧ 57 < y := by
    simp only [Js.isDigit, Bool.and_eq_false_iff, decide_eq_false_iff_not] at hdx; omega
   clear hdx
   rcases hbl' with e | ⟨e, e'⟩
   ·go_enter Tryd.func101, Tryd.ntmps101
    go_wp2_with (first | (go_at_call 74; refine hp1.mono ?_; rintro e w' ⟨rfl, n, rfl⟩) | (go_at_call 60; refine (fail_calls _ (h.drewN _)).mono ?_; rintro e w' ⟨rfl, rfl⟩))
    exact ⟨rfl, rfl, pbdN h.bel _, kdrN (KeepBut.refl _ _ _) _⟩
   ·go_enter Tryd.func101, Tryd.ntmps101
    go_wp2_with (first | (go_at_call 74; refine hp1.mono ?_; rintro e w' ⟨rfl, n, rfl⟩) | (go_at_call 60; refine (fail_calls _ (h.drewN _)).mono ?_; rintro e w' ⟨rfl, rfl⟩))
    exact ⟨rfl, rfl, pbdN h.bel _, kdrN (KeepBut.refl _ _ _) _⟩
end Go.Proofs.YteighppcdpaekaaDoor.Rd
end
section
namespace Go.Proofs.YteighppcdpaekaaDoor.Rd
open Go.RowKit Go.Proofs.YteighppcdpaekaaDoorW.PrintWords
open Go.Proofs.YteighppcdpaekaaDoor
theorem enter_ok {w0 : World} {g : Nat} {A : Option Addr} {c : Nat} {b : List Int} {w : World} {p d : Nat} (h : RS w0 g A c b w p d) (hp : p < b.length) (hd : d + 1 ≤ 64) :
  Calls Tryd.prog 97 #[.pointer (some ⟨g, 0, none⟩)] w fun e w' => e = .returned (.tuple #[]) ∧ RS w0 g A c b w' (Js.blank b (p + 1)) (d + 1) ∧ KeepBut w w' g none := by
 have hsm := h.small
 have h1 := h.c1
 have h2 := h.c2
 have f1 := h.fr 1
 have f2 := h.fr 2
 have hl := h.lt
 go_enter Tryd.func97, Tryd.ntmps97
 go_wp2_with fail
 refine (blank_calls (p + 1) (RS.to (p := (p : Int) + 1) (d := (d : Int) + 1) (by repeat (first | exact h | apply RS.drewN | apply RS.drew | apply RS.set1 | apply RS.set2)) (by omega) rfl)).mono ?_
 rintro e w' ⟨rfl, hS, hK⟩
 go_wp2
 go_end0
 exact ⟨rfl, hS, KeepBut.trans (by repeat (first | exact (KeepBut.refl _ _ _) | apply KeepBut.set_ | apply kdrN | apply keep_drew | apply kal)) hK (.inl rfl)⟩
theorem enter_no {w0 : World} {g : Nat} {A : Option Addr} {c : Nat} {b : List Int} {w : World} {p d : Nat} (h : RS w0 g A c b w p d) (hb : d < 1000000) (hd : 64 < d + 1) :
  Calls Tryd.prog 97 #[.pointer (some ⟨g, 0, none⟩)] w fun e w' => e = .panicked [{ v := .iface 115 (.agg #[.int .i64 (p : Int), .int .i64 13]), recovered := false }] ∧ Below w0.heap.size w0 w' ∧ KeepBut w w' g none := by
 have h1 := h.c1
 have h2 := h.c2
 have f2 := h.fr 2
 have hl := h.lt
 go_enter Tryd.func97, Tryd.ntmps97
 go_wp2_with fail
 refine (fail_calls 13 (p := (p : Int)) (d := (d : Int) + 1) (by repeat (first | exact h | apply RS.drewN | apply RS.drew | apply RS.set1 | apply RS.set2))).mono ?_
 rintro e w' ⟨rfl, rfl⟩
 exact ⟨rfl, rfl, (RS.bel (by repeat (first | exact h | apply RS.drewN | apply RS.drew | apply RS.set1 | apply RS.set2))), (by repeat (first | exact (KeepBut.refl _ _ _) | apply KeepBut.set_ | apply kdrN | apply keep_drew | apply kal))⟩
theorem comma_calls {w0 : World} {g : Nat} {A : Option Addr} {c : Nat} {b : List Int} {w : World} {p d : Nat} (cl : Int) (h : RS w0 g A c b w p d) (hd : 1 ≤ d) (hdb : d < 1000000) :
  Calls Tryd.prog 98 #[.pointer (some ⟨g, 0, none⟩), .int .u8 cl] w fun e w' => match Js.comma b cl p with
   | .ok false q => e = .returned (.bool false) ∧ RS w0 g A c b w' q ((d : Int) - 1) ∧ KeepBut w w' g none
   | .ok true q => e = .returned (.bool true) ∧ RS w0 g A c b w' q d ∧ KeepBut w w' g none
   | .no x k => e = .panicked [{ v := .iface 115 (.agg #[.int .i64 (x : Int), .int .i64 (k : Int)]), recovered := false }] ∧ Below w0.heap.size w0 w' ∧ KeepBut w w' g none := by
 have hsm := h.small
 cases hx : b[Js.blank b p]? with
 | none =>
  have hr : Js.comma b cl p = .no (Js.blank b p) 11 := by simp [Js.comma, hx]
  rw [hr]; clear hr
  have hbl := blank_calls p h
  generalize Js.blank b p = q at hbl hx ⊢
  go_enter Tryd.func98, Tryd.ntmps98
  go_wp2_with (go_at_call 58; refine (hbl).mono ?_; rintro e w' ⟨rfl, hS, hK⟩)
  have hp1 := peek_no hS hx
  clear hx hbl
  go_wp2_with (go_at_call 74; refine (hp1).mono ?_; rintro e w' ⟨rfl, n, rfl⟩)
  exact ⟨rfl, rfl, (RS.bel (by repeat (first | exact hS | apply RS.drewN | apply RS.drew | apply RS.set1 | apply RS.set2))), (by repeat (first | exact hK | apply KeepBut.set_ | apply kdrN | apply keep_drew | apply kal))⟩
 | some x =>
  by_cases h1 : x = cl
  ·have hr : Js.comma b cl p = .ok false (Js.blank b p + 1) := by simp [Js.comma, hx, h1]
   rw [hr]; clear hr
   replace h1 := beq_iff_eq.2 h1
   have hbl := blank_calls p h
   generalize Js.blank b p = q at hbl hx ⊢
   go_enter Tryd.func98, Tryd.ntmps98
   go_wp2_with (go_at_call 58; refine (hbl).mono ?_; rintro e w' ⟨rfl, hS, hK⟩)
   have hp : q < b.length := (List.getElem?_eq_some_iff.1 hx).1
   have hp1 := peek_ok hS hx
   have g1 := hS.c1
   have g2 := hS.c2
   have f1 := hS.fr 1
   have f2 := hS.fr 2
   clear hx hbl
   go_wp2_with (go_at_call 74; refine (hp1).mono ?_; rintro e w' ⟨rfl, n, rfl⟩)
   go_ret
   exact ⟨rfl, (RS.to (p := (q : Int) + 1) (d := (d : Int) - 1) (by repeat (first | exact hS | apply RS.drewN | apply RS.drew | apply RS.set1 | apply RS.set2)) (by omega) rfl), (by repeat (first | exact hK | apply KeepBut.set_ | apply kdrN | apply keep_drew | apply kal))⟩
  ·by_cases h2 : x = 44
   ·have hr : Js.comma b cl p = .ok true (Js.blank b (Js.blank b p + 1)) := by simp [Js.comma, hx, h1, h2]; intro h3; exact absurd (h2.trans h3) h1
    rw [hr]; clear hr
    replace h1 := beq_eq_false_iff_ne.2 h1
    replace h2 := beq_iff_eq.2 h2
    have hbl := blank_calls p h
    generalize Js.blank b p = q at hbl hx ⊢
    go_enter Tryd.func98, Tryd.ntmps98
    go_wp2_with (go_at_call 58; refine (hbl).mono ?_; rintro e w' ⟨rfl, hS, hK⟩)
    have hp : q < b.length := (List.getElem?_eq_some_iff.1 hx).1
    have hp1 := peek_ok hS hx
    have g1 := hS.c1
    have f1 := hS.fr 1
    clear hx hbl
    go_wp2_with (go_at_call 74; refine (hp1).mono ?_; rintro e w' ⟨rfl, n, rfl⟩)
    refine (blank_calls (q + 1) (RS.to (p := (q : Int) + 1) (d := (d : Int)) (by repeat (first | exact hS | apply RS.drewN | apply RS.drew | apply RS.set1 | apply RS.set2)) (by omega) rfl)).mono ?_
    rintro e w' ⟨rfl, hS2, hK2⟩
    go_wp2
    go_ret
    exact ⟨rfl, hS2, KeepBut.trans (by repeat (first | exact hK | apply KeepBut.set_ | apply kdrN | apply keep_drew | apply kal)) hK2 (.inl rfl)⟩
   ·have hr : Js.comma b cl p = .no (Js.blank b p) 6 := by simp [Js.comma, hx, h1, h2]
    rw [hr]; clear hr
    replace h1 := beq_eq_false_iff_ne.2 h1
    replace h2 := beq_eq_false_iff_ne.2 h2
    have hbl := blank_calls p h
    generalize Js.blank b p = q at hbl hx ⊢
    go_enter Tryd.func98, Tryd.ntmps98
    go_wp2_with (go_at_call 58; refine (hbl).mono ?_; rintro e w' ⟨rfl, hS, hK⟩)
    have hp : q < b.length := (List.getElem?_eq_some_iff.1 hx).1
    have hp1 := peek_ok hS hx
    clear hx hbl
    go_wp2_with (go_at_call 74; refine (hp1).mono ?_; rintro e w' ⟨rfl, n, rfl⟩)
    refine (fail_calls 6 (p := (q : Int)) (d := (d : Int)) (by repeat (first | exact hS | apply RS.drewN | apply RS.drew | apply RS.set1 | apply RS.set2))).mono ?_
    rintro e w' ⟨rfl, rfl⟩
    exact ⟨rfl, rfl, (RS.bel (by repeat (first | exact hS | apply RS.drewN | apply RS.drew | apply RS.set1 | apply RS.set2))), (by repeat (first | exact hK | apply KeepBut.set_ | apply kdrN | apply keep_drew | apply kal))⟩
end Go.Proofs.YteighppcdpaekaaDoor.Rd
end
section
namespace Go.Proofs.YteighppcdpaekaaDoor.Rd
open Go.RowKit Go.Proofs.YteighppcdpaekaaDoorW.PrintWords
open Go.Proofs.YteighppcdpaekaaDoor
def numberV (b : List Int) (p : Nat) : Js.Out (List Int) := match Js.number b p with
 | .ok _ q => .ok ((b.take q).drop p) q
 | .no x k => .no x k
def VNum (_ : World) (l : List Int) (u : Value) : Prop := u = .agg #[.int .i64 3, .string (strOfNums l), .slice none 0 0, .slice none 0 0]
def Z25 : Obj := .cells #[.int .i64 0, .string ⟨#[]⟩, .slice none 0 0, .slice none 0 0] 27 (0, 0)
structure St (w0 : World) (g : Nat) (A : Option Addr) (c : Nat) (b : List Int) (w : World) (d : Int) (wc : World) (q : Nat) : Prop where
 rs : RS w0 g A c b wc q d
 kb : KeepBut w wc g none
 zb : wc.heap[w.heap.size]? = some Z25
theorem St.drewN {w0 : World} {g : Nat} {A : Option Addr} {c : Nat} {b : List Int} {w : World} {d : Int} {wc : World} {q : Nat} (h : St w0 g A c b w d wc q) (n : Nat) : St w0 g A c b w d (wc.drewN n) q := ⟨h.rs.drewN n, kdrN h.kb n, h.zb⟩
theorem St.step {w0 : World} {g : Nat} {A : Option Addr} {c : Nat} {b : List Int} {w : World} {d : Int} {wc w2 : World} {q r : Nat} (h : St w0 g A c b w d wc q) (hg : g < w.heap.size) (hS : RS w0 g A c b w2 r d) (hK : KeepBut wc w2 g none) : St w0 g A c b w d w2 r :=
 ⟨hS, h.kb.trans hK (.inl rfl), (hK.blk h.zb (by omega) (by simp))⟩
theorem St.at1 {w0 : World} {g : Nat} {A : Option Addr} {c : Nat} {b : List Int} {w : World} {d : Int} {wc : World} {q : Nat} (h : St w0 g A c b w d wc q) (hg : g < w.heap.size) : St w0 g A c b w d (wc.setCell ⟨g, 1, none⟩ (.int .i64 ((q : Int) + 1))) (q + 1) :=
 h.step hg ((h.rs.set1 _).to (by omega) rfl) ((KeepBut.refl _ _ _).set_ _ _)
theorem info_u8 : (Tryd.prog.info? 5).map (fun i => (i.zero, i.size, i.bytes)) = some (some (.int .u8 0), 1, 1) := by kernel_rfl
theorem cut_runs {b : List Int} {A : Option Addr} {c p q : Nat} (hpq : p ≤ q) (hq : q ≤ b.length) (hc : b.length ≤ c) :
  ∃ A' : Option Addr, (∀ W : World, (Instr.slice 35 (.slice A b.length c) (some (.int .i64 p)) (some (.int .i64 q)) none).run Tryd.prog W = .ok (.slice A' (q - p) (c - p)) W) ∧
   (∀ w : World, Kd.C (Kd.int .u8) w A b.length b → (convert 35 9 (.slice A' (q - p) (c - p))).run Tryd.prog w = .ok (.string (strOfNums ((b.take q).drop p))) w) := by
 obtain ⟨i, hi, hz⟩ := Option.map_eq_some_iff.1 info_u8
 obtain ⟨A', h1, h2, h3⟩ := print_mid_int (P := Tryd.prog) (k := .u8) 35 5 Tryd.underlying35 hi (by simp at hz; exact hz.2.1) A c b (p : Int) (q : Int) (by omega) (by omega) (by omega) hc
 simp only [Int.toNat_natCast] at h1 h2 h3
 have hl : ((b.take q).drop p).length = q - p := by simp; omega
 rw [hl] at h1 h2
 refine ⟨A', h1, fun w hC => ?_⟩
 exact string_of_reads Tryd.underlying35 Tryd.underlying5 Tryd.underlying9 (h2 w (Kd.reads_of_C (enc := Value.int .u8) (d := (0 : Int)) (h1 := fun _ => rfl) hC))
set_option maxRecDepth 100000 in
set_option maxHeartbeats 1600000 in
theorem number_calls {w0 : World} {g : Nat} {A : Option Addr} {c : Nat} {b : List Int} {w : World} {d : Int} {p : Nat} (h : RS w0 g A c b w p d) (hp : p ≤ b.length) (hbc : b.length ≤ c) :
  Calls Tryd.prog 79 #[.pointer (some ⟨g, 0, none⟩)] w (Post w0 g A c b w d VNum (numberV b p)) := by
 have hsm := h.small
 have hg := h.lt
 have h1 := h.c1
 have hSt : St w0 g A c b w d (w.alloc Z25) p := ⟨h.alloc _, kal (KeepBut.refl _ _ _) _, blk_new _ _⟩
 have f1 := h.fr 1
 have hnx := next_calls (w := w.alloc Z25) (p := p) 45 (h.alloc _)
 have hn0 : Hid (Js.number b p = Js.numInt b (if Js.next b p 45 then p + 1 else p)) := rfl
 go_enter Tryd.func79, Tryd.ntmps79
 generalize hbm : Js.next b p 45 = bm at hnx hn0
 have hbm' := Lib.hid hbm; clear hbm
 go_upto_if 9 with (go_at_call 100; refine hnx.mono ?_; rintro e w' ⟨rfl, n, rfl⟩)
 clear hnx
 go_cut [] (fun wc => ∃ q, Hid (Js.number b p = Js.numInt b q) ∧ q ≤ b.length ∧ St w0 g A c b w d wc q)
 case first =>
  cases bm
  ·go_wp2_with fail
   go_meet
   case rel => exact ⟨p, hn0, hp, hSt.drewN _⟩
  ·have := Js.next_lt hbm'.out
   go_wp2_with fail
   go_meet
   case rel => exact ⟨p + 1, hn0, by omega, (hSt.drewN _).at1 hg⟩
 case rest =>
  clear hSt hn0 hbm' f1 h1
  obtain ⟨q, hq, hqb, hT⟩ := hcut
  cases hx : b[q]? with
  | none =>
   have hr : Hid (numberV b p = .no q 11) := by have := hq.out; show _ = _; simp [numberV, this, Js.numInt, hx]
   have hp1 := peek_no hT.rs hx
   clear hx hq
   go_wp2_with (go_at_call 74; refine hp1.mono ?_; rintro e w' ⟨rfl, n, rfl⟩)
   refine ⟨rfl, ?_⟩
   rw [hr.out]
   exact ⟨rfl, (hT.drewN _).rs.bel, (hT.drewN _).kb⟩
  | some x =>
   have hql : q < b.length := (List.getElem?_eq_some_iff.1 hx).1
   have hq1 : Hid (Js.number b p = if x == 48 then Js.numFrac b (q + 1) else match Js.digits b q with | .no x e => .no x e | .ok _ r => Js.numFrac b r) := by have := hq.out; show _ = _; rw [this]; simp only [Js.numInt, hx]; rfl
   have hp1 := peek_ok hT.rs hx
   clear hx hq
   have h1 := hT.rs.c1
   have f1 := hT.rs.fr 1
   go_upto_if 19 with (go_at_call 74; refine hp1.mono ?_; rintro e w' ⟨rfl, n, rfl⟩)
   clear hp1
   replace hT := hT.drewN n
   go_cut [] (fun wc => ∃ r, Hid (Js.number b p = Js.numFrac b r) ∧ r ≤ b.length ∧ St w0 g A c b w d wc r)
   case first =>
    by_cases h48 : x = 48
    ·have hn : Hid (Js.number b p = Js.numFrac b (q + 1)) := by have := hq1.out; rw [h48] at this; exact this
     replace h48 := beq_iff_eq.2 h48
     clear hq1
     go_wp2_with fail
     go_meet
     case rel => exact ⟨q + 1, hn, by omega, hT.at1 hg⟩
    ·replace h48 := beq_eq_false_iff_ne.2 h48
     cases hd : Js.digits b q with
     | no y k =>
      have hn : Hid (numberV b p = .no y k) := by have := hq1.out; rw [h48, hd] at this; show _ = _; simp [numberV, this]
      have hp2 := digits_no hT.rs hd
      clear hq1 hd
      go_wp2_with (go_at_call 101; refine hp2.mono ?_; rintro e w' ⟨rfl, hb, hK⟩)
      refine ⟨rfl, ?_⟩
      rw [hn.out]
      exact ⟨rfl, hb, hT.kb.trans hK (.inl rfl)⟩
     | ok y r =>
      have hn : Hid (Js.number b p = Js.numFrac b r) := by have := hq1.out; rw [h48, hd] at this; exact this
      have hp2 := digits_ok hT.rs hd
      have hrl := Js.digits_le hd
      clear hq1 hd
      go_wp2_with (go_at_call 101; refine hp2.mono ?_; rintro e w' ⟨rfl, hS, hK⟩)
      go_meet
      case rel => exact ⟨r, hn, hrl.2, hT.step hg hS hK⟩
   case rest =>
    clear hq1 hT h1 f1
    obtain ⟨q, hq, hqb, hT⟩ := hcut
    have hq1 : Hid (Js.number b p = if Js.next b q 46 then match Js.digits b (q + 1) with | .no x e => .no x e | .ok _ r => Js.numExp b r else Js.numExp b q) := by have := hq.out; show _ = _; rw [this]; rfl
    clear hq
    have hnx := next_calls q 46 hT.rs
    have h1 := hT.rs.c1
    have f1 := hT.rs.fr 1
    generalize hbm : Js.next b q 46 = bm at hnx hq1
    have hlt : bm = true → q < b.length := fun e => Js.next_lt (hbm.trans e)
    clear hbm
    go_upto_if 30 with (go_at_call 100; refine hnx.mono ?_; rintro e w' ⟨rfl, n, rfl⟩)
    clear hnx
    replace hT := hT.drewN n
    go_cut [] (fun wc => ∃ r, Hid (Js.number b p = Js.numExp b r) ∧ r ≤ b.length ∧ St w0 g A c b w d wc r)
    case first =>
     cases bm
     ·have hn : Hid (Js.number b p = Js.numExp b q) := hq1.out
      clear hq1
      go_wp2_with fail
      go_meet
      case rel => exact ⟨q, hn, hqb, hT⟩
     ·have hql := hlt rfl
      have hTT := hT.at1 hg
      cases hd : Js.digits b (q + 1) with
      | no y k =>
       have hn : Hid (numberV b p = .no y k) := by have := hq1.out; simp only [if_true, hd] at this; show _ = _; simp [numberV, this]
       have hp2 := digits_no hTT.rs hd
       clear hq1 hd
       go_wp2_with (go_at_call 101; refine hp2.mono ?_; rintro e w' ⟨rfl, hb, hK⟩)
       refine ⟨rfl, ?_⟩
       rw [hn.out]
       exact ⟨rfl, hb, hTT.kb.trans hK (.inl rfl)⟩
      | ok y r =>
       have hn : Hid (Js.number b p = Js.numExp b r) := by have := hq1.out; simp only [if_true, hd] at this; exact this
       have hp2 := digits_ok hTT.rs hd
       have hrl := Js.digits_le hd
       clear hq1 hd
       go_wp2_with (go_at_call 101; refine hp2.mono ?_; rintro e w' ⟨rfl, hS, hK⟩)
       go_meet
       case rel => exact ⟨r, hn, hrl.2, hTT.step hg hS hK⟩
    case rest =>
     clear hq1 hT h1 f1 hlt
     obtain ⟨q, hq, hqb, hT⟩ := hcut
     have hq1 : Hid (Js.number b p = if Js.next b q 101 || Js.next b q 69 then Js.numSign b (q + 1) else .ok () q) := by have := hq.out; show _ = _; rw [this]; rfl
     clear hq
     have hnx := next_calls q 101 hT.rs
     have hnx2 := fun n => next_calls q 69 (hT.drewN n).rs
     generalize hbm : Js.next b q 101 = bm at hnx hq1
     generalize hbm2 : Js.next b q 69 = bm2 at hnx2 hq1
     have hlt : (bm || bm2) = true → q < b.length := fun e => by
      rcases Bool.or_eq_true _ _ ▸ e with e | e
      ·exact Js.next_lt (hbm.trans e)
      ·exact Js.next_lt (hbm2.trans e)
     clear hbm hbm2
     have h1 := hT.rs.c1
     have f1 := hT.rs.fr 1
     go_upto_region 10 with fail
     go_cut [45] (fun s45 wc => s45 = .bool (bm || bm2) ∧ St w0 g A c b w d wc q)
     case first =>
      cases bm
      ·cases bm2
       all_goals
        go_wp2_with fail
        refine hnx.mono ?_
        rintro e w' ⟨rfl, n, rfl⟩
        go_wp2_with fail
        refine (hnx2 n).mono ?_
        rintro e w' ⟨rfl, m, rfl⟩
        go_wp2_with fail
        go_meet
        case rel => exact ⟨rfl, hT.drewN _⟩
      ·go_wp2_with fail
       refine hnx.mono ?_
       rintro e w' ⟨rfl, n, rfl⟩
       go_wp2_with fail
       go_meet
       case rel => exact ⟨by simp, hT.drewN _⟩
     case rest =>
      clear hnx hnx2 hT h1 f1
      obtain ⟨rfl, hT⟩ := hcut
      generalize hb3 : (bm || bm2) = b3 at hlt hq1
      clear hb3 bm bm2
      have h1 := hT.rs.c1
      have f1 := hT.rs.fr 1
      go_upto_if 45 with fail
      go_cut [] (fun wc => ∃ r, Hid (Js.number b p = .ok () r) ∧ r ≤ b.length ∧ q ≤ r ∧ St w0 g A c b w d wc r)
      case first =>
       cases b3
       ·have hn : Hid (Js.number b p = .ok () q) := hq1.out
        go_wp2_with fail
        go_meet
        case rel => exact ⟨q, hn, hqb, Nat.le_refl _, hT⟩
       ·have hql := hlt rfl
        have hTT := hT.at1 hg
        have hq2 : Hid (Js.number b p = Js.digits b (if Js.next b (q + 1) 43 || Js.next b (q + 1) 45 then q + 1 + 1 else q + 1)) := hq1.out
        clear hq1 hlt
        have hnx := next_calls (q + 1) 43 hTT.rs
        have hnx2 := fun n => next_calls (q + 1) 45 (hTT.drewN n).rs
        generalize hbm : Js.next b (q + 1) 43 = bm at hnx hq2
        generalize hbm2 : Js.next b (q + 1) 45 = bm2 at hnx2 hq2
        have hlt : (bm || bm2) = true → q + 1 < b.length := fun e => by
         rcases Bool.or_eq_true _ _ ▸ e with e | e
         ·exact Js.next_lt (hbm.trans e)
         ·exact Js.next_lt (hbm2.trans e)
        clear hbm hbm2
        go_upto_region 12 with fail
        go_cut [58] (fun s58 wc => s58 = .bool (bm || bm2) ∧ St w0 g A c b w d wc (q + 1))
        case first =>
         cases bm
         ·cases bm2
          all_goals
           go_wp2_with fail
           refine hnx.mono ?_
           rintro e w' ⟨rfl, n, rfl⟩
           go_wp2_with fail
           refine (hnx2 n).mono ?_
           rintro e w' ⟨rfl, m, rfl⟩
           go_wp2_with fail
           go_meet
           case rel => exact ⟨rfl, hTT.drewN _⟩
         ·go_wp2_with fail
          refine hnx.mono ?_
          rintro e w' ⟨rfl, n, rfl⟩
          go_wp2_with fail
          go_meet
          case rel => exact ⟨by simp, hTT.drewN _⟩
        case rest =>
         clear hnx hnx2 hT hTT h1 f1
         obtain ⟨rfl, hT⟩ := hcut
         generalize hb3 : (bm || bm2) = b3 at hlt hq2
         clear hb3 bm bm2
         have h1 := hT.rs.c1
         have f1 := hT.rs.fr 1
         go_upto_if 58 with fail
         go_cut [] (fun wc => ∃ r, Hid (Js.number b p = Js.digits b r) ∧ q ≤ r ∧ St w0 g A c b w d wc r)
         case first =>
          cases b3
          ·have hn : Hid (Js.number b p = Js.digits b (q + 1)) := hq2.out
           go_wp2_with fail
           go_meet
           case rel => exact ⟨q + 1, hn, by omega, hT⟩
          ·have hql2 := hlt rfl
           have hn : Hid (Js.number b p = Js.digits b (q + 1 + 1)) := hq2.out
           have hTT := hT.at1 hg
           go_wp2_with fail
           go_meet
           case rel => exact ⟨q + 1 + 1, hn, by omega, hTT⟩
         case rest =>
          clear hT h1 f1 hq2 hlt
          obtain ⟨r, hq, hqr, hT⟩ := hcut
          cases hd : Js.digits b r with
          | no y k =>
           have hn : Hid (numberV b p = .no y k) := by have := hq.out; show _ = _; simp [numberV, this, hd]
           have hp2 := digits_no hT.rs hd
           clear hq hd
           go_wp2_with (go_at_call 101; refine hp2.mono ?_; rintro e w' ⟨rfl, hb, hK⟩)
           refine ⟨rfl, ?_⟩
           rw [hn.out]
           exact ⟨rfl, hb, hT.kb.trans hK (.inl rfl)⟩
          | ok y s =>
           have hn : Hid (Js.number b p = .ok () s) := hq.out.trans hd
           have hp2 := digits_ok hT.rs hd
           have hrl := Js.digits_le hd
           clear hq hd
           go_wp2_with (go_at_call 101; refine hp2.mono ?_; rintro e w' ⟨rfl, hS, hK⟩)
           go_meet
           case rel => exact ⟨s, hn, hrl.2, by omega, hT.step hg hS hK⟩
      case rest =>
       clear hT h1 f1 hq1 hlt
       obtain ⟨q, hq, hqb, hqr, hT⟩ := hcut
       have hle := Js.number_le hq.out
       have hn : Hid (numberV b p = .ok ((b.take q).drop p) q) := by have := hq.out; show _ = _; simp [numberV, this]
       have h0 := hT.rs.c0
       have h1 := hT.rs.c1
       obtain ⟨A', hr1, hr2⟩ := cut_runs (A := A) (c := c) hle.1 hle.2 hbc
       have hr3 := hr2 wc.drew (Kd.C_below hT.rs.read (below_drew hT.rs.bel))
       clear hq hr2
       have hr1' := hr1 wc.drew
       clear hr1
       have hz0 : wc.cell? ⟨w.heap.size, 0, none⟩ = some (.int .i64 0) := (blk_cell hT.zb 0).trans rfl
       have hz1 : wc.cell? ⟨w.heap.size, 1, none⟩ = some (.string ⟨#[]⟩) := (blk_cell hT.zb 1).trans rfl
       have hz2 : wc.cell? ⟨w.heap.size, 2, none⟩ = some (.slice none 0 0) := (blk_cell hT.zb 2).trans rfl
       have hz3 : wc.cell? ⟨w.heap.size, 3, none⟩ = some (.slice none 0 0) := (blk_cell hT.zb 3).trans rfl
       have hzf0 := bfz hT.zb 0
       have hzf1 := bfz hT.zb 1
       have hzf2 := bfz hT.zb 2
       have hzf3 := bfz hT.zb 3
       go_wp2
       refine wp_region_still_tail 12 (by kernel_rfl) (by kernel_rfl) ?_
       simp only [List.take_succ_cons, List.take_zero, List.drop_succ_cons, List.drop_zero]
       rw [show ({ heap := wc.heap, tape := wc.tape, drawn := wc.drawn + 1, os := wc.os, output := wc.output } : World) = wc.drew from rfl]
       repeat still_step
       refine wpStill_nil ?_
       go_wp2
       have hB := blk_set (blk_set (blk_set (blk_set hT.zb 0 (.int .i64 3)) 1 (.string (strOfNums ((b.take q).drop p)))) 2 (.slice none 0 0)) 3 (.slice none 0 0)
       have hRS : RS w0 g A c b _ (q : Int) d := (((((hT.rs.far (q := ⟨w.heap.size, 0, none⟩) (Nat.ne_of_lt hg) (Nat.le_trans hT.rs.ge (Nat.le_of_lt hg)) (.int .i64 3)).far (q := ⟨w.heap.size, 1, none⟩) (Nat.ne_of_lt hg) (Nat.le_trans hT.rs.ge (Nat.le_of_lt hg)) (.string (strOfNums ((b.take q).drop p)))).far (q := ⟨w.heap.size, 2, none⟩) (Nat.ne_of_lt hg) (Nat.le_trans hT.rs.ge (Nat.le_of_lt hg)) (.slice none 0 0)).far (q := ⟨w.heap.size, 3, none⟩) (Nat.ne_of_lt hg) (Nat.le_trans hT.rs.ge (Nat.le_of_lt hg)) (.slice none 0 0)).drew)
       have hKB : KeepBut w _ g none := keep_drew (keep_far (p := ⟨w.heap.size, 3, none⟩) (keep_far (p := ⟨w.heap.size, 2, none⟩) (keep_far (p := ⟨w.heap.size, 1, none⟩) (keep_far (p := ⟨w.heap.size, 0, none⟩) hT.kb (Nat.le_refl _) (.int .i64 3)) (Nat.le_refl _) (.string (strOfNums ((b.take q).drop p)))) (Nat.le_refl _) (.slice none 0 0)) (Nat.le_refl _) (.slice none 0 0))
       replace hB := blk_drew hB
       generalize hwf : World.drew _ = wf at hB hRS hKB ⊢
       clear hwf hz0 hz1 hz2 hz3 hzf0 hzf1 hzf2 hzf3 hr3 hr1' hT
       have c0 : wf.cell? ⟨w.heap.size, 0, none⟩ = some (.int .i64 3) := (blk_cell hB 0).trans rfl
       have c1 : wf.cell? ⟨w.heap.size, 1, none⟩ = some (.string (strOfNums ((b.take q).drop p))) := (blk_cell hB 1).trans rfl
       have c2 : wf.cell? ⟨w.heap.size, 2, none⟩ = some (.slice none 0 0) := (blk_cell hB 2).trans rfl
       have c3 : wf.cell? ⟨w.heap.size, 3, none⟩ = some (.slice none 0 0) := (blk_cell hB 3).trans rfl
       refine bodyPost_ret (v := .agg #[.int .i64 3, .string (strOfNums ((b.take q).drop p)), .slice none 0 0, .slice none 0 0]) (by simp [results, Tryd.results79, go_sem, c0, c1, c2, c3]) rfl ?_
       rw [hn.out]
       exact ⟨_, rfl, rfl, hRS, hKB⟩
end Go.Proofs.YteighppcdpaekaaDoor.Rd
end
section
namespace Go.Proofs.YteighppcdpaekaaDoor.Rf
open Go.RowKit Go.Proofs.YteighppcdpaekaaDoorW.PrintWords Go.Proofs.YteighppcdpaekaaDoor Go.Proofs.YteighppcdpaekaaDoor.P
abbrev NumOut := Int × ByteArray × List ByteArray × List S44 × Int × Int × Int × Int
def numE (b : List Int) (fr : Int) (a d e B : Int) : Option NumOut := if e != 0 then some (0, ⟨#[]⟩, [], [], a, d, e, B) else if 0 ≤ fr ∧ fr ≤ a ∧ a ≤ b.length then some (3, strOfNums ((b.take a.toNat).drop fr.toNat), [], [], a, d, e, B) else none
def numX (k : Nat) (b : List Int) (fr : Int) (a d e B : Int) : Option NumOut :=
 (rR_see.f b a d e B).bind fun t => if (t.1 == 101 || t.1 == 69) = true then
   (rR_see.f b (wrap64 (t.2.1 + 1)) t.2.2.1 t.2.2.2.1 t.2.2.2.2).bind fun u =>
    (rR_digits.f k b (if (u.1 == 43 || u.1 == 45) = true then wrap64 (u.2.1 + 1) else u.2.1) u.2.2.1 u.2.2.2.1 u.2.2.2.2).bind fun v => numE b fr v.1 v.2.1 v.2.2.1 v.2.2.2
  else numE b fr t.2.1 t.2.2.1 t.2.2.2.1 t.2.2.2.2
def numD (k : Nat) (b : List Int) (fr : Int) (a d e B : Int) : Option NumOut :=
 (rR_see.f b a d e B).bind fun t =>
  (if (t.1 == 46) = true then rR_digits.f k b (wrap64 (t.2.1 + 1)) t.2.2.1 t.2.2.2.1 t.2.2.2.2 else some (t.2.1, t.2.2.1, t.2.2.2.1, t.2.2.2.2)).bind fun v => numX k b fr v.1 v.2.1 v.2.2.1 v.2.2.2
def numI (k : Nat) (b : List Int) (fr : Int) (a d e B : Int) : Option NumOut :=
 (rR_peek.f b a d e B).bind fun t =>
  (if (t.1 == 48) = true then some (wrap64 (t.2.1 + 1), t.2.2.1, t.2.2.2.1, t.2.2.2.2) else rR_digits.f k b t.2.1 t.2.2.1 t.2.2.2.1 t.2.2.2.2).bind fun v => numD k b fr v.1 v.2.1 v.2.2.1 v.2.2.2
def numF (k : Nat) (b : List Int) (a d e B : Int) : Option NumOut :=
 (rR_see.f b a d e B).bind fun t => numI k b a (if (t.1 == 45) = true then wrap64 (t.2.1 + 1) else t.2.1) t.2.2.1 t.2.2.2.1 t.2.2.2.2
theorem absP {P : Program} {c : Code} {Q : Exit → Act → World → Prop} {a : Act} {W : World} (S : World → Prop) (h : S W) (hk : ∀ W', S W' → c.wp P Q a W') : c.wp P Q a W := hk W h
def Z44 : Obj := .cells #[.int .i64 0, .string ⟨#[]⟩, .slice none 0 0, .slice none 0 0] 44 (0, 0)
structure NS (w0 w : World) (g : Nat) (b : List Int) (W : World) (a d e B : Int) : Prop where
 i : IsS96 w0 W g b a d e B
 bl : Below w0.heap.size w0 W
 k : KeepBut w W g none
 r : W.heap[w.heap.size]? = some Z44
 lt : g < w.heap.size
section
variable {w0 w : World} {g : Nat} {b : List Int} {W W' : World} {a d e B a' d' e' B' : Int}
theorem NS.call (h : NS w0 w g b W a d e B) (hi : IsS96 w0 W' g b a' d' e' B') (hb : Below w0.heap.size w0 W') (hk : KeepBut W W' g none) : NS w0 w g b W' a' d' e' B' :=
 ⟨hi, hb, h.k.trans hk (.inl rfl), (hk.2 _ (blk_lt h.r) (Nat.ne_of_gt h.lt) (by simp)).trans h.r, h.lt⟩
theorem NS.set1 (h : NS w0 w g b W a d e B) (x : Int) : NS w0 w g b (W.setCell ⟨g, 1, none⟩ (.int .i64 x)) x d e B :=
 ⟨h.i.set_1 x, below_set h.bl h.i.ge, h.k.set_ _ _, blk_far h.r (Nat.ne_of_gt h.lt) _, h.lt⟩
theorem NS.cells (h : NS w0 w g b W a d e B) : ∃ A c, W.cell? ⟨g, 0, none⟩ = some (.slice A b.length c) ∧ W.cell? ⟨g, 1, none⟩ = some (.int .i64 a) ∧ W.cell? ⟨g, 3, none⟩ = some (.int .i64 e) ∧ W.frozen? ⟨g, 1, none⟩ = false ∧ b.length ≤ c ∧ Kd.C (Kd.int .u8) W A b.length b := by
 obtain ⟨A, c, HG, hg, HC⟩ := h.i
 exact ⟨A, c, cellS96_0 HG, cellS96_1 HG, cellS96_3 HG, bfz HG 1, hg.2, Kd.C_below HC h.bl⟩
theorem NS.r0 (h : NS w0 w g b W a d e B) : W.heap[w.heap.size]? = some (.cells #[.int .i64 0, .string ⟨#[]⟩, .slice none 0 0, .slice none 0 0] 44 (0, 0)) := h.r
theorem NS.z (h : NS w0 w g b W a d e B) : W.cell? ⟨w.heap.size, 0, none⟩ = some (.int .i64 0) ∧ W.cell? ⟨w.heap.size, 1, none⟩ = some (.string ⟨#[]⟩) ∧ W.cell? ⟨w.heap.size, 2, none⟩ = some (.slice none 0 0) ∧ W.cell? ⟨w.heap.size, 3, none⟩ = some (.slice none 0 0) ∧ W.frozen? ⟨w.heap.size, 0, none⟩ = false ∧ W.frozen? ⟨w.heap.size, 1, none⟩ = false ∧ W.frozen? ⟨w.heap.size, 2, none⟩ = false ∧ W.frozen? ⟨w.heap.size, 3, none⟩ = false :=
 ⟨(blk_cell h.r0 0).trans rfl, (blk_cell h.r0 1).trans rfl, (blk_cell h.r0 2).trans rfl, (blk_cell h.r0 3).trans rfl, bfz h.r0 0, bfz h.r0 1, bfz h.r0 2, bfz h.r0 3⟩
theorem NS.fin (h : NS w0 w g b W a d e B) (x : Int) (s : ByteArray) : ∀ W', (((W.setCell ⟨w.heap.size, 0, none⟩ (.int .i64 x)).setCell ⟨w.heap.size, 1, none⟩ (.string s)).setCell ⟨w.heap.size, 2, none⟩ (.slice none 0 0)).setCell ⟨w.heap.size, 3, none⟩ (.slice none 0 0) = W' →
  IsS96 w0 W' g b a d e B ∧ Below w0.heap.size w0 W' ∧ KeepBut w W' g none ∧ W'.cell? ⟨w.heap.size, 0, none⟩ = some (.int .i64 x) ∧ W'.cell? ⟨w.heap.size, 1, none⟩ = some (.string s) ∧ W'.cell? ⟨w.heap.size, 2, none⟩ = some (.slice none 0 0) ∧ W'.cell? ⟨w.heap.size, 3, none⟩ = some (.slice none 0 0) := by
 rintro _ rfl
 have hn := Nat.ne_of_lt h.lt
 have hs : w0.heap.size ≤ w.heap.size := Nat.le_trans h.i.ge (Nat.le_of_lt h.lt)
 have hB := blk_set (blk_set (blk_set (blk_set h.r0 0 (.int .i64 x)) 1 (.string s)) 2 (.slice none 0 0)) 3 (.slice none 0 0)
 refine ⟨(((h.i.far (p := ⟨w.heap.size, 0, none⟩) hn _).far (p := ⟨w.heap.size, 1, none⟩) hn _).far (p := ⟨w.heap.size, 2, none⟩) hn _).far (p := ⟨w.heap.size, 3, none⟩) hn _, ?_, ?_, (blk_cell hB 0).trans rfl, (blk_cell hB 1).trans rfl, (blk_cell hB 2).trans rfl, (blk_cell hB 3).trans rfl⟩
 ·exact below_set (below_set (below_set (below_set h.bl hs) hs) hs) hs
 ·exact keep_far (p := ⟨w.heap.size, 3, none⟩) (keep_far (p := ⟨w.heap.size, 2, none⟩) (keep_far (p := ⟨w.heap.size, 1, none⟩) (keep_far (p := ⟨w.heap.size, 0, none⟩) h.k (Nat.le_refl _) _) (Nat.le_refl _) _) (Nat.le_refl _) _) (Nat.le_refl _) _
end
set_option maxRecDepth 100000 in
set_option maxHeartbeats 3200000 in
theorem number_calls (k g : Nat) (b : List Int) (a d e B : Int) (r : NumOut) (w0 w : World) (hI : IsS96 w0 w g b a d e B) (hB : Below w0.heap.size w0 w) (hlt : g < w.heap.size) (h : numF k b a d e B = some r) :
  Calls Tryd.prog 70 #[.pointer (some ⟨g, 0, none⟩)] w fun en w' => en = .returned (.agg #[.int .i64 r.1, .string r.2.1, .slice none 0 0, .slice none 0 0]) ∧ r.2.2.1 = [] ∧ r.2.2.2.1 = [] ∧ IsS96 w0 w' g b r.2.2.2.2.1 r.2.2.2.2.2.1 r.2.2.2.2.2.2.1 r.2.2.2.2.2.2.2 ∧ Below w0.heap.size w0 w' ∧ KeepBut w w' g none := by
 have N0 := Aside0.mk (show NS w0 w g b (w.alloc Z44) a d e B from ⟨hI.alloc _, bal hB _, kal (KeepBut.refl _ _ _) _, blk_new _ _, hlt⟩)
 have H := Aside0.mk h
 clear hI hB h
 obtain ⟨⟨c1, a1, d1, e1, B1⟩, hs, h⟩ := Option.bind_eq_some_iff.mp H.out
 clear H
 have H := Aside0.mk h
 have hse := Aside0.mk hs
 clear h hs
 go_enter Tryd.func70, Tryd.ntmps70
 go_upto_region 1 with fail
 refine absP (fun W => NS w0 w g b W a d e B) N0.out ?_
 clear N0
 intro w1 N1'
 have N1 := Aside0.mk N1'
 clear N1'
 obtain ⟨A, c, x0, x1, x3, x4, x5, x6⟩ := N1.out.cells
 go_wp2_with fail
 refine (rR_see.calls g b a d e B c1 a1 d1 e1 B1 w0 _ N1.out.i N1.out.bl hse.out).mono ?_
 rintro en w2 ⟨rfl, hi, hb, hk⟩
 have N2 := Aside0.mk (N1.out.call hi hb hk)
 clear N1 hi hb hk hse x0 x1 x3 x4 x5 x6
 obtain ⟨A2, c2, x0, x1, x3, x4, x5, x6⟩ := N2.out.cells
 have N := N2
 clear N2
 go_upto_if 11 with fail
 go_cut [] (fun wc => ∃ xa xd xe xB : Int, NS w0 w g b wc xa xd xe xB ∧ Aside0 (numI k b a xa xd xe xB = some r))
 case first =>
  rcases Bool.eq_false_or_eq_true (c1 == 45) with q1 | q1
  ·have h := H.out
   clear H
   rw [if_pos q1] at h
   have H := Aside0.mk h
   clear h
   go_wp2_with fail
   go_meet
   case rel => exact ⟨_, _, _, _, N.out.set1 _, H⟩
  ·have h := H.out
   clear H
   rw [if_neg (by rw [q1]; decide)] at h
   have H := Aside0.mk h
   clear h
   go_wp2_with fail
   go_meet
   case rel => exact ⟨_, _, _, _, N.out, H⟩
 case rest =>
  clear N H x0 x1 x3 x4 x5 x6
  obtain ⟨a2, d2, e2, B2, Nn, H⟩ := hcut
  have N := Aside0.mk Nn
  clear Nn
  obtain ⟨A41, z41, x0, x1, x3, x4, x5, x6⟩ := N.out.cells
  have h := H.out
  clear H
  unfold numI at h
  replace h := Option.bind_eq_some_iff.mp h
  obtain ⟨⟨c2, a3, d3, e3, B3⟩, hs, h⟩ := h
  have H := Aside0.mk h
  have hse := Aside0.mk hs
  clear h hs
  go_wp2_with fail
  refine (rR_peek.calls g b a2 d2 e2 B2 c2 a3 d3 e3 B3 w0 _ N.out.i N.out.bl hse.out).mono ?_
  rintro en w41 ⟨rfl, hi, hb, hk⟩
  have Nn := Aside0.mk (N.out.call hi hb hk)
  clear x0 x1 x3 x4 x5 x6 N hi hb hk hse
  have N := Nn
  clear Nn
  obtain ⟨A42, z42, x0, x1, x3, x4, x5, x6⟩ := N.out.cells
  go_upto_if 22 with fail
  go_cut [] (fun wc => ∃ xa xd xe xB : Int, NS w0 w g b wc xa xd xe xB ∧ Aside0 (numD k b a xa xd xe xB = some r))
  case first =>
   rcases Bool.eq_false_or_eq_true (c2 == 48) with q1 | q1
   ·have h := H.out
    clear H
    rw [if_pos q1] at h
    have H := Aside0.mk (show numD k b a (wrap64 (a3 + 1)) d3 e3 B3 = some r from h)
    clear h
    go_wp2_with fail
    go_meet
    case rel => exact ⟨_, _, _, _, N.out.set1 _, H⟩
   ·have h := H.out
    clear H
    rw [if_neg (by rw [q1]; decide)] at h
    have H := Aside0.mk h
    clear h
    have h := H.out
    clear H
    replace h := Option.bind_eq_some_iff.mp h
    obtain ⟨⟨u1, u2, u3, u4⟩, hs, h⟩ := h
    have hse := Aside0.mk hs
    have H := Aside0.mk h
    clear h hs
    go_wp2_with fail
    refine (rR_digits.calls k g b a3 d3 e3 B3 u1 u2 u3 u4 w0 _ N.out.i N.out.bl hse.out).mono ?_
    rintro en w42 ⟨rfl, hi, hb, hk⟩
    have Nn := Aside0.mk (N.out.call hi hb hk)
    clear x0 x1 x3 x4 x5 x6 N hi hb hk hse
    have N := Nn
    clear Nn
    obtain ⟨A43, z43, x0, x1, x3, x4, x5, x6⟩ := N.out.cells
    go_wp2_with fail
    go_meet
    case rel => exact ⟨_, _, _, _, N.out, H⟩
  case rest =>
   clear N H x0 x1 x3 x4 x5 x6
   obtain ⟨a4, d4, e4, B4, Nn, H⟩ := hcut
   have N := Aside0.mk Nn
   clear Nn
   obtain ⟨A44, z44, x0, x1, x3, x4, x5, x6⟩ := N.out.cells
   have h := H.out
   clear H
   unfold numD at h
   replace h := Option.bind_eq_some_iff.mp h
   obtain ⟨⟨c4, a5, d5, e5, B5⟩, hs, h⟩ := h
   have H := Aside0.mk h
   have hse := Aside0.mk hs
   clear h hs
   go_wp2_with fail
   refine (rR_see.calls g b a4 d4 e4 B4 c4 a5 d5 e5 B5 w0 _ N.out.i N.out.bl hse.out).mono ?_
   rintro en w44 ⟨rfl, hi, hb, hk⟩
   have Nn := Aside0.mk (N.out.call hi hb hk)
   clear x0 x1 x3 x4 x5 x6 N hi hb hk hse
   have N := Nn
   clear Nn
   obtain ⟨A45, z45, x0, x1, x3, x4, x5, x6⟩ := N.out.cells
   go_upto_if 34 with fail
   go_cut [] (fun wc => ∃ xa xd xe xB : Int, NS w0 w g b wc xa xd xe xB ∧ Aside0 (numX k b a xa xd xe xB = some r))
   case first =>
    rcases Bool.eq_false_or_eq_true (c4 == 46) with q1 | q1
    ·have h := H.out
     clear H
     rw [if_pos q1] at h
     have H := Aside0.mk h
     clear h
     go_upto_region 10 with fail
     refine absP (fun W => NS w0 w g b W (wrap64 (a5 + 1)) d5 e5 B5) (N.out.set1 _) ?_
     clear x0 x1 x3 x4 x5 x6
     clear N
     intro wn45 Nn
     have N := Aside0.mk Nn
     clear Nn
     obtain ⟨A46, z46, x0, x1, x3, x4, x5, x6⟩ := N.out.cells
     have h := H.out
     clear H
     replace h := Option.bind_eq_some_iff.mp h
     obtain ⟨⟨u1, u2, u3, u4⟩, hs, h⟩ := h
     have hse := Aside0.mk hs
     have H := Aside0.mk h
     clear h hs
     go_wp2_with fail
     refine (rR_digits.calls k g b (wrap64 (a5 + 1)) d5 e5 B5 u1 u2 u3 u4 w0 _ N.out.i N.out.bl hse.out).mono ?_
     rintro en w46 ⟨rfl, hi, hb, hk⟩
     have Nn := Aside0.mk (N.out.call hi hb hk)
     clear x0 x1 x3 x4 x5 x6 N hi hb hk hse
     have N := Nn
     clear Nn
     obtain ⟨A47, z47, x0, x1, x3, x4, x5, x6⟩ := N.out.cells
     go_wp2_with fail
     go_meet
     case rel => exact ⟨_, _, _, _, N.out, H⟩
    ·have h := H.out
     clear H
     rw [if_neg (by rw [q1]; decide)] at h
     have H := Aside0.mk (show numX k b a a5 d5 e5 B5 = some r from h)
     clear h
     go_wp2_with fail
     go_meet
     case rel => exact ⟨_, _, _, _, N.out, H⟩
   case rest =>
    clear N H x0 x1 x3 x4 x5 x6
    obtain ⟨a6, d6, e6, B6, Nn, H⟩ := hcut
    have N := Aside0.mk Nn
    clear Nn
    obtain ⟨A48, z48, x0, x1, x3, x4, x5, x6⟩ := N.out.cells
    have h := H.out
    clear H
    unfold numX at h
    replace h := Option.bind_eq_some_iff.mp h
    obtain ⟨⟨c6, a7, d7, e7, B7⟩, hs, h⟩ := h
    have H := Aside0.mk h
    have hse := Aside0.mk hs
    clear h hs
    go_wp2_with fail
    refine (rR_see.calls g b a6 d6 e6 B6 c6 a7 d7 e7 B7 w0 _ N.out.i N.out.bl hse.out).mono ?_
    rintro en w48 ⟨rfl, hi, hb, hk⟩
    have Nn := Aside0.mk (N.out.call hi hb hk)
    clear x0 x1 x3 x4 x5 x6 N hi hb hk hse
    have N := Nn
    clear Nn
    obtain ⟨A49, z49, x0, x1, x3, x4, x5, x6⟩ := N.out.cells
    go_upto_region 12 with fail
    go_cut [51] (fun sv wc => sv = .bool (c6 == 101 || c6 == 69) ∧ NS w0 w g b wc a7 d7 e7 B7)
    case first =>
     rcases (show ((c6 == 101) = true ∧ (c6 == 101 || c6 == 69) = true) ∨ ((c6 == 101) = false ∧ (c6 == 69) = true ∧ (c6 == 101 || c6 == 69) = true) ∨ ((c6 == 101) = false ∧ (c6 == 69) = false ∧ (c6 == 101 || c6 == 69) = false) from by cases (c6 == 101) <;> cases (c6 == 69) <;> simp) with ⟨q4, q5⟩ | ⟨q4, q4b, q5⟩ | ⟨q4, q4b, q5⟩
     ·go_wp2_with fail
      go_meet
      case rel => exact ⟨by rw [q5], N.out⟩
     ·go_wp2_with fail
      go_meet
      case rel => exact ⟨by rw [q5], N.out⟩
     ·go_wp2_with fail
      go_meet
      case rel => exact ⟨by rw [q5], N.out⟩
    case rest =>
     clear x0 x1 x3 x4 x5 x6 N
     obtain ⟨rfl, Nn⟩ := hcut
     have N := Aside0.mk Nn
     clear Nn
     obtain ⟨A50, z50, x0, x1, x3, x4, x5, x6⟩ := N.out.cells
     go_upto_if 51 with fail
     go_cut [] (fun wc => ∃ xa xd xe xB : Int, NS w0 w g b wc xa xd xe xB ∧ Aside0 (numE b a xa xd xe xB = some r))
     case first =>
      rcases Bool.eq_false_or_eq_true (c6 == 101 || c6 == 69) with q1 | q1
      ·have h := H.out
       clear H
       rw [if_pos q1] at h
       replace h := Option.bind_eq_some_iff.mp h
       obtain ⟨⟨c8, a9, d9, e9, B9⟩, hs, h⟩ := h
       have H := Aside0.mk h
       have hse := Aside0.mk hs
       clear h hs
       rw [q1]
       go_upto_region 14 with fail
       refine absP (fun W => NS w0 w g b W (wrap64 (a7 + 1)) d7 e7 B7) (N.out.set1 _) ?_
       clear x0 x1 x3 x4 x5 x6
       clear N
       intro wn50 Nn
       have N := Aside0.mk Nn
       clear Nn
       obtain ⟨A51, z51, x0, x1, x3, x4, x5, x6⟩ := N.out.cells
       go_wp2_with fail
       refine (rR_see.calls g b (wrap64 (a7 + 1)) d7 e7 B7 c8 a9 d9 e9 B9 w0 _ N.out.i N.out.bl hse.out).mono ?_
       rintro en w51 ⟨rfl, hi, hb, hk⟩
       have Nn := Aside0.mk (N.out.call hi hb hk)
       clear x0 x1 x3 x4 x5 x6 N hi hb hk hse
       have N := Nn
       clear Nn
       obtain ⟨A52, z52, x0, x1, x3, x4, x5, x6⟩ := N.out.cells
       go_upto_region 15 with fail
       go_cut [66] (fun sv wc => sv = .bool (c8 == 43 || c8 == 45) ∧ NS w0 w g b wc a9 d9 e9 B9)
       case first =>
        rcases (show ((c8 == 43) = true ∧ (c8 == 43 || c8 == 45) = true) ∨ ((c8 == 43) = false ∧ (c8 == 45) = true ∧ (c8 == 43 || c8 == 45) = true) ∨ ((c8 == 43) = false ∧ (c8 == 45) = false ∧ (c8 == 43 || c8 == 45) = false) from by cases (c8 == 43) <;> cases (c8 == 45) <;> simp) with ⟨q4, q5⟩ | ⟨q4, q4b, q5⟩ | ⟨q4, q4b, q5⟩
        ·go_wp2_with fail
         go_meet
         case rel => exact ⟨by rw [q5], N.out⟩
        ·go_wp2_with fail
         go_meet
         case rel => exact ⟨by rw [q5], N.out⟩
        ·go_wp2_with fail
         go_meet
         case rel => exact ⟨by rw [q5], N.out⟩
       case rest =>
        clear x0 x1 x3 x4 x5 x6 N
        obtain ⟨rfl, Nn⟩ := hcut
        have N := Aside0.mk Nn
        clear Nn
        obtain ⟨A53, z53, x0, x1, x3, x4, x5, x6⟩ := N.out.cells
        go_upto_if 66 with fail
        go_cut [] (fun wc => ∃ xa xd xe xB : Int, NS w0 w g b wc xa xd xe xB ∧ Aside0 (((rR_digits.f k b xa xd xe xB).bind fun v => numE b a v.1 v.2.1 v.2.2.1 v.2.2.2) = some r))
        case first =>
         rcases Bool.eq_false_or_eq_true (c8 == 43 || c8 == 45) with q2 | q2
         ·rw [q2]
          have h := H.out
          clear H
          rw [if_pos q2] at h
          have H := Aside0.mk h
          clear h
          go_wp2_with fail
          go_meet
          case rel => exact ⟨_, _, _, _, N.out.set1 _, H⟩
         ·rw [q2]
          have h := H.out
          clear H
          rw [if_neg (by rw [q2]; decide)] at h
          have H := Aside0.mk h
          clear h
          go_wp2_with fail
          go_meet
          case rel => exact ⟨_, _, _, _, N.out, H⟩
        case rest =>
         clear N H x0 x1 x3 x4 x5 x6
         obtain ⟨a10, d10, e10, B10, Nn, H⟩ := hcut
         have N := Aside0.mk Nn
         clear Nn
         obtain ⟨A54, z54, x0, x1, x3, x4, x5, x6⟩ := N.out.cells
         go_upto_region 17 with fail
         have h := H.out
         clear H
         replace h := Option.bind_eq_some_iff.mp h
         obtain ⟨⟨u1, u2, u3, u4⟩, hs, h⟩ := h
         have hse := Aside0.mk hs
         have H := Aside0.mk h
         clear h hs
         go_wp2_with fail
         refine (rR_digits.calls k g b a10 d10 e10 B10 u1 u2 u3 u4 w0 _ N.out.i N.out.bl hse.out).mono ?_
         rintro en w54 ⟨rfl, hi, hb, hk⟩
         have Nn := Aside0.mk (N.out.call hi hb hk)
         clear x0 x1 x3 x4 x5 x6 N hi hb hk hse
         have N := Nn
         clear Nn
         obtain ⟨A55, z55, x0, x1, x3, x4, x5, x6⟩ := N.out.cells
         go_wp2_with fail
         go_meet
         case rel => exact ⟨_, _, _, _, N.out, H⟩
      ·have h := H.out
       clear H
       rw [if_neg (by rw [q1]; decide)] at h
       have H := Aside0.mk (show numE b a a7 d7 e7 B7 = some r from h)
       clear h
       rw [q1]
       go_wp2_with fail
       go_meet
       case rel => exact ⟨_, _, _, _, N.out, H⟩
     case rest =>
      clear N H x0 x1 x3 x4 x5 x6
      obtain ⟨a8, d8, e8, B8, Nn, H⟩ := hcut
      have N := Aside0.mk Nn
      clear Nn
      obtain ⟨A56, z56, x0, x1, x3, x4, x5, x6⟩ := N.out.cells
      have h := H.out
      clear H
      unfold numE at h
      obtain ⟨hz0, hz1, hz2, hz3, hzf0, hzf1, hzf2, hzf3⟩ := N.out.z
      rcases Bool.eq_false_or_eq_true (e8 != 0) with q8 | q8
      ·rw [if_pos q8] at h
       obtain rfl := Option.some.inj h
       go_wp2_with fail
       have F := N.out.fin 0 ⟨#[]⟩ _ rfl
       clear N x0 x1 x3 x4 x5 x6 hz0 hz1 hz2 hz3 hzf0 hzf1 hzf2 hzf3
       generalize World.setCell _ _ _ = wf at F ⊢
       obtain ⟨fi, fb, fk, c0, c1, c2, c3⟩ := F
       refine bodyPost_ret (v := .agg #[.int .i64 0, .string (⟨#[]⟩), .slice none 0 0, .slice none 0 0]) (by simp [results, Tryd.results70, go_sem, c0, c1, c2, c3]) rfl ?_
       exact ⟨rfl, fi, fb, fk⟩
      ·rw [if_neg (by rw [q8]; decide)] at h
       obtain ⟨hab, h⟩ : (0 ≤ a ∧ a ≤ a8 ∧ a8 ≤ b.length) ∧ (3, strOfNums ((b.take a8.toNat).drop a.toNat), [], [], a8, d8, e8, B8) = r := by
        by_cases hc : 0 ≤ a ∧ a ≤ a8 ∧ a8 ≤ b.length
        ·rw [if_pos hc] at h
         exact ⟨hc, Option.some.inj h⟩
        ·rw [if_neg hc] at h
         simp at h
       obtain rfl := h
       obtain ⟨p, rfl⟩ := Int.eq_ofNat_of_zero_le hab.1
       obtain ⟨q, rfl⟩ := Int.eq_ofNat_of_zero_le (Int.le_trans hab.1 hab.2.1)
       have hpq : p ≤ q := by omega
       have hqb : q ≤ b.length := by omega
       clear hab
       obtain ⟨A', hr1, hr2⟩ := Rd.cut_runs (A := A56) (c := z56) hpq hqb x5
       have hr3 := hr2 wc.drew (Kd.C_below x6 (below_drew (Below.refl _ _)))
       clear hr2
       have hr1' := hr1 wc.drew
       clear hr1
       go_wp2_with fail
       refine wp_region_still_tail 12 (by kernel_rfl) (by kernel_rfl) ?_
       simp only [List.take_succ_cons, List.take_zero, List.drop_succ_cons, List.drop_zero]
       rw [show ({ heap := wc.heap, tape := wc.tape, drawn := wc.drawn + 1, os := wc.os, output := wc.output } : World) = wc.drew from rfl]
       repeat still_step
       refine wpStill_nil ?_
       go_wp2
       clear hr1' hr3
       have F := N.out.fin 3 (strOfNums ((b.take q).drop p)) _ rfl
       clear N x0 x1 x3 x4 x5 x6 hz0 hz1 hz2 hz3 hzf0 hzf1 hzf2 hzf3
       generalize World.setCell _ _ _ = wf at F ⊢
       obtain ⟨fi, fb, fk, c0, c1, c2, c3⟩ := F
       replace fi := fi.drew
       replace fb := bdr1 fb
       replace fk := keep_drew fk
       have c0 : wf.drew.cell? ⟨w.heap.size, 0, none⟩ = _ := c0
       have c1 : wf.drew.cell? ⟨w.heap.size, 1, none⟩ = _ := c1
       have c2 : wf.drew.cell? ⟨w.heap.size, 2, none⟩ = _ := c2
       have c3 : wf.drew.cell? ⟨w.heap.size, 3, none⟩ = _ := c3
       refine bodyPost_ret (v := .agg #[.int .i64 3, .string ((strOfNums ((b.take q).drop p))), .slice none 0 0, .slice none 0 0]) (by simp [results, Tryd.results70, go_sem, c0, c1, c2, c3]) rfl ?_
       exact ⟨rfl, fi, fb, fk⟩
end Go.Proofs.YteighppcdpaekaaDoor.Rf
end
section
namespace Go.Proofs.YteighppcdpaekaaDoor.Rd
open Go.RowKit Go.Proofs.YteighppcdpaekaaDoorW.PrintWords
open Go.Proofs.YteighppcdpaekaaDoor
def VKind (k : Int) (_ : World) (_ : Unit) (u : Value) : Prop := u = .agg #[.int .i64 k, .string ⟨#[]⟩, .slice none 0 0, .slice none 0 0]
theorem St.at1' {w0 : World} {g : Nat} {A : Option Addr} {c : Nat} {b : List Int} {w : World} {d : Int} {wc : World} {q r : Nat} {x : Int} (h : St w0 g A c b w d wc q) (hg : g < w.heap.size) (hx : x = r) (hr : r = q + 1) : St w0 g A c b w d (wc.setCell ⟨g, 1, none⟩ (.int .i64 x)) r := by
 subst hr; subst hx
 have := h.at1 hg
 rwa [show ((q + 1 : Nat) : Int) = (q : Int) + 1 by omega]
theorem St.stored {w0 : World} {g : Nat} {A : Option Addr} {c : Nat} {b : List Int} {w : World} {d : Int} {wc : World} {q : Nat} (h : St w0 g A c b w d wc q) (hg : g < w.heap.size) (v0 v1 v2 v3 : Value) :
  let wf := (((wc.setCell ⟨w.heap.size, 0, none⟩ v0).setCell ⟨w.heap.size, 1, none⟩ v1).setCell ⟨w.heap.size, 2, none⟩ v2).setCell ⟨w.heap.size, 3, none⟩ v3
  wf.heap[w.heap.size]? = some (.cells #[v0, v1, v2, v3] 27 (0, 0)) ∧ RS w0 g A c b wf q d ∧ KeepBut w wf g none := by
 have hge : w0.heap.size ≤ w.heap.size := Nat.le_trans h.rs.ge (Nat.le_of_lt hg)
 refine ⟨blk_set (blk_set (blk_set (blk_set h.zb 0 v0) 1 v1) 2 v2) 3 v3, ?_, ?_⟩
 ·exact (((h.rs.far (q := ⟨w.heap.size, 0, none⟩) (Nat.ne_of_lt hg) hge v0).far (q := ⟨w.heap.size, 1, none⟩) (Nat.ne_of_lt hg) hge v1).far (q := ⟨w.heap.size, 2, none⟩) (Nat.ne_of_lt hg) hge v2).far (q := ⟨w.heap.size, 3, none⟩) (Nat.ne_of_lt hg) hge v3
 ·exact keep_far (p := ⟨w.heap.size, 3, none⟩) (keep_far (p := ⟨w.heap.size, 2, none⟩) (keep_far (p := ⟨w.heap.size, 1, none⟩) (keep_far (p := ⟨w.heap.size, 0, none⟩) h.kb (Nat.le_refl _) v0) (Nat.le_refl _) v1) (Nat.le_refl _) v2) (Nat.le_refl _) v3
theorem blk4 {wf : World} {G : Nat} {v0 v1 v2 v3 : Value} {t : TypeId} (h : wf.heap[G]? = some (.cells #[v0, v1, v2, v3] t (0, 0))) :
  wf.cell? ⟨G, 0, none⟩ = some v0 ∧ wf.cell? ⟨G, 1, none⟩ = some v1 ∧ wf.cell? ⟨G, 2, none⟩ = some v2 ∧ wf.cell? ⟨G, 3, none⟩ = some v3 :=
 ⟨(blk_cell h 0).trans rfl, (blk_cell h 1).trans rfl, (blk_cell h 2).trans rfl, (blk_cell h 3).trans rfl⟩
theorem St.zero {w0 : World} {g : Nat} {A : Option Addr} {c : Nat} {b : List Int} {w : World} {d : Int} {wc : World} {q : Nat} (h : St w0 g A c b w d wc q) :
  (wc.cell? ⟨w.heap.size, 0, none⟩ = some (.int .i64 0) ∧ wc.cell? ⟨w.heap.size, 1, none⟩ = some (.string ⟨#[]⟩) ∧ wc.cell? ⟨w.heap.size, 2, none⟩ = some (.slice none 0 0) ∧ wc.cell? ⟨w.heap.size, 3, none⟩ = some (.slice none 0 0)) ∧
  (wc.frozen? ⟨w.heap.size, 0, none⟩ = false ∧ wc.frozen? ⟨w.heap.size, 1, none⟩ = false ∧ wc.frozen? ⟨w.heap.size, 2, none⟩ = false ∧ wc.frozen? ⟨w.heap.size, 3, none⟩ = false) :=
 ⟨blk4 h.zb, bfz h.zb 0, bfz h.zb 1, bfz h.zb 2, bfz h.zb 3⟩
set_option maxRecDepth 100000 in
set_option maxHeartbeats 1600000 in
theorem word_calls {w0 : World} {g : Nat} {A : Option Addr} {c : Nat} {b : List Int} {w : World} {d : Int} {p : Nat} (s : ByteArray) (hs : s.size ≤ 1000) (kind : Int) (h : RS w0 g A c b w p d) (hp : p ≤ b.length) :
  Calls Tryd.prog 78 #[.pointer (some ⟨g, 0, none⟩), .string s, .int .i64 kind] w (Post w0 g A c b w d (VKind kind) (Js.word b (bytesOf s) p)) := by
 have hsm := h.small
 have hg := h.lt
 have hSt : St w0 g A c b w d (w.alloc Z25) p := ⟨h.alloc _, kal (KeepBut.refl _ _ _) _, blk_new _ _⟩
 go_enter Tryd.func78, Tryd.ntmps78
 go_wp2_with fail
 go_loopg [10] s.size (fun kq s10 wc => ∃ k : Nat, kq + k = s.size ∧ s10 = .int .i64 k ∧ p + k ≤ b.length ∧ Hid (Js.word b (bytesOf s) p = Js.word b ((bytesOf s).drop k) (p + k)) ∧ St w0 g A c b w d wc (p + k))
 case atStart => exact ⟨0, rfl, rfl, hp, rfl, hSt⟩
 case round =>
  clear hSt h
  obtain ⟨k, hk, rfl, hpk, hw, hT⟩ := hrel
  by_cases hlt : k < s.size
  ·have hdr : (bytesOf s).drop k = ((s[k]'hlt).toNat : Int) :: (bytesOf s).drop (k + 1) := by
    rw [List.drop_eq_getElem_cons (by simp [bytesOf]; exact hlt)]
    simp [bytesOf]
    rfl
   cases hx : b[p + k]? with
   | none =>
    have hn : Hid (Js.word b (bytesOf s) p = .no (p + k) 11) := by have := hw.out; show _ = _; rw [this, hdr]; simp [Js.word, hx]
    have hp1 := peek_no hT.rs hx
    have hp2 := fun n => peek_no (hT.drewN n).rs hx
    clear hx hw hdr
    go_wp2_with fail
    go_region_with (go_at_call 74; refine (hp2 1).mono ?_; intro e w' hh; rcases e with v | ch | _; rotate_left; (obtain ⟨he, n, rfl⟩ := hh; injection he with he; subst he; refine ⟨rfl, ?_⟩; rw [hn.out]; exact ⟨rfl, ((hT.drewN 1).drewN _).rs.bel, ((hT.drewN 1).drewN _).kb⟩); (obtain ⟨he, _⟩ := hh; cases he); (obtain rfl : v = .int .u8 0 := by obtain ⟨he, _⟩ := hh; cases he))
    all_goals (obtain ⟨he, _⟩ := hh; cases he)
   | some x =>
    have hpl : p + k < b.length := (List.getElem?_eq_some_iff.1 hx).1
    have hp1 := fun n => peek_ok (hT.drewN n).rs hx
    have hn0 : Hid (Js.word b (bytesOf s) p = if x == ((s[k]'hlt).toNat : Int) then Js.word b ((bytesOf s).drop (k + 1)) (p + k + 1) else .no (p + k) 6) := by have := hw.out; show _ = _; rw [this, hdr]; simp [Js.word, hx]
    clear hx hw hdr
    have h1 := hT.rs.c1
    have f1 := hT.rs.fr 1
    by_cases hxe : x = ((s[k]'hlt).toNat : Int)
    ·have hn : Hid (Js.word b (bytesOf s) p = Js.word b ((bytesOf s).drop (k + 1)) (p + (k + 1))) := by have := hn0.out; rw [if_pos (by simpa using hxe)] at this; exact this
     have hxb : (x != ((s[k]'hlt).toNat : Int)) = false := by simpa using hxe
     clear hxe hn0
     obtain ⟨k1, rfl⟩ : ∃ k1, gk = k1 + 1 := ⟨gk - 1, by omega⟩
     go_wp2_with fail
     go_quiet ((go_at_call 74; exact Calls.quiet_of (hp1 _)))
     go_wp2_with fail
     go_roundg k1
     case measure => omega
     case rel => exact ⟨k + 1, by omega, by go_num, by omega, hn, (hT.drewN _).at1' hg (by omega) (by omega)⟩
    ·have hn : Hid (Js.word b (bytesOf s) p = .no (p + k) 6) := by have := hn0.out; rw [if_neg (by simpa using hxe)] at this; exact this
     have hxb : (x != ((s[k]'hlt).toNat : Int)) = true := by simpa using hxe
     clear hxe hn0
     go_wp2_with fail
     go_quiet ((go_at_call 74; exact Calls.quiet_of (hp1 _)))
     go_wp2_with (go_at_call 60; refine (fail_calls _ (hT.drewN _).rs).mono ?_; rintro e w' ⟨rfl, rfl⟩)
     refine ⟨rfl, ?_⟩
     rw [hn.out]
     exact ⟨rfl, (hT.drewN _).rs.bel, (hT.drewN _).kb⟩
  ·obtain rfl : k = s.size := by omega
   have hn : Hid (Js.word b (bytesOf s) p = .ok () (p + s.size)) := by have := hw.out; show _ = _; rw [this, List.drop_eq_nil_of_le (by simp [bytesOf])]; rfl
   clear hw
   obtain ⟨⟨z0, z1, z2, z3⟩, y0, y1, y2, y3⟩ := hT.zero
   have hF := hT.stored hg (.int .i64 kind) (.string ⟨#[]⟩) (.slice none 0 0) (.slice none 0 0)
   have hF' := Lib.hid hF; clear hF
   go_wp2
   obtain ⟨hB, hRS, hKB⟩ := hF'.out
   clear hF' z0 z1 z2 z3 y0 y1 y2 y3 hT
   generalize hwf : World.setCell _ _ _ = wf at hB hRS hKB ⊢
   clear hwf
   obtain ⟨c0, c1, c2, c3⟩ := blk4 hB
   refine bodyPost_ret (v := .agg #[.int .i64 kind, .string ⟨#[]⟩, .slice none 0 0, .slice none 0 0]) (by simp [results, Tryd.results78, go_sem, c0, c1, c2, c3]) rfl ?_
   rw [hn.out]
   exact ⟨_, rfl, rfl, hRS, hKB⟩
end Go.Proofs.YteighppcdpaekaaDoor.Rd
end
