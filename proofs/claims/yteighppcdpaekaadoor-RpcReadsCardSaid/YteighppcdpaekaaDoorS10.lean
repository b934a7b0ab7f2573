/- Walks and words of this session, put together by a program of this session (pack.py). Conditions: as each text says. -/
import Derived.Lib.ItoaNum
import Derived.Lib.AtoiTie
import Derived.Lib.SlBytesConst
import Derived.Test.YteighppcdpaekaaDoorS2
import Derived.Test.YteighppcdpaekaaDoorS5
import Derived.Test.YteighppcdpaekaaDoorS6
import Derived.Test.YteighppcdpaekaaDoorS9
set_option linter.unusedVariables false
set_option linter.unusedSimpArgs false
section
namespace Go.Proofs.YteighppcdpaekaaDoor.Rf
open Go.RowKit Go.Proofs.YteighppcdpaekaaDoorW.PrintWords Go.Proofs.YteighppcdpaekaaDoor Go.Proofs.YteighppcdpaekaaDoor.P
open Go.Proofs.YteighppcdpaekaaDoor.Js (letterLen contO val3 val4 V rd_of rd_get)
variable {b : List Int} {p : Nat}
theorem nums_inj : ∀ {x y : List Int}, (∀ c ∈ x, 0 ≤ c ∧ c ≤ 255) → (∀ c ∈ y, 0 ≤ c ∧ c ≤ 255) → x.map (fun c => UInt8.ofNat c.toNat) = y.map (fun c => UInt8.ofNat c.toNat) → x = y
 | [], [], _, _, _ => rfl
 | [], _ :: _, _, _, h => by simp at h
 | _ :: _, [], _, _, h => by simp at h
 | a :: x, c :: y, hx, hy, h => by
  simp only [List.map_cons, List.cons.injEq] at h;have ha := hx a (by simp);have hc := hy c (by simp)
  have e : a.toNat % 256 = c.toNat % 256 := by simpa using congrArg UInt8.toNat h.1
  rw [nums_inj (fun z hz => hx z (by simp [hz])) (fun z hz => hy z (by simp [hz])) h.2, show a = c by omega]
theorem strs_inj {x y : List Int} (hx : ∀ c ∈ x, 0 ≤ c ∧ c ≤ 255) (hy : ∀ c ∈ y, 0 ≤ c ∧ c ≤ 255) (h : (strOfNums x).toList = (strOfNums y).toList) : x = y := by
 rw [ByteArray.toList_eq, ByteArray.toList_eq] at h;exact nums_inj hx hy (by simpa [strOfNums] using h)
def encP (x : Int) : List Int × Int :=
 if x < 0 ∨ x > 1114111 ∨ (55296 ≤ x ∧ x ≤ 57343) then ([], 10)
 else if x < 128 then ([x], 0)
 else if x < 2048 then ([192 + x / 64, 128 + x % 64], 0)
 else if x < 65536 then ([224 + x / 4096, 128 + x / 64 % 64, 128 + x % 64], 0)
 else ([240 + x / 262144, 128 + x / 4096 % 64, 128 + x / 64 % 64, 128 + x % 64], 0)
theorem w64s {x : Int} (h0 : -9223372036854775808 ≤ x) (h1 : x < 9223372036854775808) : wrap64 x = x := by unfold wrap64; omega
theorem enc_val (x : Int) : Ev (fun k => R3q_Encode.f k x) (encP x) := by
 have jt : Ev (fun k => R3q_Encode.j0 k x true) ([], 10) := Ev.step (fun k => rfl) (Ev.now _);unfold R3q_Encode.f encP;by_cases h0 : x < 0
 ·rw [if_pos (.inl h0)]; exact evT h0 jt
 by_cases h1 : x > 1114111
 ·rw [if_pos (.inr (.inl h1))]; exact evF h0 (evT h1 jt)
 have jf : Ev (fun k => R3q_Encode.j0 k x false) (if x < 128 then ([x], 0) else if x < 2048 then ([192 + x / 64, 128 + x % 64], 0) else if x < 65536 then ([224 + x / 4096, 128 + x / 64 % 64, 128 + x % 64], 0) else ([240 + x / 262144, 128 + x / 4096 % 64, 128 + x / 64 % 64, 128 + x % 64], 0)) := by
  have d : ∀ m : Int, Int.tdiv x m = x / m := fun m => Int.tdiv_eq_ediv_of_nonneg (by omega)
  have dm : Int.tmod x 64 = x % 64 := Int.tmod_eq_emod_of_nonneg (by omega)
  have dw : ∀ m : Int, 0 < m → wrap64 (x / m) = x / m := fun m hm => w64s (by have := Int.ediv_nonneg (show 0 ≤ x by omega) (Int.le_of_lt hm); omega) (by have := Int.ediv_le_self (a := x) m (by omega); omega)
  have dmm : ∀ m : Int, 0 < m → Int.tmod (x / m) 64 = x / m % 64 := fun m hm => Int.tmod_eq_emod_of_nonneg (Int.ediv_nonneg (by omega) (Int.le_of_lt hm))
  refine Ev.step (fun k => rfl) ?_;simp only [R3q_Encode.j0, Bool.false_eq_true, if_false];by_cases c1 : x < 128
  ·simp only [if_pos c1]
   rw [show x % 256 = x by omega];exact Ev.now _
  simp only [if_neg c1];by_cases c2 : x < 2048
  ·simp only [if_pos c2]
   rw [d, dm, dw 64 (by omega), w64s (by omega) (by omega), w64s (by omega) (by omega), show (192 + x / 64) % 256 = 192 + x / 64 by omega, show (128 + x % 64) % 256 = 128 + x % 64 by omega];exact Ev.now _
  simp only [if_neg c2];by_cases c3 : x < 65536
  ·simp only [if_pos c3]
   rw [d, d, dm, dw 64 (by omega), dw 4096 (by omega), dmm 64 (by omega), w64s (x := 224 + x / 4096) (by omega) (by omega), w64s (x := 128 + x / 64 % 64) (by omega) (by omega), w64s (x := 128 + x % 64) (by omega) (by omega), show (224 + x / 4096) % 256 = 224 + x / 4096 by omega, show (128 + x / 64 % 64) % 256 = 128 + x / 64 % 64 by omega, show (128 + x % 64) % 256 = 128 + x % 64 by omega];exact Ev.now _
  simp only [if_neg c3];rw [d, d, d, dm, dw 64 (by omega), dw 4096 (by omega), dw 262144 (by omega), dmm 64 (by omega), dmm 4096 (by omega), w64s (x := 240 + x / 262144) (by omega) (by omega), w64s (x := 128 + x / 4096 % 64) (by omega) (by omega), w64s (x := 128 + x / 64 % 64) (by omega) (by omega), w64s (x := 128 + x % 64) (by omega) (by omega), show (240 + x / 262144) % 256 = 240 + x / 262144 by omega, show (128 + x / 4096 % 64) % 256 = 128 + x / 4096 % 64 by omega, show (128 + x / 64 % 64) % 256 = 128 + x / 64 % 64 by omega, show (128 + x % 64) % 256 = 128 + x % 64 by omega];exact Ev.now _
 by_cases h2 : x ≥ 55296
 ·by_cases h3 : x ≤ 57343
  ·rw [if_pos (.inr (.inr ⟨h2, h3⟩))]
   refine evF h0 (evF h1 (evT h2 ?_));rw [decide_eq_true h3];exact jt
  ·rw [if_neg (by omega)]
   refine evF h0 (evF h1 (evT h2 ?_));rw [decide_eq_false h3];exact jf
 ·rw [if_neg (by omega)]
  exact evF h0 (evF h1 (evF h2 jf))
theorem enc_bytes (x : Int) : ∀ c ∈ (encP x).1, 0 ≤ c ∧ c ≤ 255 := by
 unfold encP
 split
 ·simp
 split
 ·simp; omega
 split
 ·simp; omega
 split
 ·simp; omega
 ·simp; omega
theorem one_tail (hb : Bs b) {n : Nat} (hn : 1 ≤ n) (hn4 : n ≤ 4) (hpn : p + n ≤ b.length) {x : Int} :
  (encP x = ((b.take (p + n)).drop p, 0) → Ev (fun k => R3q_One.l1 k b p n x n) (x, (n : Int))) ∧
  (encP x ≠ ((b.take (p + n)).drop p, 0) → ∀ r, Ev (fun k => R3q_One.l0 k b p ((n + 1 : Nat) : Int)) r → Ev (fun k => R3q_One.l1 k b p n x n) r) := by
 have hl := hb.2;have hw : wrap64 ((p : Int) + (n : Int)) = ((p + n : Nat) : Int) := w64k (by omega) (by omega);have hw2 : wrap64 ((n : Int) + 1) = ((n + 1 : Nat) : Int) := w64n (by omega)
 have hB : ∀ c ∈ (b.take (p + n)).drop p, 0 ≤ c ∧ c ≤ 255 := fun c hc => hb.1 c (List.mem_of_mem_take (List.mem_of_mem_drop hc))
 refine ⟨fun h => ?_, fun h r hr => ?_⟩
 ·refine Ev.step (fun k => rfl) (evF (by omega) (Ev.bind (enc_val x) ?_))
  refine evT (by rw [h]) (evT (by omega) (evT (by rw [hw]; omega) (evT (by rw [hw]; omega) (evT ?_ (Ev.now _)))));rw [hw, h]
  rfl
 ·refine Ev.step (fun k => rfl) (evF (by omega) (Ev.bind (enc_val x) ?_))
  rw [hw2, hw];by_cases h0 : (encP x).2 = 0
  ·refine evT h0 (evT (by omega) (evT (by omega) (evT (by omega) (evF (fun e => ?_) hr))))
   have e2 := strs_inj (enc_bytes x) hB e;exact h (Prod.ext e2 h0)
  ·exact evF h0 hr
theorem one_round (hb : Bs b) {n i : Nat} (hi : i < n) (hn4 : n ≤ 4) (hpn : p + n ≤ b.length) {x : Int} (hx : -1000000000 ≤ x ∧ x ≤ 1000000000) {c : Int} (hc : b[p + i]? = some c) {r : Int × Int}
  (h : Ev (fun k => R3q_One.l1 k b p n (x * 64 + c - 128) ((i + 1 : Nat) : Int)) r) : Ev (fun k => R3q_One.l1 k b p n x (i : Int)) r := by
 have hl := hb.2;have hw : wrap64 ((p : Int) + (i : Int)) = ((p + i : Nat) : Int) := w64k (by omega) (by omega);have hw2 : wrap64 ((i : Int) + 1) = ((i + 1 : Nat) : Int) := w64n (by omega);have hcb := hb.1 c (List.mem_of_getElem? hc);refine Ev.step (fun k => rfl) (evT (by omega) (evT (by rw [hw]; omega) (evT (by rw [hw]; omega) ?_)));rw [hw, hw2, rd_of hc, w64s (x := c) (by omega) (by omega), w64s (x := x * 64) (by omega) (by omega), w64s (x := x * 64 + c) (by omega) (by omega), w64s (x := x * 64 + c - 128) (by omega) (by omega)];exact h
theorem j4_of {q m x : Int} {r : Int × Int} (h : Ev (fun k => R3q_One.l1 k b q m x 1) r) : Ev (fun k => R3q_One.j4 k b q m x) r := Ev.step (fun k => rfl) h
theorem j3_of {q m x : Int} {r : Int × Int} (h : Ev (fun k => R3q_One.j4 k b q m (if m = 4 then wrap64 (x - 240) else x)) r) : Ev (fun k => R3q_One.j3 k b q m x) r := by
 refine Ev.step (f := fun k => if m = 4 then R3q_One.j4 k b q m (wrap64 (x - 240)) else R3q_One.j4 k b q m x) (fun k => rfl) ?_;by_cases c : m = 4
 ·simp only [if_pos c] at h ⊢; exact h
 ·simp only [if_neg c] at h ⊢; exact h
theorem j2_of {q m x : Int} {r : Int × Int} (h : Ev (fun k => R3q_One.j3 k b q m (if m = 3 then wrap64 (x - 224) else x)) r) : Ev (fun k => R3q_One.j2 k b q m x) r := by
 refine Ev.step (f := fun k => if m = 3 then R3q_One.j3 k b q m (wrap64 (x - 224)) else R3q_One.j3 k b q m x) (fun k => rfl) ?_;by_cases c : m = 3
 ·simp only [if_pos c] at h ⊢; exact h
 ·simp only [if_neg c] at h ⊢; exact h
theorem one_head (hb : Bs b) {n : Nat} (hn : 1 ≤ n) (hn4 : n ≤ 4) (hpn : p + n ≤ b.length) {c : Int} (hc : b[p]? = some c) {x : Int} (hx : x = if n = 2 then c - 192 else if n = 3 then c - 224 else if n = 4 then c - 240 else c) {r : Int × Int}
  (h : Ev (fun k => R3q_One.l1 k b p n x 1) r) : Ev (fun k => R3q_One.l0 k b p (n : Int)) r := by
 have hl := hb.2;have hcb := hb.1 c (List.mem_of_getElem? hc);have hw : wrap64 ((p : Int) + (n : Int)) = ((p + n : Nat) : Int) := w64k (by omega) (by omega);have w0 : wrap64 c = c := w64s (by omega) (by omega);have w2 : wrap64 (c - 192) = c - 192 := w64s (by omega) (by omega);have w3 : wrap64 (c - 224) = c - 224 := w64s (by omega) (by omega);have w4 : wrap64 (c - 240) = c - 240 := w64s (by omega) (by omega);have hr : rd b (p : Int) = c := rd_of hc;refine Ev.step (fun k => rfl) (evT (by omega) ?_);rw [hw, decide_eq_true (show ((p + n : Nat) : Int) ≤ (b.length : Int) by omega)];refine Ev.step (fun k => rfl) ?_;simp only [R3q_One.j1, if_true];refine evT (by omega) (evT (by omega) ?_);rw [hr, w0, w2]
 have last : ∀ y : Int, (if (n : Int) = 4 then wrap64 ((if (n : Int) = 3 then wrap64 (y - 224) else y) - 240) else (if (n : Int) = 3 then wrap64 (y - 224) else y)) = x → Ev (fun k => R3q_One.j2 k b p n y) r := fun y hy => j2_of (j3_of (j4_of (by rw [hy]; exact h)))
 by_cases h2 : n = 2
 ·exact evT (by omega) (last _ (by rw [if_neg (by omega), if_neg (by omega), hx, if_pos h2]))
 ·refine evF (by omega) (last _ ?_)
  rw [hx, if_neg h2];by_cases h3 : n = 3
  ·rw [if_neg (by omega), if_pos (by omega), if_pos h3, w3]
  ·rw [if_neg h3, if_neg (show ¬ (n : Int) = 3 by omega)]
   by_cases h4 : n = 4
   ·rw [if_pos (by omega), if_pos h4, w4]
   ·rw [if_neg (by omega), if_neg h4]
theorem one_none (hb : Bs b) {n : Nat} (hn4 : n ≤ 5) (h : n = 5 ∨ b.length < p + n) (hp : p < b.length) : Ev (fun k => R3q_One.l0 k b p (n : Int)) (-1, 0) := by
 have hl := hb.2;have hw : wrap64 ((p : Int) + (n : Int)) = ((p + n : Nat) : Int) := w64k (by omega) (by omega);have j : Ev (fun k => R3q_One.j1 k b p n false) (-1, 0) := Ev.step (fun k => rfl) (Ev.now _);refine Ev.step (fun k => rfl) ?_;by_cases h5 : n = 5
 ·exact evF (by omega) j
 ·refine evT (by omega) ?_
  rw [hw, decide_eq_false (by omega)];exact j
theorem enc1 {c : Int} (h : 0 ≤ c ∧ c ≤ 255) : encP c = ([c], 0) ↔ c < 128 := by
 unfold encP
 constructor
 ·intro e
  split at e
  ·simp at e
  split at e
  ·assumption
  split at e
  ·simp at e
  split at e <;> simp at e
 ·intro e
  rw [if_neg (by omega), if_pos e]
theorem enc2 {c d : Int} (h : 0 ≤ c ∧ c ≤ 255) (h1 : 0 ≤ d ∧ d ≤ 255) : encP ((c - 192) * 64 + d - 128) = ([c, d], 0) ↔ (194 ≤ c ∧ c ≤ 223) ∧ 128 ≤ d ∧ d ≤ 191 := by
 unfold encP
 constructor
 ·intro e
  split at e
  ·simp at e
  split at e
  ·simp at e
  split at e
  ·simp at e; omega
  split at e <;> simp at e
 ·intro e
  rw [if_neg (by omega), if_neg (by omega), if_pos (by omega)]
  simp; omega
theorem enc3 {c d f : Int} (h : 0 ≤ c ∧ c ≤ 255) (h1 : 0 ≤ d ∧ d ≤ 255) (h2 : 0 ≤ f ∧ f ≤ 255) : encP (((c - 224) * 64 + d - 128) * 64 + f - 128) = ([c, d, f], 0) ↔
  (224 ≤ c ∧ c ≤ 239) ∧ (128 ≤ d ∧ d ≤ 191) ∧ (128 ≤ f ∧ f ≤ 191) ∧ 2048 ≤ c % 16 * 4096 + d % 64 * 64 + f % 64 ∧ (c % 16 * 4096 + d % 64 * 64 + f % 64 < 55296 ∨ 57343 < c % 16 * 4096 + d % 64 * 64 + f % 64) := by
 unfold encP
 constructor
 ·intro e
  split at e
  ·simp at e
  split at e
  ·simp at e
  split at e
  ·simp at e
  split at e
  ·simp at e; omega
  ·simp at e
 ·intro e
  rw [if_neg (by omega), if_neg (by omega), if_neg (by omega), if_pos (by omega)]
  simp; omega
theorem enc4 {c d f g : Int} (h : 0 ≤ c ∧ c ≤ 255) (h1 : 0 ≤ d ∧ d ≤ 255) (h2 : 0 ≤ f ∧ f ≤ 255) (h3 : 0 ≤ g ∧ g ≤ 255) : encP ((((c - 240) * 64 + d - 128) * 64 + f - 128) * 64 + g - 128) = ([c, d, f, g], 0) ↔
  (240 ≤ c ∧ c ≤ 244) ∧ (128 ≤ d ∧ d ≤ 191) ∧ (128 ≤ f ∧ f ≤ 191) ∧ (128 ≤ g ∧ g ≤ 191) ∧ 65536 ≤ c % 8 * 262144 + d % 64 * 4096 + f % 64 * 64 + g % 64 ∧ c % 8 * 262144 + d % 64 * 4096 + f % 64 * 64 + g % 64 ≤ 1114111 := by
 unfold encP
 constructor
 ·intro e
  split at e
  ·simp at e
  split at e
  ·simp at e
  split at e
  ·simp at e
  split at e
  ·simp at e
  ·simp at e; omega
 ·intro e
  rw [if_neg (by omega), if_neg (by omega), if_neg (by omega), if_neg (by omega)]
  simp; omega
theorem one_val (hb : Bs b) (hp : p < b.length) : ∃ r, Ev (fun k => R3q_One.f k b p) (r, (letterLen (b.drop p) : Int)) ∧ (letterLen (b.drop p) ≠ 0 → 0 ≤ r) := by
 have hl := hb.2
 have D : ∀ i : Nat, (b.drop p)[i]? = b[p + i]? := fun i => List.getElem?_drop
 have some_ : ∀ i : Nat, p + i < b.length → ∃ c, b[p + i]? = some c ∧ 0 ≤ c ∧ c ≤ 255 := fun i hi => ⟨_, List.getElem?_eq_getElem hi, hb.1 _ (List.getElem_mem hi)⟩
 have none_ : ∀ i : Nat, ¬ p + i < b.length → b[p + i]? = none := fun i hi => List.getElem?_eq_none (by omega)
 have cut : ∀ n : Nat, (b.take (p + n)).drop p = (b.drop p).take n := fun n => by rw [List.drop_take]; congr 1; omega
 obtain ⟨c, hc, hcb⟩ := some_ 0 hp;have hc0 : b[p]? = some c := hc;unfold R3q_One.f
 have dr : ∀ n, b.drop p = (b.drop p).take n ++ (b.drop p).drop n := fun n => (List.take_append_drop n _).symm
 have t1 : (b.take (p + 1)).drop p = [c] := by
  rw [cut]; apply List.ext_getElem?; intro i
  match i with
  | 0 => rw [List.getElem?_take, if_pos (by omega), D, hc]; rfl
  | i + 1 => rw [List.getElem?_take, if_neg (by omega)]; rfl
 by_cases q1 : c < 128
 ·have L : letterLen (b.drop p) = 1 := by unfold letterLen; rw [D, hc]; simp only; rw [if_pos q1]
  rw [L];exact ⟨c, one_head hb (n := 1) (by omega) (by omega) (by omega) hc0 (by simp) ((one_tail hb (n := 1) (by omega) (by omega) (by omega)).1 (by rw [t1]; exact (enc1 hcb).2 q1)), fun _ => hcb.1⟩
 have g1 : ∀ r, Ev (fun k => R3q_One.l0 k b p 2) r → Ev (fun k => R3q_One.l0 k b p 1) r := fun r hr =>
  one_head hb (n := 1) (by omega) (by omega) (by omega) hc0 (by simp) ((one_tail hb (n := 1) (x := c) (by omega) (by omega) (by omega)).2 (by rw [t1]; exact fun e => q1 ((enc1 hcb).1 e)) r hr)
 by_cases p1 : p + 1 < b.length
 case neg =>
  have L : letterLen (b.drop p) = 0 := by
   simp only [letterLen, D, hc, none_ 1 p1, contO, if_neg q1, Bool.false_eq_true, false_and, if_false, ite_self]
  rw [L];exact ⟨-1, g1 _ (one_none hb (n := 2) (by omega) (.inr (by omega)) hp), fun h => absurd rfl h⟩
 obtain ⟨d, hd, hdb⟩ := some_ 1 p1
 have t2 : (b.take (p + 2)).drop p = [c, d] := by
  rw [cut]; apply List.ext_getElem?; intro i
  match i with
  | 0 => rw [List.getElem?_take, if_pos (by omega), D, hc]; rfl
  | 1 => rw [List.getElem?_take, if_pos (by omega), D, hd]; rfl
  | i + 2 => rw [List.getElem?_take, if_neg (by omega)]; rfl
 by_cases q2 : (194 ≤ c ∧ c ≤ 223) ∧ 128 ≤ d ∧ d ≤ 191
 ·have L : letterLen (b.drop p) = 2 := by
   simp only [letterLen, D, hc, hd, contO, if_neg q1, if_pos q2.1, Bool.and_eq_true, decide_eq_true_eq, if_pos q2.2]
  rw [L];exact ⟨_, g1 _ (one_head hb (n := 2) (by omega) (by omega) (by omega) hc0 (x := c - 192) (by simp) (one_round hb (n := 2) (i := 1) (by omega) (by omega) (by omega) (by omega) hd ((one_tail hb (n := 2) (by omega) (by omega) (by omega)).1 (by rw [t2]; exact (enc2 hcb hdb).2 q2)))), fun _ => by omega⟩
 have g2 : ∀ r, Ev (fun k => R3q_One.l0 k b p 3) r → Ev (fun k => R3q_One.l0 k b p 1) r := fun r hr =>
  g1 _ (one_head hb (n := 2) (by omega) (by omega) (by omega) hc0 (x := c - 192) (by simp) (one_round hb (n := 2) (i := 1) (by omega) (by omega) (by omega) (by omega) hd ((one_tail hb (n := 2) (x := (c - 192) * 64 + d - 128) (by omega) (by omega) (by omega)).2 (by rw [t2]; exact fun e => q2 ((enc2 hcb hdb).1 e)) r hr)))
 by_cases p2 : p + 2 < b.length
 case neg =>
  have L : letterLen (b.drop p) = 0 := by
   simp only [letterLen, D, hc, hd, none_ 2 p2, contO, if_neg q1, Bool.and_eq_true, decide_eq_true_eq, Bool.false_eq_true, false_and, and_false, if_false, ite_self];by_cases z : 194 ≤ c ∧ c ≤ 223
   ·rw [if_pos z, if_neg (fun e => q2 ⟨z, e⟩)]
   ·rw [if_neg z]
  rw [L];exact ⟨-1, g2 _ (one_none hb (n := 3) (by omega) (.inr (by omega)) hp), fun h => absurd rfl h⟩
 obtain ⟨f, hf, hfb⟩ := some_ 2 p2
 have v3 : val3 (b.drop p) = c % 16 * 4096 + d % 64 * 64 + f % 64 := by
  unfold val3;rw [show rd (b.drop p) 0 = c from rd_of (i := 0) ((D 0).trans hc), show rd (b.drop p) 1 = d from rd_of (i := 1) ((D 1).trans hd), show rd (b.drop p) 2 = f from rd_of (i := 2) ((D 2).trans hf)]
 have t3 : (b.take (p + 3)).drop p = [c, d, f] := by
  rw [cut]; apply List.ext_getElem?; intro i
  match i with
  | 0 => rw [List.getElem?_take, if_pos (by omega), D, hc]; rfl
  | 1 => rw [List.getElem?_take, if_pos (by omega), D, hd]; rfl
  | 2 => rw [List.getElem?_take, if_pos (by omega), D, hf]; rfl
  | i + 3 => rw [List.getElem?_take, if_neg (by omega)]; rfl
 have r3 : ∀ r, Ev (fun k => R3q_One.l1 k b p (3 : Nat) (((c - 224) * 64 + d - 128) * 64 + f - 128) (3 : Nat)) r → Ev (fun k => R3q_One.l0 k b p 3) r := fun r hr =>
  one_head hb (n := 3) (by omega) (by omega) (by omega) hc0 (x := c - 224) (by simp) (one_round hb (n := 3) (i := 1) (by omega) (by omega) (by omega) (by omega) hd (one_round hb (n := 3) (i := 2) (by omega) (by omega) (by omega) (by omega) hf hr))
 by_cases q3 : (224 ≤ c ∧ c ≤ 239) ∧ (128 ≤ d ∧ d ≤ 191) ∧ (128 ≤ f ∧ f ≤ 191) ∧ 2048 ≤ c % 16 * 4096 + d % 64 * 64 + f % 64 ∧ (c % 16 * 4096 + d % 64 * 64 + f % 64 < 55296 ∨ 57343 < c % 16 * 4096 + d % 64 * 64 + f % 64)
 ·have L : letterLen (b.drop p) = 3 := by
   simp only [letterLen, D, hc, hd, hf, contO, v3, if_neg q1, Bool.and_eq_true, decide_eq_true_eq];rw [if_neg (by omega), if_pos q3.1, if_pos q3.2]
  rw [L];exact ⟨_, g2 _ (r3 _ ((one_tail hb (n := 3) (by omega) (by omega) (by omega)).1 (by rw [t3]; exact (enc3 hcb hdb hfb).2 q3))), fun _ => by omega⟩
 have g3 : ∀ r, Ev (fun k => R3q_One.l0 k b p 4) r → Ev (fun k => R3q_One.l0 k b p 1) r := fun r hr =>
  g2 _ (r3 _ ((one_tail hb (n := 3) (by omega) (by omega) (by omega)).2 (by rw [t3]; exact fun e => q3 ((enc3 hcb hdb hfb).1 e)) r hr))
 by_cases p3 : p + 3 < b.length
 case neg =>
  have L : letterLen (b.drop p) = 0 := by
   simp only [letterLen, D, hc, hd, hf, none_ 3 p3, contO, v3, if_neg q1, Bool.and_eq_true, decide_eq_true_eq, Bool.false_eq_true, false_and, and_false, if_false, ite_self];by_cases z : 194 ≤ c ∧ c ≤ 223
   ·rw [if_pos z, if_neg (fun e => q2 ⟨z, e⟩)]
   ·rw [if_neg z]
    by_cases z : 224 ≤ c ∧ c ≤ 239
    ·rw [if_pos z, if_neg (fun e => q3 ⟨z, e⟩)]
    ·rw [if_neg z]
  rw [L];exact ⟨-1, g3 _ (one_none hb (n := 4) (by omega) (.inr (by omega)) hp), fun h => absurd rfl h⟩
 obtain ⟨g, hg, hgb⟩ := some_ 3 p3
 have v4 : val4 (b.drop p) = c % 8 * 262144 + d % 64 * 4096 + f % 64 * 64 + g % 64 := by
  unfold val4;rw [show rd (b.drop p) 0 = c from rd_of (i := 0) ((D 0).trans hc), show rd (b.drop p) 1 = d from rd_of (i := 1) ((D 1).trans hd), show rd (b.drop p) 2 = f from rd_of (i := 2) ((D 2).trans hf), show rd (b.drop p) 3 = g from rd_of (i := 3) ((D 3).trans hg)]
 have t4 : (b.take (p + 4)).drop p = [c, d, f, g] := by
  rw [cut]; apply List.ext_getElem?; intro i
  match i with
  | 0 => rw [List.getElem?_take, if_pos (by omega), D, hc]; rfl
  | 1 => rw [List.getElem?_take, if_pos (by omega), D, hd]; rfl
  | 2 => rw [List.getElem?_take, if_pos (by omega), D, hf]; rfl
  | 3 => rw [List.getElem?_take, if_pos (by omega), D, hg]; rfl
  | i + 4 => rw [List.getElem?_take, if_neg (by omega)]; rfl
 have r4 : ∀ r, Ev (fun k => R3q_One.l1 k b p (4 : Nat) ((((c - 240) * 64 + d - 128) * 64 + f - 128) * 64 + g - 128) (4 : Nat)) r → Ev (fun k => R3q_One.l0 k b p 4) r := fun r hr =>
  one_head hb (n := 4) (by omega) (by omega) (by omega) hc0 (x := c - 240) (by simp) (one_round hb (n := 4) (i := 1) (by omega) (by omega) (by omega) (by omega) hd (one_round hb (n := 4) (i := 2) (by omega) (by omega) (by omega) (by omega) hf (one_round hb (n := 4) (i := 3) (by omega) (by omega) (by omega) (by omega) hg hr)))
 by_cases q4 : (240 ≤ c ∧ c ≤ 244) ∧ (128 ≤ d ∧ d ≤ 191) ∧ (128 ≤ f ∧ f ≤ 191) ∧ (128 ≤ g ∧ g ≤ 191) ∧ 65536 ≤ c % 8 * 262144 + d % 64 * 4096 + f % 64 * 64 + g % 64 ∧ c % 8 * 262144 + d % 64 * 4096 + f % 64 * 64 + g % 64 ≤ 1114111
 ·have L : letterLen (b.drop p) = 4 := by
   simp only [letterLen, D, hc, hd, hf, hg, contO, v4, if_neg q1, Bool.and_eq_true, decide_eq_true_eq];rw [if_neg (by omega), if_neg (by omega), if_pos q4.1, if_pos q4.2]
  rw [L];exact ⟨_, g3 _ (r4 _ ((one_tail hb (n := 4) (by omega) (by omega) (by omega)).1 (by rw [t4]; exact (enc4 hcb hdb hfb hgb).2 q4))), fun _ => by omega⟩
 have L : letterLen (b.drop p) = 0 := by
  simp only [letterLen, D, hc, hd, hf, hg, contO, v3, v4, if_neg q1, Bool.and_eq_true, decide_eq_true_eq];by_cases z : 194 ≤ c ∧ c ≤ 223
  ·rw [if_pos z, if_neg (fun e => q2 ⟨z, e⟩)]
  ·rw [if_neg z]
   by_cases z : 224 ≤ c ∧ c ≤ 239
   ·rw [if_pos z, if_neg (fun e => q3 ⟨z, e⟩)]
   ·rw [if_neg z]
    by_cases z : 240 ≤ c ∧ c ≤ 244
    ·rw [if_pos z, if_neg (fun e => q4 ⟨z, e⟩)]
    ·rw [if_neg z]
 rw [L];exact ⟨-1, g3 _ (r4 _ ((one_tail hb (n := 4) (by omega) (by omega) (by omega)).2 (by rw [t4]; exact fun e => q4 ((enc4 hcb hdb hfb hgb).1 e)) _ (one_none hb (n := 5) (by omega) (.inl rfl) hp))), fun h => absurd rfl h⟩
theorem letters_val (hb : Bs b) : ∀ (j p : Nat) (l : List S123), p + j ≥ b.length → p ≤ b.length → l.length ≤ p → ∃ s, Ev (fun k => R3q_Letters.l0 k b l (p : Int)) (l ++ s) ∧ s.length + p ≤ b.length ∧ ((∀ x ∈ s, 0 ≤ x.f1) ↔ V (b.drop p))
 | 0, p, l, h, hp, hle => by
  have e : b.drop p = [] := List.drop_eq_nil_of_le (by omega);refine ⟨[], ?_, by simpa using hp, ?_⟩
  ·rw [List.append_nil]
   refine Ev.step (fun k => rfl) (evF (by omega) (Ev.now _))
  ·rw [e]; exact ⟨fun _ => .nil, fun _ x hx => by simp at hx⟩
 | j + 1, p, l, h, hp, hle => by
  have hl := hb.2;by_cases hc : p < b.length
  case neg =>
   have e : b.drop p = [] := List.drop_eq_nil_of_le (by omega);refine ⟨[], ?_, by simpa using hp, ?_⟩
   ·rw [List.append_nil]
    refine Ev.step (fun k => rfl) (evF (by omega) (Ev.now _))
   ·rw [e]; exact ⟨fun _ => .nil, fun _ x hx => by simp at hx⟩
  obtain ⟨r, hr, hpos⟩ := one_val hb hc
  have hne : b.drop p ≠ [] := by simp; omega
  by_cases hn : letterLen (b.drop p) = 0
  ·obtain ⟨s, hs, hsl, _⟩ := letters_val hb j (p + 1) (l ++ [(⟨(p : Int), (-1), 1⟩ : S123)]) (by omega) (by omega) (by simp; omega)
   refine ⟨⟨(p : Int), (-1), 1⟩ :: s, ?_, by simp; omega, ?_⟩
   ·rw [hn] at hr
    rw [List.append_cons];refine Ev.step (fun k => rfl) (evT (by omega) (Ev.bind hr (evT rfl (evT (by omega) ?_))));rw [w64n (by omega)];exact hs
   ·exact ⟨fun h => absurd (show (0 : Int) ≤ -1 from h _ (List.mem_cons_self ..)) (by decide), fun hv => absurd hn (hv.inv hne).1⟩
  ·have hf := (Js.letterLen_facts rfl hn).1
   have hle2 : p + letterLen (b.drop p) ≤ b.length := by simp at hf; omega
   have h4 := (Js.letterLen_facts rfl hn).2.1;obtain ⟨s, hs, hsl, hv⟩ := letters_val hb j (p + letterLen (b.drop p)) (l ++ [(⟨(p : Int), r, (letterLen (b.drop p) : Int)⟩ : S123)]) (by omega) hle2 (by simp; omega);refine ⟨⟨(p : Int), r, (letterLen (b.drop p) : Int)⟩ :: s, ?_, by simp; omega, ?_⟩
   ·rw [List.append_cons]
    refine Ev.step (fun k => rfl) (evT (by omega) (Ev.bind hr (evF (by show ¬ ((letterLen (b.drop p) : Nat) : Int) = 0; omega) (evT (by omega) ?_))))
    show Ev (fun k => R3q_Letters.l0 k b _ (wrap64 ((p : Int) + ((letterLen (b.drop p) : Nat) : Int)))) _
    rw [w64k (by omega) (by omega)];exact hs
   ·rw [← List.drop_drop] at hv
    refine ⟨fun h => V.cons hn (hv.1 fun x hx => h x (by simp [hx])), fun h => ?_⟩;have h2 := hv.2 (h.inv hne).2;intro x hx
    rcases List.mem_cons.1 hx with rfl | hx
    ·exact hpos hn
    ·exact h2 x hx
theorem validl_val {l : List S123} (hl : l.length ≤ 1000000) : ∀ (j i : Nat), i + j = l.length → ∃ t, Ev (fun k => R3q_Valid.l0 k l (i : Int)) t ∧ (t.2 = 0 ∨ t.2 = 10) ∧ (t.2 = 0 → t.1 = 0) ∧ (t.2 = 0 ↔ ∀ x ∈ l.drop i, 0 ≤ x.f1)
 | 0, i, h => by
  refine ⟨(0, 0), Ev.step (fun k => rfl) (evF (by omega) (Ev.now _)), .inl rfl, fun _ => rfl, ?_⟩;rw [List.drop_eq_nil_of_le (by omega)];exact ⟨fun _ x hx => by simp at hx, fun _ => rfl⟩
 | j + 1, i, h => by
  have hi : i < l.length := by omega
  obtain ⟨x, hx⟩ : ∃ x, l[i]? = some x := ⟨_, List.getElem?_eq_getElem hi⟩
  have hrd : rd_T123 l (i : Int) = x := by unfold rd_T123; simp [List.getD_eq_getElem?_getD, hx]
  have hd : l.drop i = x :: l.drop (i + 1) := by
   rw [List.drop_eq_getElem_cons hi];rw [List.getElem?_eq_getElem hi] at hx;rw [Option.some.inj hx]
  by_cases hneg : x.f1 < 0
  ·refine ⟨(x.f0, 10), Ev.step (fun k => rfl) (evT (by omega) (evT (by omega) ?_)), .inr rfl, fun e => absurd (show (10 : Int) = 0 from e) (by decide), ?_⟩
   ·rw [hrd]; exact evT hneg (Ev.now _)
   ·rw [hd]
    exact ⟨fun e => absurd (show (10 : Int) = 0 from e) (by decide), fun e => absurd (e x (by simp)) (by omega)⟩
  ·obtain ⟨t, ht, h1, h2, h3⟩ := validl_val hl j (i + 1) (by omega)
   refine ⟨t, Ev.step (fun k => rfl) (evT (by omega) (evT (by omega) ?_)), h1, h2, ?_⟩
   ·rw [hrd, w64n (by omega)]; exact evF hneg ht
   ·rw [h3, hd]
    refine ⟨fun e y hy => ?_, fun e y hy => e y (by simp [hy])⟩
    rcases List.mem_cons.1 hy with rfl | hy
    ·omega
    ·exact e y hy
theorem valid_val (hb : Bs b) : ∃ t, Ev (fun k => R3q_Valid.f k b) t ∧ (t.2 = 0 ∨ t.2 = 10) ∧ (t.2 = 0 → t.1 = 0) ∧ (t.2 = 0 ↔ V b) := by
 have hl := hb.2;obtain ⟨s, hs, hsl, hv⟩ := letters_val hb b.length 0 [] (by omega) (by omega) (by simp);rw [List.nil_append] at hs;obtain ⟨t, ht, h1, h2, h3⟩ := validl_val (l := s) (by omega) s.length 0 (by omega);refine ⟨t, Ev.bind (show Ev (fun k => R3q_Letters.f k b) s from hs) ht, h1, h2, ?_⟩;rw [h3, List.drop_zero];exact hv
end Go.Proofs.YteighppcdpaekaaDoor.Rf
end
section
namespace Go.Proofs.YteighppcdpaekaaDoor.Rf
open Go.RowKit Go.Proofs.YteighppcdpaekaaDoorW.PrintWords Go.Proofs.YteighppcdpaekaaDoor Go.Proofs.YteighppcdpaekaaDoor.P
variable {b : List Int}
def tailF (b : List Int) (x : S44) (u : St4) : Option (S44 × Int × Int) :=
 (if (u.2.2.1 == 0 && decide (u.1 < b.length)) = true then RRq_fail.f b u.1 u.2.1 u.2.2.1 u.2.2.2 12 u.1 else some u).bind fun z =>
  if (z.2.2.1 != 0) = true then some (⟨0, ⟨#[]⟩, [], []⟩, z.2.2.2, z.2.2.1) else some (x, 0, 0)
theorem tail_bad {x : S44} {a d e B : Int} (he : e ≠ 0) : tailF b x (a, d, e, B) = some (⟨0, ⟨#[]⟩, [], []⟩, B, e) := by
 unfold tailF;rw [if_neg (by simp [he])]
 show (if (e != 0) = true then _ else _) = _
 rw [if_pos (by simpa using he)]
theorem tail_more {x : S44} {a d B : Int} (ha : a < b.length) : tailF b x (a, d, 0, B) = some (⟨0, ⟨#[]⟩, [], []⟩, a, 12) := by
 unfold tailF;rw [if_pos (by simpa using ha)]
 show (RRq_fail.f b a d 0 B 12 a).bind _ = _
 rw [fail_0]
 rfl
theorem tail_ok {x : S44} {d B : Int} : tailF b x ((b.length : Int), d, 0, B) = some (x, 0, 0) := by
 unfold tailF;rw [if_neg (by simp)]
 rfl
end Go.Proofs.YteighppcdpaekaaDoor.Rf
end
section
namespace Go.Proofs.YteighppcdpaekaaDoor.Js
def Er {α : Type} (o : Out α) : Prop := ∀ x e, o = .no x e → e ≠ 0
theorem er_ok {α : Type} (v : α) (q : Nat) : Er (.ok v q) := fun x e h => by simp at h
theorem er_no {α : Type} (q : Nat) {n : Nat} (hn : n ≠ 0) : Er (.no q n : Out α) := fun x e h => by simp at h; omega
theorem er_map {α β : Type} {o : Out α} (h : Er o) {x e : Nat} (ho : o = .no x e) : Er (.no x e : Out β) := er_no _ (h x e ho)
theorem word_er (b : List Int) : ∀ l p, Er (word b l p)
 | [], p => er_ok _ _
 | c :: r, p => by
  unfold word
  split
  ·exact er_no _ (by decide)
  ·split
   ·exact word_er b r _
   ·exact er_no _ (by decide)
theorem digits_er (b : List Int) (p : Nat) : Er (digits b p) := by
 unfold digits
 split
 ·exact er_no _ (by decide)
 ·split
  ·exact er_ok _ _
  ·exact er_no _ (by decide)
theorem numExp_er (b : List Int) (p : Nat) : Er (numExp b p) := by
 unfold numExp numSign
 split
 ·exact digits_er _ _
 ·exact er_ok _ _
theorem numFrac_er (b : List Int) (p : Nat) : Er (numFrac b p) := by
 unfold numFrac
 split
 ·split
  ·rename_i h; exact er_map (digits_er _ _) h
  ·exact numExp_er _ _
 ·exact numExp_er _ _
theorem number_er (b : List Int) (p : Nat) : Er (number b p) := by
 unfold number numInt
 split
 ·exact er_no _ (by decide)
 ·split
  ·exact numFrac_er _ _
  ·split
   ·rename_i h; exact er_map (digits_er _ _) h
   ·exact numFrac_er _ _
theorem hexTo_er (b : List Int) : ∀ k n p, Er (hexTo b k n p)
 | 0, n, p => er_ok _ _
 | k + 1, n, p => by
  unfold hexTo
  split
  ·exact er_no _ (by decide)
  ·split
   ·exact er_no _ (by decide)
   ·exact hexTo_er b k _ _
theorem unit_er (b : List Int) (p : Nat) : Er (unit b p) := by
 have d : ∀ n q, Er (match encode n with | some l => (.ok l q : Out (List Int)) | none => .no (p - 2) 6) := fun n q => by
  split
  ·exact er_ok _ _
  ·exact er_no _ (by decide)
 unfold unit;simp only
 split
 ·rename_i h; exact er_map (hexTo_er b 4 0 p) h
 ·split
  ·split
   ·split
    ·exact er_no _ (by decide)
    ·split
     ·split
      ·rename_i h; exact er_map (hexTo_er b 4 0 _) h
      ·split
       ·exact er_no _ (by decide)
       ·exact d _ _
     ·exact er_no _ (by decide)
   ·exact er_no _ (by decide)
  ·exact d _ _
theorem escape_er (b : List Int) (p : Nat) : Er (escape b p) := by
 unfold escape
 split
 ·exact er_no _ (by decide)
 ·repeat' split
  all_goals first | exact er_ok _ _ | exact er_no _ (by decide) | exact unit_er _ _
theorem textTo_er (b : List Int) : ∀ k out p o, textTo b k out p = some o → Er o
 | 0, out, p, o, h => by simp [textTo] at h
 | k + 1, out, p, o, h => by
  unfold textTo at h
  split at h
  ·cases h; exact er_no _ (by decide)
  ·split at h
   ·cases h; exact er_ok _ _
   ·split at h
    ·split at h
     ·rename_i hh; cases h; exact er_map (escape_er _ _) hh
     ·exact textTo_er b k _ _ o h
    ·split at h
     ·cases h; exact er_no _ (by decide)
     ·exact textTo_er b k _ _ o h
theorem text_er (b : List Int) (k p : Nat) (o) (h : text b k p = some o) : Er o := by
 unfold text at h
 split at h
 ·cases h; exact er_no _ (by decide)
 ·split at h
  ·exact textTo_er b _ _ _ o h
  ·cases h; exact er_no _ (by decide)
theorem comma_er (b : List Int) (c : Int) (p : Nat) : Er (comma b c p) := by
 unfold comma;simp only
 split
 ·exact er_no _ (by decide)
 ·repeat' split
  all_goals first | exact er_ok _ _ | exact er_no _ (by decide)
theorem enter_er (b : List Int) (d p : Nat) : Er (enter b d p) := by
 unfold enter
 split
 ·exact er_no _ (by decide)
 ·exact er_ok _ _
theorem value_er (b : List Int) : ∀ k, (∀ d p o, value b k d p = some o → Er o) ∧ (∀ d l p o, items b k d l p = some o → Er o) ∧ (∀ d ks l p o, pairs b k d ks l p = some o → Er o)
 | 0 => ⟨fun d p o h => by simp [value] at h, fun d l p o h => by simp [items] at h, fun d ks l p o h => by simp [pairs] at h⟩
 | k + 1 => by
  obtain ⟨hv, hi, hp⟩ := value_er b k;refine ⟨fun d p o h => ?_, fun d l p o h => ?_, fun d ks l p o h => ?_⟩
  ·rw [value_succ] at h
   split at h
   ·cases h; exact er_no _ (by decide)
   split at h
   ·unfold obj at h
    split at h
    ·rename_i hh; cases h; exact er_map (enter_er _ _ _) hh
    ·split at h
     ·cases h; exact er_no _ (by decide)
     ·split at h
      ·cases h; exact er_ok _ _
      ·exact hp _ _ _ _ _ h
   split at h
   ·unfold arr at h
    split at h
    ·rename_i hh; cases h; exact er_map (enter_er _ _ _) hh
    ·split at h
     ·cases h; exact er_no _ (by decide)
     ·split at h
      ·cases h; exact er_ok _ _
      ·exact hi _ _ _ _ h
   split at h
   ·obtain ⟨t, ht, rfl⟩ := Option.map_eq_some_iff.1 h
    cases t with
    | no x e => exact er_map (text_er _ _ _ _ ht) rfl
    | ok l q => exact er_ok _ _
   split at h
   ·cases h
    cases hw : word b [116, 114, 117, 101] p with
    | no x e => exact er_map (word_er _ _ _) hw
    | ok u q => exact er_ok _ _
   split at h
   ·cases h
    cases hw : word b [102, 97, 108, 115, 101] p with
    | no x e => exact er_map (word_er _ _ _) hw
    | ok u q => exact er_ok _ _
   split at h
   ·cases h
    cases hw : word b [110, 117, 108, 108] p with
    | no x e => exact er_map (word_er _ _ _) hw
    | ok u q => exact er_ok _ _
   ·cases h
    cases hw : number b p with
    | no x e => exact er_map (number_er _ _) hw
    | ok u q => exact er_ok _ _
  ·unfold items at h
   split at h
   ·cases h
   ·rename_i hh; cases h; exact er_map (hv _ _ _ hh) rfl
   ·split at h
    ·rename_i hh; cases h; exact er_map (comma_er _ _ _) hh
    ·exact hi _ _ _ _ h
    ·cases h; exact er_ok _ _
  ·unfold pairs at h
   split at h
   ·cases h
   ·rename_i hh; cases h; exact er_map (text_er _ _ _ _ hh) rfl
   ·split at h
    ·cases h; exact er_no _ (by decide)
    ·simp only at h
     split at h
     ·cases h; exact er_no _ (by decide)
     ·split at h
      ·split at h
       ·cases h
       ·rename_i hh; cases h; exact er_map (hv _ _ _ hh) rfl
       ·split at h
        ·rename_i hh; cases h; exact er_map (comma_er _ _ _) hh
        ·exact hp _ _ _ _ _ h
        ·cases h; exact er_ok _ _
      ·cases h; exact er_no _ (by decide)
end Go.Proofs.YteighppcdpaekaaDoor.Js
namespace Go.Proofs.YteighppcdpaekaaDoor.Rf
open Go.RowKit Go.Proofs.YteighppcdpaekaaDoorW.PrintWords Go.Proofs.YteighppcdpaekaaDoor Go.Proofs.YteighppcdpaekaaDoor.P
variable {b : List Int}
theorem both_parse (hb : Bs b) :
  (∃ x y e a e' , e ≠ 0 ∧ e' ≠ 0 ∧ Ev (fun k => json_Parse.f k b) (0, ⟨#[]⟩, [], [], x, e) ∧ Ev (fun k => parseF k b) (y, a, e')) ∨
  ∃ v j q, Js.value b j 0 (Js.blank b 0) = some (.ok v q) ∧ Ev (fun k => json_Parse.f k b) ((Rd.toS v).f0, (Rd.toS v).f1, (Rd.toS v).f2, (Rd.toS v).f3, 0, 0) ∧ Ev (fun k => parseF k b) (toR v, 0, 0) := by
 obtain ⟨t, ht, ht10, hta, htv⟩ := valid_val hb
 have hok : json_Parse.okb b = true := by
  unfold json_Parse.okb;simp only [Bool.and_eq_true, List.all_eq_true, decide_eq_true_eq];exact ⟨fun x hx => hb.1 x hx, by have := hb.2; omega⟩
 have hl : b.length ≤ 100000000000 := by have := hb.2; omega
 by_cases h0 : t.2 = 0
 case neg =>
  obtain ⟨x, e, h1, h2, h3, h4⟩ := Js.valid_all hb.1 hl (Nat.le_refl _)
  have he : e ≠ 0 := fun h => h0 (htv.2 (h3.1 h))
  refine .inl ⟨x, ⟨0, ⟨#[]⟩, [], []⟩, e, t.1, 10, he, by decide, Ev.of (json_Parse.mono b) (k := b.length + 4) ?_, ?_⟩
  ·unfold json_Parse.f
   rw [if_pos hok, h1];simp only;rw [if_neg he]
  ·unfold parseF
   exact Ev.bind ht (evT (by simpa using h0) (Ev.now _))
 have hv := htv.1 h0
 have evp : ∀ {K o}, Rd.parsed b K = some o → Ev (fun k => json_Parse.f k b) (json_Parse.res o) := fun {K o} h => by
  refine Ev.of (json_Parse.mono b) (k := max K (b.length + 4)) ?_;unfold json_Parse.f;rw [if_pos hok, Js.valid_ok hb.1 hl hv (k := max K (b.length + 4)) (Nat.le_max_right _ _)];simp only;rw [if_pos (by trivial), if_pos (by trivial), at_rounds (g := fun k => Rd.parsed b k) (fun k r hr => json_Parse.parsed_mono hr) (Nat.le_max_left _ _) h]
 have on : ∀ {r}, Ev (fun k => (RRq_blank.f k b 0 0 0 0).bind fun s => (valF b k s.1 s.2.1 s.2.2.1 s.2.2.2).bind fun v =>
   (RRq_blank.f k b v.2.1 v.2.2.1 v.2.2.2.1 v.2.2.2.2).bind fun u => tailF b v.1 u) r → Ev (fun k => parseF k b) r := by
  intro r hr;unfold parseF;exact Ev.bind ht (evF (by simp [h0]) hr)
 have hbl := Js.blank_le (b := b) (p := 0) (by omega);have hB : Ev (fun k => RRq_blank.f k b 0 0 0 0) ((Js.blank b 0 : Nat), 0, 0, 0) := blank_ok (d := 0) (B := 0) (p := 0) hb (by omega);obtain ⟨j, o, ho⟩ := Js.value_total b 0 (Js.blank b 0);have hV := (ring_ends hb j).1 (Js.blank b 0) 0 0 o hbl.2 (by omega) ho
 cases o with
 | no y e =>
  obtain ⟨x, a, d', e', B', he, hV⟩ := hV
  have hp : Rd.parsed b j = some (.no y e) := by unfold Rd.parsed; rw [ho]
  exact .inl ⟨_, ⟨0, ⟨#[]⟩, [], []⟩, _, B', e', by have := (Js.value_er b j).1 _ _ _ ho y e rfl; omega, he, evp hp, on (Ev.bind hB (Ev.bind hV (Ev.bind (blank_bad he) (evC (tail_bad he)))))⟩
 | ok v q =>
  have hV : Ev (fun k => valF b k (Js.blank b 0 : Nat) 0 0 0) (toR v, (q : Int), 0, 0, 0) := hV;have hvl := Js.value_le ho;have hB2 := blank_ok (d := 0) (B := 0) (p := q) hb hvl.2;have hbq := Js.blank_le (b := b) (p := q) hvl.2;by_cases hq : Js.blank b q = b.length
  ·have hp : Rd.parsed b j = some (.ok v 0) := by unfold Rd.parsed; rw [ho]; simp only; rw [if_neg (by omega)]
   refine .inr ⟨v, j, q, ho, evp hp, on (Ev.bind hB (Ev.bind hV (Ev.bind hB2 (evC ?_))))⟩;rw [hq];exact tail_ok
  ·have hp : Rd.parsed b j = some (.no (Js.blank b q) 12) := by unfold Rd.parsed; rw [ho]; simp only; rw [if_pos (by omega)]
   exact .inl ⟨_, ⟨0, ⟨#[]⟩, [], []⟩, _, _, 12, by decide, n12, evp hp, on (Ev.bind hB (Ev.bind hV (Ev.bind hB2 (evC (tail_more (by omega))))))⟩
end Go.Proofs.YteighppcdpaekaaDoor.Rf
end
section
namespace Go.Proofs.YteighppcdpaekaaDoor.P
open Go.RowKit Go.Proofs.YteighppcdpaekaaDoorW.PrintWords Go.Proofs.YteighppcdpaekaaDoorW.PrintLast Go.Proofs.YteighppcdpaekaaDoorW.PrintMore
attribute [local go_sem] max2_int min2_int max_two min_two max_three min_three max_four min_four
set_option linter.unusedVariables false
set_option linter.unusedSimpArgs false
end Go.Proofs.YteighppcdpaekaaDoor.P
end
section
namespace Go.Proofs.YteighppcdpaekaaDoor.P
open Go.RowKit Go.Proofs.YteighppcdpaekaaDoorW.PrintWords Go.Proofs.YteighppcdpaekaaDoorW.PrintLast Go.Proofs.YteighppcdpaekaaDoorW.PrintMore
attribute [local go_sem] max2_int min2_int max_two min_two max_three min_three max_four min_four
set_option linter.unusedVariables false
set_option linter.unusedSimpArgs false
end Go.Proofs.YteighppcdpaekaaDoor.P
end
section
namespace Go.Proofs.YteighppcdpaekaaDoor.P
open Go.RowKit Go.Proofs.YteighppcdpaekaaDoorW.PrintWords Go.Proofs.YteighppcdpaekaaDoorW.PrintLast Go.Proofs.YteighppcdpaekaaDoorW.PrintMore
attribute [local go_sem] max2_int min2_int max_two min_two max_three min_three max_four min_four
set_option linter.unusedVariables false
set_option linter.unusedSimpArgs false
end Go.Proofs.YteighppcdpaekaaDoor.P
end
section
namespace Go.Proofs.YteighppcdpaekaaDoor.P
open Go.RowKit Go.Proofs.YteighppcdpaekaaDoorW.PrintWords Go.Proofs.YteighppcdpaekaaDoorW.PrintLast Go.Proofs.YteighppcdpaekaaDoorW.PrintMore
attribute [local go_sem] max2_int min2_int max_two min_two max_three min_three max_four min_four
set_option linter.unusedVariables false
set_option linter.unusedSimpArgs false
end Go.Proofs.YteighppcdpaekaaDoor.P
end
section
namespace Go.Proofs.YteighppcdpaekaaDoor.Eq4
open Go.RowKit Go.Proofs.YteighppcdpaekaaDoorW.PrintWords Go.Proofs.YteighppcdpaekaaDoor.P
section
variable {α β : Type} {r : α}
end
theorem w64 {i : Nat} (h : i < 1000000000000) : wrap64 ((i : Int) + 1) = ((i + 1 : Nat) : Int) := by unfold wrap64; omega
mutual
def szS : S27 → Nat
 | ⟨_, _, _, l⟩ => szL l + 1
def szL : List S27 → Nat
 | [] => 0
 | x :: r => szS x + szL r
end
mutual
def ofS : S27 → S44
 | ⟨a, b, c, l⟩ => ⟨a, b, c, ofL l⟩
def ofL : List S27 → List S44
 | [] => []
 | x :: r => ofS x :: ofL r
end
theorem szS_eq (v : S27) : szS v = szL v.f3 + 1 := by cases v; simp [szS]
theorem ofS_eq (v : S27) : ofS v = ⟨v.f0, v.f1, v.f2, ofL v.f3⟩ := by cases v; simp [ofS]
theorem ofL_map (l : List S27) : ofL l = l.map ofS := by
 induction l with
 | nil => simp [ofL]
 | cons x r ih => simp [ofL, ih]
theorem szL_mem {x : S27} {l : List S27} (h : x ∈ l) : szS x ≤ szL l := by
 induction l with
 | nil => cases h
 | cons y r ih =>
  simp only [szL]
  rcases List.mem_cons.1 h with rfl | h
  ·omega
  ·have := ih h; omega
inductive Light : S27 → Prop where
 | mk {v : S27} (h3 : v.f3.length ≤ 3000) (h2 : v.f2.length ≤ 3000) (h1 : v.f1.size ≤ 3000) (hk : ∀ (i : Nat) (h : i < v.f2.length), (v.f2[i]).size ≤ 3000) (hl : ∀ x ∈ v.f3, Light x) : Light v
theorem Light.out {v : S27} (h : Light v) : v.f3.length ≤ 3000 ∧ v.f2.length ≤ 3000 ∧ v.f1.size ≤ 3000 ∧ (∀ (i : Nat) (h : i < v.f2.length), (v.f2[i]).size ≤ 3000) ∧ ∀ x ∈ v.f3, Light x := by
 cases h with
 | mk h3 h2 h1 hk hl => exact ⟨h3, h2, h1, hk, hl⟩
end Go.Proofs.YteighppcdpaekaaDoor.Eq4
end
section
namespace Go.Proofs.YteighppcdpaekaaDoor.Num
open Go.Lib Go.Proofs.YteighppcdpaekaaDoor.P
def magOk (m : Bool) (s : List UInt8) : Bool := decide (1 ≤ s.length) && decide (s.length ≤ 9) && !(s.head? == some 48 && (decide (s.length > 1) || m))
def refC (m : Bool) (s : List UInt8) : Int × Bool :=
 match magOk m s with
 | true => match decFrom 0 s with
  | some n => (match m with | true => -(n : Int) | false => (n : Int), true)
  | none => (0, false)
 | false => (0, false)
def refI (L : List UInt8) : Int × Bool := refC (L.head? == some 45) (match L.head? == some 45 with | true => L.tail | false => L)
theorem core (m : Bool) (s : List UInt8) : refC m s = (0, false) ∨ ∃ n, magOk m s = true ∧ decFrom 0 s = some n ∧ refC m s = (match m with | true => -(n : Int) | false => (n : Int), true) := by
 unfold refC
 cases hk : magOk m s with
 | false => exact .inl rfl
 | true =>
  cases hd : decFrom 0 s with
  | none => exact .inl rfl
  | some n => exact .inr ⟨n, rfl, rfl, rfl⟩
def sgn (m : Bool) (n : Nat) : Int := match m with | true => -(n : Int) | false => (n : Int)
theorem core_mk {m : Bool} {s : List UInt8} {n : Nat} (h1 : magOk m s = true) (h2 : decFrom 0 s = some n) : refC m s = (sgn m n, true) := by
 rcases core m s with h | ⟨k, _, h3, h⟩
 ·unfold refC at h
  rw [h1] at h;simp only [h2] at h;exact absurd (congrArg Prod.snd h) (by simp)
 ·rw [h]
  obtain rfl := Option.some.inj (h2.symm.trans h3)
  rfl
theorem mag_t {s : List UInt8} : magOk true s = true ↔ (1 ≤ s.length ∧ s.length ≤ 9) ∧ s.head? ≠ some 48 := by
 simp [magOk]
theorem mag_f {s : List UInt8} : magOk false s = true ↔ (1 ≤ s.length ∧ s.length ≤ 9) ∧ (s.head? = some 48 → ¬ s.length > 1) := by
 simp [magOk]
 intro _ _
 by_cases h : s.head? = some 48 <;> simp [h]
theorem decFrom_snoc (c : UInt8) : ∀ (l : List UInt8) (acc : Nat), decFrom acc (l ++ [c]) = (decFrom acc l).bind fun m => (digitVal c).map (fun d => m * 10 + d)
 | [], acc => by
  simp only [List.nil_append, decFrom, Option.bind_some]
  cases digitVal c <;> simp
 | b :: r, acc => by
  simp only [List.cons_append, decFrom]
  cases digitVal b with
  | none => rfl
  | some d => exact decFrom_snoc c r _
theorem u8_val (d : Nat) (h : d < 10) : (UInt8.ofNat (48 + d)).toNat = 48 + d := by
 rw [UInt8.toNat_ofNat']
 omega
theorem digit_of (d : Nat) (h : d < 10) : digitVal (UInt8.ofNat (48 + d)) = some d := by
 unfold digitVal;rw [u8_val d h, if_pos (by omega)]
 congr 1; omega
theorem digit_is {c : UInt8} {d : Nat} (h : digitVal c = some d) : c = UInt8.ofNat (48 + d) ∧ d < 10 := by
 unfold digitVal at h
 split at h
 ·obtain rfl := Option.some.inj h
  refine ⟨?_, by omega⟩
  apply UInt8.toNat_inj.1
  rw [u8_val _ (by omega)]
  omega
 ·cases h
theorem dec_back (u : Nat) : decFrom 0 (decDigits u) = some u := by
 induction u using Nat.strongRecOn with
 | _ u ih =>
  by_cases h : u < 10
  ·rw [decDigits_one h]
   show (match digitVal (UInt8.ofNat (48 + u)) with | some d => decFrom (0 * 10 + d) [] | none => none) = some u
   rw [digit_of u h]
   simp [decFrom]
  ·rw [decDigits, dif_neg h, decFrom_snoc, ih (u / 10) (by omega), digit_of _ (by omega)]
   simp; omega
theorem dec_head (u : Nat) : 1 ≤ u → ∃ d, 1 ≤ d ∧ d < 10 ∧ (decDigits u).head? = some (UInt8.ofNat (48 + d)) := by
 induction u using Nat.strongRecOn with
 | _ u ih =>
  intro h1;by_cases h : u < 10
  ·exact ⟨u, h1, h, by rw [decDigits_one h]; rfl⟩
  ·obtain ⟨d, a, b, c⟩ := ih (u / 10) (by omega) (by omega)
   refine ⟨d, a, b, ?_⟩;rw [decDigits, dif_neg h, List.head?_append, c]
   rfl
theorem nd_le : ∀ (k u : Nat), u < 10 ^ (k + 1) → nDigits u ≤ k + 1
 | 0, u, h => by rw [nDigits_small (by simpa using h)]; exact Nat.le_refl _
 | k + 1, u, h => by
  by_cases hu : u < 10
  ·rw [nDigits_small hu]; omega
  ·rw [nDigits_big hu]
   have := nd_le k (u / 10) (by rw [Nat.pow_succ] at h; omega)
   omega
theorem dec_len (u : Nat) (h : u ≤ 999999999) : 1 ≤ (decDigits u).length ∧ (decDigits u).length ≤ 9 := by
 rw [decDigits_length];exact ⟨nDigits_pos u, nd_le 8 u (by omega)⟩
theorem dec_canon : ∀ (k : Nat) (s : List UInt8) (n : Nat), s.length = k + 1 → s.head? ≠ some 48 → decFrom 0 s = some n → decDigits n = s ∧ 1 ≤ n ∧ n < 10 ^ (k + 1)
 | 0, s, n, hl, hh, h => by
  obtain ⟨c, rfl⟩ : ∃ c, s = [c] := by
   match s, hl with
   | [c], _ => exact ⟨c, rfl⟩
  simp only [decFrom] at h
  cases hd : digitVal c with
  | none => rw [hd] at h; cases h
  | some d =>
   rw [hd] at h
   obtain rfl : d = n := by simpa using h
   obtain ⟨rfl, h2⟩ := digit_is hd;refine ⟨decDigits_one h2, ?_, by omega⟩
   rcases Nat.eq_zero_or_pos d with rfl | h3
   ·exact absurd rfl hh
   ·exact h3
 | k + 1, s, n, hl, hh, h => by
  obtain ⟨r, c, rfl⟩ : ∃ r c, s = r ++ [c] := by
   have hne : s ≠ [] := by intro e; rw [e] at hl; cases hl
   exact ⟨s.dropLast, s.getLast hne, (List.dropLast_concat_getLast hne).symm⟩
  have hr : r.length = k + 1 := by simpa using hl
  rw [decFrom_snoc] at h
  cases hm : decFrom 0 r with
  | none => rw [hm] at h; cases h
  | some m =>
   rw [hm, Option.bind_some] at h
   cases hd : digitVal c with
   | none => rw [hd] at h; cases h
   | some d =>
    rw [hd] at h
    obtain rfl : m * 10 + d = n := by simpa using h
    obtain ⟨rfl, h2⟩ := digit_is hd
    have hne : r ≠ [] := by intro e; rw [e] at hr; cases hr
    obtain ⟨a, b, c'⟩ := dec_canon k r m hr (by
     intro e
     apply hh
     rw [List.head?_append, e]
     rfl) hm
    refine ⟨?_, by omega, by rw [Nat.pow_succ]; omega⟩;rw [decDigits, dif_neg (by omega), show (m * 10 + d) / 10 = m by omega, show (m * 10 + d) % 10 = d by omega, a]
theorem itoa_pos (u : Nat) : itoa (u : Int) = decDigits u := by unfold itoa; rw [if_neg (by omega)]; rfl
theorem itoa_minus (u : Nat) (h : 1 ≤ u) : itoa (-(u : Int)) = 45 :: decDigits u := by unfold itoa; rw [if_pos (by omega)]; congr 2; omega
theorem head_ne {d : Nat} {b : UInt8} (h1 : 1 ≤ d) (h2 : d < 10) (hb : b.toNat ≤ 48) : (some (UInt8.ofNat (48 + d)) : Option UInt8) ≠ some b := by
 intro e;have := congrArg UInt8.toNat (Option.some.inj e);rw [u8_val d h2] at this
 omega
theorem back_false {L : List UInt8} {v : Int} (h : refI L = (v, false)) : v = 0 := by
 unfold refI at h
 rcases core (L.head? == some 45) (match L.head? == some 45 with | true => L.tail | false => L) with h2 | ⟨n, _, _, h2⟩
 ·rw [h2] at h; exact (congrArg Prod.fst h).symm
 ·rw [h2] at h; exact absurd (congrArg Prod.snd h) (by simp)
theorem back_true {L : List UInt8} {v : Int} (h : refI L = (v, true)) : L = itoa v ∧ -999999999 ≤ v ∧ v ≤ 999999999 := by
 unfold refI at h
 cases hm : (L.head? == some 45) with
 | true =>
  rw [hm] at h
  obtain ⟨s, rfl⟩ : ∃ s, L = 45 :: s := by
   cases L with
   | nil => simp at hm
   | cons c s => exact ⟨s, by simp at hm; rw [hm]⟩
  have h : refC true s = (v, true) := h
  rcases core true s with h2 | ⟨n, hk, hn, h2⟩
  ·rw [h2] at h; exact absurd (congrArg Prod.snd h) (by simp)
  ·rw [h2] at h
   obtain rfl : -(n : Int) = v := congrArg Prod.fst h;have hk := mag_t.1 hk
   obtain ⟨k, hk2⟩ : ∃ k, s.length = k + 1 := ⟨s.length - 1, by omega⟩
   obtain ⟨a, b, c⟩ := dec_canon k s n hk2 hk.2 hn;have : 10 ^ (k + 1) ≤ 10 ^ 9 := Nat.pow_le_pow_right (by omega) (by omega);exact ⟨by rw [itoa_minus n b, a], by omega, by omega⟩
 | false =>
  rw [hm] at h;have h : refC false L = (v, true) := h
  rcases core false L with h2 | ⟨n, hk, hn, h2⟩
  ·rw [h2] at h; exact absurd (congrArg Prod.snd h) (by simp)
  ·rw [h2] at h
   obtain rfl : (n : Int) = v := congrArg Prod.fst h;have hk := mag_f.1 hk
   obtain ⟨k, hk2⟩ : ∃ k, L.length = k + 1 := ⟨L.length - 1, by omega⟩
   have hp : 10 ^ (k + 1) ≤ 10 ^ 9 := Nat.pow_le_pow_right (by omega) (by omega);by_cases hh : L.head? = some 48
   ·obtain ⟨c, rfl⟩ : ∃ c, L = [c] := by
     have h1 := hk.2 hh
     match L, hk2, h1 with
     | [c], _, _ => exact ⟨c, rfl⟩
     | a :: b :: r, _, h1 => simp at h1
    obtain rfl : c = 48 := by simpa using hh
    obtain rfl : 0 = n := by simpa [decFrom, digitVal] using hn
    exact ⟨by rw [itoa_pos 0, decDigits_one (by omega)]; rfl, by omega, by omega⟩
   ·obtain ⟨a, b, c⟩ := dec_canon k L n hk2 hh hn
    exact ⟨by rw [itoa_pos n, a], by omega, by omega⟩
theorem forth (v : Int) (h0 : -999999999 ≤ v) (h1 : v ≤ 999999999) : refI (itoa v) = (v, true) := by
 by_cases hv : v < 0
 ·obtain ⟨u, rfl⟩ : ∃ u : Nat, v = -(u : Int) := ⟨v.natAbs, by omega⟩
  have hu : 1 ≤ u := by omega
  obtain ⟨d, a, b, c⟩ := dec_head u hu;have hl := dec_len u (by omega);rw [itoa_minus u hu]
  show refC true (decDigits u) = _
  exact core_mk (mag_t.2 ⟨hl, by rw [c]; exact head_ne a b (by decide)⟩) (dec_back u)
 ·obtain ⟨u, rfl⟩ : ∃ u : Nat, v = (u : Int) := ⟨v.toNat, by omega⟩
  rw [itoa_pos u]
  rcases Nat.eq_zero_or_pos u with rfl | hu
  ·rw [decDigits_one (by omega)]; rfl
  ·obtain ⟨d, a, b, c⟩ := dec_head u hu
   have hl := dec_len u (by omega);have hm : ((decDigits u).head? == some 45) = false := beq_eq_false_iff_ne.2 (by rw [c]; exact head_ne a b (by decide));unfold refI;rw [hm]
   show refC false (decDigits u) = _
   exact core_mk (mag_f.2 ⟨hl, fun e => absurd e (by rw [c]; exact head_ne a b (by decide))⟩) (dec_back u)
theorem atoi_itoa (v : Int) (h0 : -999999999 ≤ v) (h1 : v ≤ 999999999) : atoiAll (itoa v) = .ok v := by
 by_cases hv : v < 0
 ·obtain ⟨u, rfl⟩ : ∃ u : Nat, v = -(u : Int) := ⟨v.natAbs, by omega⟩
  have hu : 1 ≤ u := by omega
  have hl := dec_len u (by omega);rw [itoa_minus u hu, atoiAll_short _ (by simp; omega)]
  have hn : decNat (decDigits u) = some u := by
   unfold decNat;rw [if_neg (by intro e; rw [List.isEmpty_iff] at e; rw [e] at hl; simp at hl), dec_back]
  simp [atoi, hn, NumEnd.ofOption]
 ·obtain ⟨u, rfl⟩ : ∃ u : Nat, v = (u : Int) := ⟨v.toNat, by omega⟩
  have hl := dec_len u (by omega);rw [itoa_pos u, atoiAll_short _ (by omega)]
  have hn : decNat (decDigits u) = some u := by
   unfold decNat;rw [if_neg (by intro e; rw [List.isEmpty_iff] at e; rw [e] at hl; simp at hl), dec_back]
  rcases Nat.eq_zero_or_pos u with rfl | hu
  ·rw [decDigits_one (by omega)]; rfl
  ·obtain ⟨d, a, b, c⟩ := dec_head u hu
   cases hD : decDigits u with
   | nil => rw [hD] at c; cases c
   | cons x r =>
    rw [hD] at c hn
    obtain rfl : x = UInt8.ofNat (48 + d) := by simpa using c
    have e1 : ((UInt8.ofNat (48 + d)) == 45) = false := beq_eq_false_iff_ne.2 (fun e => head_ne a b (b := 45) (by decide) (congrArg some e));have e2 : ((UInt8.ofNat (48 + d)) == 43) = false := beq_eq_false_iff_ne.2 (fun e => head_ne a b (b := 43) (by decide) (congrArg some e))
    show NumEnd.ofOption (if ((UInt8.ofNat (48 + d)) == 45) = true then _ else if ((UInt8.ofNat (48 + d)) == 43) = true then _ else (decNat (UInt8.ofNat (48 + d) :: r)).map _) = _
    rw [e1, e2, if_neg (by decide), if_neg (by decide), hn]
    rfl
theorem intT_itoa (v : Int) (h0 : -999999999 ≤ v) (h1 : v ≤ 999999999) : intT (itoa v) = (v, true) := by
 unfold intT;rw [atoi_itoa v h0 h1];simp only;rw [if_pos ⟨trivial, h0, h1⟩]
theorem intT_eq (L : List UInt8) : intT L = refI L := by
 cases hr : refI L with
 | mk v b =>
  cases b with
  | true =>
   obtain ⟨rfl, h0, h1⟩ := back_true hr;exact intT_itoa v h0 h1
  | false =>
   obtain rfl := back_false hr;unfold intT
   rcases ha : atoiAll L with w | _ | _
   ·simp only
    split
    ·rename_i hc
     obtain ⟨rfl, h0, h1⟩ := hc;rw [forth w h0 h1] at hr;cases hr
    ·rfl
   ·rfl
   ·rfl
end Go.Proofs.YteighppcdpaekaaDoor.Num
end
section
namespace Go.Proofs.YteighppcdpaekaaDoor.Num
open Go.Lib Go.RowKit Go.Proofs.YteighppcdpaekaaDoorW.PrintWords Go.Proofs.YteighppcdpaekaaDoor.P
section
variable {α : Type} {r : α}
theorem evT {c : Prop} [Decidable c] {A B : Nat → Option α} (hc : c) (h : Ev A r) : Ev (fun k => if c then A k else B k) r := by simpa only [if_pos hc] using h
theorem evF {c : Prop} [Decidable c] {A B : Nat → Option α} (hc : ¬ c) (h : Ev B r) : Ev (fun k => if c then A k else B k) r := by simpa only [if_neg hc] using h
end
theorem size_len (s : ByteArray) : s.size = s.data.toList.length := by rw [Array.length_toList]; rfl
theorem bt_at (s : ByteArray) (i : Nat) (h : i < s.data.toList.length) : bt s (i : Int) = ((s.data.toList[i]).toNat : Int) := by
 unfold bt
 have h2 : ((i : Int)).toNat < s.size := by rw [size_len]; exact h
 rw [dif_pos h2]
 rfl
def endI (m : Bool) (o : Option Nat) : Int × Bool := match o with
 | some n => (sgn m n, true)
 | none => (0, false)
theorem loop (s : ByteArray) (m : Bool) (hl : s.data.toList.length ≤ 9) : ∀ (j i acc : Nat), i + j = s.data.toList.length → acc < 10 ^ i →
  Ev (fun k => R4q_Int.l0 k s m (acc : Int) (i : Int)) (endI m (decFrom acc (s.data.toList.drop i)))
 | 0, i, acc, h, ha => by
  have hp : 10 ^ i ≤ 10 ^ 9 := Nat.pow_le_pow_right (by omega) (by omega);rw [List.drop_eq_nil_of_le (by omega)];refine Ev.step (fun k => rfl) ?_;refine evF (by rw [size_len]; omega) ?_
  cases m with
  | true =>
   refine evT rfl ?_
   have : wrap64 (-(acc : Int)) = sgn true acc := by show wrap64 (-(acc : Int)) = -(acc : Int); unfold wrap64; omega
   rw [this];exact Ev.now _
  | false => exact evF (c := false = true) (by decide) (Ev.now _)
 | j + 1, i, acc, h, ha => by
  have hi : i < s.data.toList.length := by omega
  have hp : 10 ^ i ≤ 10 ^ 8 := Nat.pow_le_pow_right (by omega) (by omega);rw [List.drop_eq_getElem_cons hi];refine Ev.step (fun k => rfl) ?_;refine evT (by rw [size_len]; omega) ?_;refine evT (by omega) ?_;rw [bt_at s i hi];simp only [decFrom];generalize hc : s.data.toList[i] = c;have hcl : c.toNat < 256 := c.toNat_lt;by_cases h1 : (c.toNat : Int) < 48
  ·have : digitVal c = none := by unfold digitVal; rw [if_neg (by omega)]
   rw [this];exact evT h1 (Ev.now _)
  ·refine evF h1 ?_
   by_cases h2 : (c.toNat : Int) > 57
   ·have : digitVal c = none := by unfold digitVal; rw [if_neg (by omega)]
    rw [this];exact evT h2 (Ev.now _)
   ·refine evF h2 ?_
    have hd : digitVal c = some (c.toNat - 48) := by unfold digitVal; rw [if_pos (by omega)]
    rw [hd]
    have e1 : wrap64 (wrap64 ((acc : Int) * 10) + ((c.toNat : Int) - 48) % 256) = ((acc * 10 + (c.toNat - 48) : Nat) : Int) := by unfold wrap64; omega
    have e2 : wrap64 ((i : Int) + 1) = ((i + 1 : Nat) : Int) := by unfold wrap64; omega
    rw [e1, e2];exact loop s m hl j (i + 1) _ (by omega) (by rw [Nat.pow_succ]; omega)
theorem j1_ev (s : ByteArray) (m : Bool) : Ev (fun k => R4q_Int.j1 k s m) (refC m s.data.toList) := by
  have hz := size_len s
  have bad : magOk m s.data.toList = false → Ev (fun k => R4q_Int.j2 k s m true) (refC m s.data.toList) := fun hb => by
    rcases core m s.data.toList with h | ⟨n, h, _⟩
    · rw [h]
      refine Ev.step (fun k => rfl) ?_;exact Ev.now _
    · rw [hb] at h; cases h
  have good : magOk m s.data.toList = true → Ev (fun k => R4q_Int.j2 k s m false) (refC m s.data.toList) := fun hb => by
    have hl : s.data.toList.length ≤ 9 := by
      cases m with
      | true => exact (mag_t.1 hb).1.2
      | false => exact (mag_f.1 hb).1.2
    have h0 := loop s m hl s.data.toList.length 0 0 (by omega) (by decide)
    have he : endI m (decFrom 0 (s.data.toList.drop 0)) = refC m s.data.toList := by
      rw [List.drop_zero]
      cases hd : decFrom 0 s.data.toList with
      | none =>
        rcases core m s.data.toList with h | ⟨n, _, h, _⟩
        · rw [h]; rfl
        · rw [hd] at h; cases h
      | some n => rw [core_mk hb hd]; rfl
    rw [he] at h0;refine Ev.step (fun k => rfl) ?_;exact h0
  refine Ev.step (fun k => rfl) ?_;by_cases h1 : (s.size : Int) < 1
  · refine evT h1 (bad ?_)
    cases hk : magOk m s.data.toList with
    | false => rfl
    | true => cases m with
      | true => have := (mag_t.1 hk).1.1; omega
      | false => have := (mag_f.1 hk).1.1; omega
  · refine evF h1 ?_
    by_cases h2 : (s.size : Int) > 9
    · refine evT h2 (bad ?_)
      cases hk : magOk m s.data.toList with
      | false => rfl
      | true => cases m with
        | true => have := (mag_t.1 hk).1.2; omega
        | false => have := (mag_f.1 hk).1.2; omega
    · refine evF h2 ?_
      refine evT (by omega) ?_
      obtain ⟨c, r, hL⟩ : ∃ c r, s.data.toList = c :: r := by
        cases hL : s.data.toList with
        | nil => have h9 : s.size = 0 := by (rw [hz, hL]; rfl)
                 omega
        | cons c r => exact ⟨c, r, rfl⟩
      have hb0 : bt s 0 = (c.toNat : Int) := by
        have := bt_at s 0 (by rw [hL]; simp);rw [show ((0 : Nat) : Int) = (0 : Int) from rfl] at this;rw [this]
        simp [hL]
      have hh : s.data.toList.head? = some c := by rw [hL]; rfl
      have hlen : 1 ≤ s.data.toList.length ∧ s.data.toList.length ≤ 9 := by omega
      have hc48 : c = 48 ↔ (c.toNat : Int) = 48 := ⟨fun e => by rw [e]; rfl, fun e => UInt8.toNat_inj.1 (by show c.toNat = 48; omega)⟩
      by_cases h3 : bt s 0 = 48
      · refine evT h3 ?_
        have hc : c = 48 := hc48.2 (by omega);by_cases h4 : (s.size : Int) > 1
        · refine evT h4 (bad ?_)
          cases hk : magOk m s.data.toList with
          | false => rfl
          | true => cases m with
            | true => exact absurd (by rw [hh, hc]) (mag_t.1 hk).2
            | false => exact absurd (by omega) ((mag_f.1 hk).2 (by rw [hh, hc]))
        · refine evF h4 ?_
          cases m with
          | true =>
            refine bad ?_
            cases hk : magOk true s.data.toList with
            | false => rfl
            | true => exact absurd (by rw [hh, hc]) (mag_t.1 hk).2
          | false => exact good (mag_f.2 ⟨hlen, fun _ => by omega⟩)
      · refine evF h3 (good ?_)
        have hne : s.data.toList.head? ≠ some 48 := by
          rw [hh];intro e;exact h3 (by rw [hb0]; exact hc48.1 (Option.some.inj e))
        cases m with
        | true => exact mag_t.2 ⟨hlen, hne⟩
        | false => exact mag_f.2 ⟨hlen, fun e => absurd e hne⟩
theorem tail_of (s : ByteArray) : (s.extract 1 s.size).data.toList = s.data.toList.tail := by
 rw [ByteArray.data_extract, Array.toList_extract, size_len];simp only [List.extract_eq_take_drop, List.drop_one];exact List.take_of_length_le (by rw [List.length_tail]; exact Nat.le_refl _)
theorem int_ev (z : Int) (s : ByteArray) (l2 : List ByteArray) (l3 : List S44) : Ev (fun k => R4q_Int.f k z s l2 l3) (if z = 3 then intT s.data.toList else (0, false)) := by
  have hz := size_len s;by_cases h : z = 3
  · rw [if_pos h, intT_eq]
    unfold refI
    show Ev (fun k => if z = 3 then _ else _) _
    refine evT h ?_;by_cases h1 : (s.size : Int) > 0
    · refine evT h1 ?_
      refine evT h1 ?_
      obtain ⟨c, r, hL⟩ : ∃ c r, s.data.toList = c :: r := by
        cases hL : s.data.toList with
        | nil => have h9 : s.size = 0 := by (rw [hz, hL]; rfl)
                 omega
        | cons c r => exact ⟨c, r, rfl⟩
      have hb0 : bt s 0 = (c.toNat : Int) := by
        have := bt_at s 0 (by rw [hL]; simp);rw [show ((0 : Nat) : Int) = (0 : Int) from rfl] at this;rw [this]
        simp [hL]
      have hh : (s.data.toList.head? == some 45) = (bt s 0 == 45) := by
        rw [hL, hb0, List.head?_cons, Bool.eq_iff_iff, beq_iff_eq, beq_iff_eq];exact ⟨fun e => by rw [Option.some.inj e]; rfl, fun e => congrArg some (UInt8.toNat_inj.1 (by show c.toNat = 45; omega))⟩
      rw [hh]
      cases hm : (bt s 0 == 45) with
      | true =>
        refine Ev.step (fun k => rfl) ?_;have := j1_ev (s.extract 1 s.size) true;rw [tail_of] at this;exact evT (c := 1 ≤ (s.size : Int)) (B := fun _ => none) (by omega) this
      | false =>
        show Ev (fun k => R4q_Int.j0 k s false) (refC false s.data.toList)
        refine Ev.step (fun k => rfl) ?_;exact j1_ev s false
    · refine evF h1 ?_
      have hL : s.data.toList = [] := List.eq_nil_of_length_eq_zero (by omega);have := j1_ev s false;rw [hL] at this ⊢
      show Ev (fun k => R4q_Int.j0 k s false) (refC false [])
      refine Ev.step (fun k => rfl) ?_;exact this
  · rw [if_neg h]
    exact evF h (Ev.now _)
end Go.Proofs.YteighppcdpaekaaDoor.Num
end
section
namespace Go.Proofs.YteighppcdpaekaaDoor.Eq4
open Go.RowKit Go.Proofs.YteighppcdpaekaaDoorW.PrintWords Go.Proofs.YteighppcdpaekaaDoor.P
def getP (v : S27) (key : ByteArray) : Option S27 := json_Get.o v.f0 v.f2 v.f3 key
def zS : S27 := ⟨0, ⟨#[]⟩, [], []⟩
def resJ (o : Option S27) : Int × ByteArray × List ByteArray × List S27 × Bool := match o with
 | some x => (x.f0, x.f1, x.f2, x.f3, true)
 | none => (0, ⟨#[]⟩, [], [], false)
def resR (o : Option S27) : Int × ByteArray × List ByteArray × List S44 × Bool := match o with
 | some x => (x.f0, x.f1, x.f2, ofL x.f3, true)
 | none => (0, ⟨#[]⟩, [], [], false)
theorem findK_mem {key : ByteArray} : ∀ {ks : List ByteArray} {xs : List S27} {x : S27}, getT key ks xs = some x → x ∈ xs
 | k :: ks, y :: xs, x, h => by
  unfold getT at h
  split at h
  ·exact List.mem_cons.2 (.inl (Option.some.inj h).symm)
  ·exact List.mem_cons_of_mem _ (findK_mem h)
 | [], _, _, h => by simp [getT] at h
 | _ :: _, [], _, h => by simp [getT] at h
theorem getT_ofL {key : ByteArray} : ∀ (ks : List ByteArray) (xs : List S27), getT key ks (ofL xs) = (getT key ks xs).map ofS
 | k :: ks, y :: xs => by
  rw [ofL_map, List.map_cons];unfold getT
  split
  ·rfl
  ·rw [← ofL_map]; exact getT_ofL ks xs
 | [], xs => by simp [getT]
 | _ :: _, [] => by simp [getT, ofL_map]
theorem get_j (v : S27) (key : ByteArray) (_ : v.f2.length ≤ 3000) : Ev (fun k => json_Get.f k v.f0 v.f1 v.f2 v.f3 key) (resJ (getP v key)) := by
 refine ⟨0, fun k _ => ?_⟩
 show json_Get.f k v.f0 v.f1 v.f2 v.f3 key = _
 unfold json_Get.f getP
 cases json_Get.o v.f0 v.f2 v.f3 key <;> rfl
theorem get_r (v : S27) (key : ByteArray) (_ : v.f2.length ≤ 3000) : Ev (fun k => R4q_Get.f k v.f0 v.f1 v.f2 (ofL v.f3) key) (resR (getP v key)) := by
 refine ⟨0, fun k _ => ?_⟩
 show R4q_Get.f k v.f0 v.f1 v.f2 (ofL v.f3) key = _
 have e : R4q_Get.o v.f0 v.f2 (ofL v.f3) key = (getP v key).map ofS := by
  unfold R4q_Get.o getP json_Get.o;rw [getT_ofL, show (ofL v.f3).length = v.f3.length by rw [ofL_map, List.length_map]]
  split <;> rfl
 unfold R4q_Get.f;rw [e]
 cases getP v key with
 | none => rfl
 | some x =>
  show some ((ofS x).f0, (ofS x).f1, (ofS x).f2, (ofS x).f3, true) = _
  rw [ofS_eq]
  rfl
end Go.Proofs.YteighppcdpaekaaDoor.Eq4
end
section
namespace Go.Proofs.YteighppcdpaekaaDoor.Eq4
open Go.RowKit Go.Proofs.YteighppcdpaekaaDoorW.PrintWords Go.Proofs.YteighppcdpaekaaDoor.P
variable {v : S27}
theorem light_z : Light zS := ⟨by simp [zS], by simp [zS], by simp [zS]; decide, fun i h => by simp [zS] at h, fun x h => by simp [zS] at h⟩
theorem getP_light {key : ByteArray} (hL : Light v) {x : S27} (h : getP v key = some x) : Light x := by
 unfold getP json_Get.o at h
 split at h
 ·exact hL.out.2.2.2.2 x (findK_mem h)
 ·cases h
def orZ (o : Option S27) : S27 := o.getD zS
theorem resJ_eq (o : Option S27) : resJ o = ((orZ o).f0, (orZ o).f1, (orZ o).f2, (orZ o).f3, o.isSome) := by cases o <;> rfl
theorem resR_eq (o : Option S27) : resR o = ((orZ o).f0, (orZ o).f1, (orZ o).f2, ofL (orZ o).f3, o.isSome) := by cases o <;> rfl
def intP (x : S27) : Int × Bool := if x.f0 = 3 then intT x.f1.data.toList else (0, false)
theorem orZ_light {key : ByteArray} (hL : Light v) : Light (orZ (getP v key)) := by
 cases h : getP v key with
 | none => exact light_z
 | some x => exact getP_light hL h
theorem intJ {x : S27} (hL : Light x) : json_Int.f x.f0 x.f1 x.f2 x.f3 = some (intP x) := by
 unfold json_Int.f;rw [if_pos (by have := hL.out.2.2.1; omega)]
 rfl
theorem intR (x : S27) : Ev (fun k => R4q_Int.f k x.f0 x.f1 x.f2 (ofL x.f3)) (intP x) := Num.int_ev _ _ _ _
end Go.Proofs.YteighppcdpaekaaDoor.Eq4
end
section
namespace Go.Proofs.YteighppcdpaekaaDoor.P
open Go.RowKit Go.Proofs.YteighppcdpaekaaDoorW.PrintWords Go.Proofs.YteighppcdpaekaaDoorW.PrintLast Go.Proofs.YteighppcdpaekaaDoorW.PrintMore
set_option linter.unusedVariables false
set_option linter.unusedSimpArgs false
theorem absP0 {P : Program} {c : Code} {Q : Exit → Act → World → Prop} {a : Act} {W : World} (p : World → Prop) (h : p W) (hk : ∀ W', p W' → c.wp P Q a W') : c.wp P Q a W := hk W h
theorem hdBq {w w' : World} {p : Addr} {x : Value} (hb : Below w.heap.size w w') (h : w.cell? p = some x) : w'.cell? p = some x := (hb.cell (World.block_lt_of_cell? _ _ h)).trans h
theorem held_alloc {w : World} {o : Obj} {p : Addr} {x : Value} (h : w.cell? p = some x) : (w.alloc o).cell? p = some x := (World.cell?_alloc_lt _ _ _ (World.block_lt_of_cell? _ _ h)).trans h
def TPost (w : World) (m : Nat → Prop) (r : S27) (e : Ending) (w' : World) : Prop :=
 ∃ v2 v3 : Value, e = .returned (.agg #[.int .i64 r.f0, .string r.f1, v2, v3]) ∧ Kd.V Kd.string 9 w' 0 (fun k => (m k ∨ w.heap.size ≤ k) ∧ some k ≠ v3.ownBlock) v2 r.f2 ∧ Kd.N k27 27 w' w.heap.size (fun k => m k ∨ w.heap.size ≤ k) v3 r.f3 ∧ Below w.heap.size w w'
def TS (m : Nat → Prop) (w : World) (t0 : Int) (t1 : ByteArray) (v2 v3 : Value) (W : World) (lv : Value) (l : List S27) : Prop :=
 Ctx [uBlk (w.heap.size + 2) [.int .i64 t0, .string t1, v2, lv] 27, uBlk (w.heap.size + 1) [.int .i64 0, .string ⟨#[]⟩, .slice none 0 0, .slice none 0 0] 27, uBlk w.heap.size [.int .i64 t0, .string t1, v2, v3] 44, uB w] W ∧
 Kd.N k27 27 W (w.heap.size + 3) (fun k => m k ∨ w.heap.size + 3 ≤ k) lv l
theorem TS.start {m : Nat → Prop} {w : World} {t0 : Int} {t1 : ByteArray} {v2 v3 : Value} : TS m w t0 t1 v2 v3 (((w.alloc (.cells #[.int .i64 t0, .string t1, v2, v3] 44 (0, 0))).alloc (.cells #[.int .i64 0, .string ⟨#[]⟩, .slice none 0 0, .slice none 0 0] 27 (0, 0))).alloc (.cells #[.int .i64 t0, .string t1, v2, .slice none 0 0] 27 (0, 0))) (.slice none 0 0) [] := by
 refine ⟨?_, Kd.N_nil _ _ _ _ _⟩;have e := Ctx.new (cs := [.int .i64 t0, .string t1, v2, .slice none 0 0]) (t := 27) (Ctx.new (cs := [.int .i64 0, .string ⟨#[]⟩, .slice none 0 0, .slice none 0 0]) (t := 27) (Ctx.new (cs := [.int .i64 t0, .string t1, v2, v3]) (t := 44) (Ctx.cons (uB w) (Below.refl _ _) (Ctx.nil))))
 simpa using e
section
variable {m : Nat → Prop} {w W W' : World} {t0 : Int} {t1 : ByteArray} {v2 v3 lv v : Value} {l l' : List S27}
theorem TS.below (h : TS m w t0 t1 v2 v3 W lv l) (hb : Below W.heap.size W W') : TS m w t0 t1 v2 v3 W' lv l := ⟨h.1.below hb, Kd.N_below h.2 hb⟩
theorem TS.drew (h : TS m w t0 t1 v2 v3 W lv l) : TS m w t0 t1 v2 v3 W.drew lv l := h.below (below_drew (Below.refl _ _))
theorem TS.alloc (h : TS m w t0 t1 v2 v3 W lv l) (x : Obj) : TS m w t0 t1 v2 v3 (W.alloc x) lv l := h.below (bal (Below.refl _ _) x)
theorem TS.cells (h : TS m w t0 t1 v2 v3 W lv l) :
  (W.cell? ⟨w.heap.size, 0, none⟩ = some (.int .i64 t0) ∧ W.cell? ⟨w.heap.size, 1, none⟩ = some (.string t1) ∧ W.cell? ⟨w.heap.size, 2, none⟩ = some v2 ∧ W.cell? ⟨w.heap.size, 3, none⟩ = some v3) ∧
  (W.cell? ⟨w.heap.size + 1, 0, none⟩ = some (.int .i64 0) ∧ W.cell? ⟨w.heap.size + 1, 1, none⟩ = some (.string ⟨#[]⟩) ∧ W.cell? ⟨w.heap.size + 1, 2, none⟩ = some (.slice none 0 0) ∧ W.cell? ⟨w.heap.size + 1, 3, none⟩ = some (.slice none 0 0)) ∧
  (W.cell? ⟨w.heap.size + 2, 0, none⟩ = some (.int .i64 t0) ∧ W.cell? ⟨w.heap.size + 2, 1, none⟩ = some (.string t1) ∧ W.cell? ⟨w.heap.size + 2, 2, none⟩ = some v2 ∧ W.cell? ⟨w.heap.size + 2, 3, none⟩ = some lv) ∧
  (W.frozen? ⟨w.heap.size + 1, 0, none⟩ = false ∧ W.frozen? ⟨w.heap.size + 1, 1, none⟩ = false ∧ W.frozen? ⟨w.heap.size + 1, 2, none⟩ = false ∧ W.frozen? ⟨w.heap.size + 1, 3, none⟩ = false) ∧ W.frozen? ⟨w.heap.size + 2, 3, none⟩ = false := by
 obtain ⟨⟨b3, b2, b1, hB, _⟩, _⟩ := h;exact ⟨⟨Ctx.blk b1 0 rfl, Ctx.blk b1 1 rfl, Ctx.blk b1 2 rfl, Ctx.blk b1 3 rfl⟩, ⟨Ctx.blk b2 0 rfl, Ctx.blk b2 1 rfl, Ctx.blk b2 2 rfl, Ctx.blk b2 3 rfl⟩, ⟨Ctx.blk b3 0 rfl, Ctx.blk b3 1 rfl, Ctx.blk b3 2 rfl, Ctx.blk b3 3 rfl⟩, ⟨Ctx.frz b2 0, Ctx.frz b2 1, Ctx.frz b2 2, Ctx.frz b2 3⟩, Ctx.frz b3 3⟩
theorem TS.grown (h : TS m w t0 t1 v2 v3 W lv l) (hg : W.grownBy W' lv.ownBlock) : Ctx [uBlk (w.heap.size + 2) [.int .i64 t0, .string t1, v2, lv] 27, uBlk (w.heap.size + 1) [.int .i64 0, .string ⟨#[]⟩, .slice none 0 0, .slice none 0 0] 27, uBlk w.heap.size [.int .i64 t0, .string t1, v2, v3] 44, uB w] W' := by
 obtain ⟨⟨b3, b2, b1, hB, _⟩, hN⟩ := h;have hb := Kd.N_base hN
 have hne : ∀ i, i < w.heap.size + 3 → some i ≠ lv.ownBlock := fun i hi e => by have := hb _ e.symm; omega
 exact ⟨blk_grown b3 hg (hne _ (by omega)), blk_grown b2 hg (hne _ (by omega)), blk_grown b1 hg (hne _ (by omega)), Below.grown hB hg (Below.size hB) (fun k hk => by have := hb k hk; omega), trivial⟩
theorem TS.put (h : Ctx [uBlk (w.heap.size + 2) [.int .i64 t0, .string t1, v2, lv] 27, uBlk (w.heap.size + 1) [.int .i64 0, .string ⟨#[]⟩, .slice none 0 0, .slice none 0 0] 27, uBlk w.heap.size [.int .i64 t0, .string t1, v2, v3] 44, uB w] W) (hm : ∀ k, m k → k < w.heap.size) (hN : Kd.N k27 27 W (w.heap.size + 3) (fun k => m k ∨ w.heap.size + 3 ≤ k) v l') : TS m w t0 t1 v2 v3 (W.setCell ⟨w.heap.size + 2, 3, none⟩ v) v l' := by
 obtain ⟨b3, b2, b1, hB, _⟩ := h;refine ⟨⟨Ctx.put b3 3 v, Ctx.far b2 3 v (by omega), Ctx.far b1 3 v (by omega), bstq hB (by show w.heap.size ≤ w.heap.size + 2; omega), trivial⟩, Kd.N_far hN (fun k hk => ?_) v⟩
 show k ≠ w.heap.size + 2
 rcases hk with hk | hk
 ·have := hm k hk; omega
 ·omega
theorem TS.fin (h : TS m w t0 t1 v2 v3 W lv l) (hm : ∀ k, m k → k < w.heap.size) {t2 : List ByteArray} (hV : Kd.V Kd.string 9 W 0 m v2 t2) (wf : World) (hw : wf = (((W.setCell ⟨w.heap.size + 1, 0, none⟩ (.int .i64 t0)).setCell ⟨w.heap.size + 1, 1, none⟩ (.string t1)).setCell ⟨w.heap.size + 1, 2, none⟩ v2).setCell ⟨w.heap.size + 1, 3, none⟩ lv) :
  TPost w m ⟨t0, t1, t2, l⟩ (.returned (.agg #[.int .i64 t0, .string t1, v2, lv])) wf ∧ wf.cell? ⟨w.heap.size + 1, 0, none⟩ = some (.int .i64 t0) ∧ wf.cell? ⟨w.heap.size + 1, 1, none⟩ = some (.string t1) ∧ wf.cell? ⟨w.heap.size + 1, 2, none⟩ = some v2 ∧ wf.cell? ⟨w.heap.size + 1, 3, none⟩ = some lv := by
 subst hw;obtain ⟨⟨b3, b2, b1, hB, _⟩, hN⟩ := h;have hp := Ctx.put (Ctx.put (Ctx.put (Ctx.put b2 0 (.int .i64 t0)) 1 (.string t1)) 2 v2) 3 lv;have hg := Nat.le_succ w.heap.size
 have hne : ∀ k, m k ∨ w.heap.size + 3 ≤ k → k ≠ w.heap.size + 1 := fun k hk => by
  rcases hk with hk | hk
  ·have := hm k hk; omega
  ·omega
 have hne2 : ∀ k, m k → k ≠ w.heap.size + 1 := fun k hk => by have := hm k hk; omega
 refine ⟨⟨v2, lv, rfl, ?_, ?_, bstq (bstq (bstq (bstq hB hg) hg) hg) hg⟩, Ctx.blk hp 0 rfl, Ctx.blk hp 1 rfl, Ctx.blk hp 2 rfl, Ctx.blk hp 3 rfl⟩
 ·exact Kd.V_mono (Kd.V_far (p := ⟨w.heap.size + 1, 3, none⟩) (Kd.V_far (p := ⟨w.heap.size + 1, 2, none⟩) (Kd.V_far (p := ⟨w.heap.size + 1, 1, none⟩) (Kd.V_far (p := ⟨w.heap.size + 1, 0, none⟩) hV hne2 _) hne2 _) hne2 _) hne2 _) (fun k hk => ⟨.inl hk, fun e => by have := Kd.N_base hN k e.symm; have := hm k hk; omega⟩)
 ·exact Kd.N_lower (Kd.N_mono (Kd.N_far (p := ⟨w.heap.size + 1, 3, none⟩) (Kd.N_far (p := ⟨w.heap.size + 1, 2, none⟩) (Kd.N_far (p := ⟨w.heap.size + 1, 1, none⟩) (Kd.N_far (p := ⟨w.heap.size + 1, 0, none⟩) hN hne _) hne _) hne _) hne _) (fun k hk => hk.imp id (fun h => by omega))) (by omega)
end
def to06.T5 : Bool × List (List Nat × List Nat) := (true, [([], []), ([0], [0]), ([], []), ([2], [2]), ([], []), ([3, 4], [3, 4]), ([5], [5]), ([6], [6]), ([7], [7]), ([1, 8, 7], [1, 8]), ([0, 1, 2, 3, 4, 5, 6, 7, 8, 9], []), ([10, 9, 9, 0, 1, 2, 3, 4, 5, 6, 7, 8, 9], [9, 10])])
theorem to06.tab5 : rtab .any (opsOf Tryd.f21 5) = to06.T5 := by kernel_rfl
theorem to06.bits5 : waitsOk to06.T5.2 [0, 1, 0, 4, 0, 28, 60, 124, 252, 511, 1023, 2047] = true := by kernel_rfl
end Go.Proofs.YteighppcdpaekaaDoor.P
end
section
namespace Go.Proofs.YteighppcdpaekaaDoor.Rf
open Go.RowKit Go.Proofs.YteighppcdpaekaaDoorW.PrintWords Go.Proofs.YteighppcdpaekaaDoor Go.Proofs.YteighppcdpaekaaDoor.P
mutual
theorem toR_ofS : ∀ v : Js.Val, toR v = Eq4.ofS (Rd.toS v)
 | .mk k t ks l => by
  rw [toR, Rd.toS, Eq4.ofS_eq];simp only;rw [toRs_ofL l]
theorem toRs_ofL : ∀ l : List Js.Val, toRs l = Eq4.ofL (Rd.toSs l)
 | [] => rfl
 | v :: r => by
  rw [toRs, Rd.toSs, Eq4.ofL_map, List.map_cons, ← Eq4.ofL_map, toR_ofS v, toRs_ofL r]
end
end Go.Proofs.YteighppcdpaekaaDoor.Rf
end
section
namespace Go.Proofs.YteighppcdpaekaaDoor.Rf
open Go.RowKit Go.Proofs.YteighppcdpaekaaDoorW.PrintWords Go.Proofs.YteighppcdpaekaaDoor Go.Proofs.YteighppcdpaekaaDoor.P
variable {b : List Int}
abbrev LightV (v : Js.Val) : Prop := Eq4.Light (Rd.toS v)
theorem mkL {k : Int} {t : List Int} {ks : List (List Int)} {l : List Js.Val} (ht : t.length ≤ 3000) (hks : ks.length ≤ 3000) (hk : ∀ x ∈ ks, x.length ≤ 3000) (hll : l.length ≤ 3000) (hL : ∀ x ∈ l, LightV x) : LightV (.mk k t ks l) := by
 show Eq4.Light (Rd.toS (.mk k t ks l))
 rw [Rd.toS];refine Eq4.Light.mk ?_ ?_ ?_ ?_ ?_
 ·show (Rd.toSs l).length ≤ 3000
  rw [Rd.toSs_length]; exact hll
 ·show (ks.map strOfNums).length ≤ 3000
  rw [List.length_map]; exact hks
 ·show (strOfNums t).size ≤ 3000
  rw [strOfNums_size]; exact ht
 ·intro i h
  show ((ks.map strOfNums)[i]).size ≤ 3000
  rw [List.getElem_map, strOfNums_size];exact hk _ (List.getElem_mem _)
 ·intro x hx
  have hx : x ∈ Rd.toSs l := hx;rw [Rd.toSs_map] at hx;obtain ⟨y, hy, rfl⟩ := List.mem_map.1 hx;exact hL y hy
theorem light_items {k : Nat} (hl : b.length ≤ 3000) (ihV : ∀ d p v q, Js.value b k d p = some (.ok v q) → LightV v) (ihI : ∀ d l p v q, p ≤ b.length → l.length ≤ p → (∀ x ∈ l, LightV x) → Js.items b k d l p = some (.ok v q) → LightV v) :
  ∀ d l p v q, p ≤ b.length → l.length ≤ p → (∀ x ∈ l, LightV x) → Js.items b (k + 1) d l p = some (.ok v q) → LightV v := by
 intro d l p v q hp hlp hL h;simp only [Js.items] at h
 split at h
 ·cases h
 ·simp at h
 ·rename_i x r hv
  have hvl := Js.value_le hv;have hx := ihV _ _ _ _ hv
  have hL2 : ∀ y ∈ l ++ [x], LightV y := fun y hy => (List.mem_append.1 hy).elim (hL y) (fun e => by simp at e; rw [e]; exact hx)
  split at h
  ·simp at h
  ·rename_i r2 hc
   have hcl := Js.comma_le hvl.2 hc;exact ihI _ _ _ _ _ hcl.2 (by simp; omega) hL2 h
  ·rename_i r2 hc
   have hcl := Js.comma_le hvl.2 hc;simp only [Option.some.injEq, Js.Out.ok.injEq] at h;obtain ⟨rfl, _⟩ := h;exact mkL (by simp) (by simp) (by simp) (by simp; omega) hL2
theorem light_pairs {k : Nat} (hb : ∀ x ∈ b, 0 ≤ x ∧ x ≤ 255) (hl : b.length ≤ 3000) (ihV : ∀ d p v q, Js.value b k d p = some (.ok v q) → LightV v) (ihP : ∀ d ks l p v q, p ≤ b.length → l.length ≤ p → ks.length ≤ p → (∀ x ∈ ks, x.length ≤ 3000) → (∀ x ∈ l, LightV x) → Js.pairs b k d ks l p = some (.ok v q) → LightV v) :
  ∀ d ks l p v q, p ≤ b.length → l.length ≤ p → ks.length ≤ p → (∀ x ∈ ks, x.length ≤ 3000) → (∀ x ∈ l, LightV x) → Js.pairs b (k + 1) d ks l p = some (.ok v q) → LightV v := by
 intro d ks l p v q hp hlp hkp hK hL h;simp only [Js.pairs] at h
 split at h
 ·cases h
 ·simp at h
 ·rename_i key r ht
  have htl := Js.text_le ht;have hkl := (Js.text_bytes hb ht).2
  split at h
  ·simp at h
  ·split at h
   ·simp at h
   ·split at h
    ·split at h
     ·cases h
     ·simp at h
     ·rename_i c58 hxx h58 _ x r1 hv
      have hvl := Js.value_le hv;have hx := ihV _ _ _ _ hv
      have hL2 : ∀ y ∈ l ++ [x], LightV y := fun y hy => (List.mem_append.1 hy).elim (hL y) (fun e => by simp at e; rw [e]; exact hx)
      have hK2 : ∀ y ∈ ks ++ [key], y.length ≤ 3000 := fun y hy => (List.mem_append.1 hy).elim (hK y) (fun e => by simp at e; rw [e]; omega)
      have hbl := Js.blank_le (b := b) (p := r) htl.2
      have hpos : p < r1 := by
       have := hvl.1;have h2 := Js.blank_le (b := b) (p := Js.blank b r + 1) (by have := (List.getElem?_eq_some_iff.1 hxx).1; omega)
       omega
      split at h
      ·simp at h
      ·rename_i r2 hc
       have hcl := Js.comma_le hvl.2 hc;exact ihP _ _ _ _ _ _ hcl.2 (by simp; omega) (by simp; omega) hK2 hL2 h
      ·rename_i r2 hc
       have hcl := Js.comma_le hvl.2 hc;simp only [Option.some.injEq, Js.Out.ok.injEq] at h;obtain ⟨rfl, _⟩ := h;exact mkL (by simp) (by simp; omega) hK2 (by simp; omega) hL2
    ·simp at h
theorem light_value {k : Nat} (hb : ∀ x ∈ b, 0 ≤ x ∧ x ≤ 255) (hl : b.length ≤ 3000) (ihI : ∀ d l p v q, p ≤ b.length → l.length ≤ p → (∀ x ∈ l, LightV x) → Js.items b k d l p = some (.ok v q) → LightV v)
  (ihP : ∀ d ks l p v q, p ≤ b.length → l.length ≤ p → ks.length ≤ p → (∀ x ∈ ks, x.length ≤ 3000) → (∀ x ∈ l, LightV x) → Js.pairs b k d ks l p = some (.ok v q) → LightV v) :
  ∀ d p v q, Js.value b (k + 1) d p = some (.ok v q) → LightV v := by
 intro d p v q h
 have nil : ∀ kd, LightV (.mk kd [] [] []) := fun kd => mkL (by simp) (by simp) (by simp) (by simp) (by simp)
 have ins : ∀ {q1 c}, b[q1]? = some c → q1 ≤ b.length := fun h => Nat.le_of_lt (List.getElem?_eq_some_iff.1 h).1
 rw [Js.value_succ] at h
 split at h
 ·simp at h
 ·rename_i c hx
  split at h
  ·unfold Js.obj at h
   split at h
   ·simp at h
   ·split at h
    ·simp at h
    ·rename_i c2 hx2
     split at h
     ·simp only [Option.some.injEq, Js.Out.ok.injEq] at h
      obtain ⟨rfl, _⟩ := h;exact nil 6
     ·exact ihP _ _ _ _ _ _ (ins hx2) (by simp) (by simp) (by simp) (by simp) h
  ·split at h
   ·unfold Js.arr at h
    split at h
    ·simp at h
    ·split at h
     ·simp at h
     ·rename_i c2 hx2
      split at h
      ·simp only [Option.some.injEq, Js.Out.ok.injEq] at h
       obtain ⟨rfl, _⟩ := h;exact nil 5
      ·exact ihI _ _ _ _ _ (ins hx2) (by simp) (by simp) h
   ·split at h
    ·obtain ⟨o, ho, h⟩ := Option.map_eq_some_iff.mp h
     cases o with
     | no y e => simp [Js.strV] at h
     | ok l r =>
      simp only [Js.strV, Js.Out.ok.injEq] at h;obtain ⟨rfl, _⟩ := h;have h1 := (Js.text_bytes hb ho).2;have h2 := (Js.text_le ho).2;exact mkL (by omega) (by simp) (by simp) (by simp) (by simp)
    ·have wd : ∀ kd o, Js.wordV kd o = .ok v q → LightV v := fun kd o h => by
      cases o with
      | no y e => simp [Js.wordV] at h
      | ok l r =>
       simp only [Js.wordV, Js.Out.ok.injEq] at h;obtain ⟨rfl, _⟩ := h;exact nil kd
     split at h
     ·exact wd _ _ (Option.some.inj h)
     ·split at h
      ·exact wd _ _ (Option.some.inj h)
      ·split at h
       ·exact wd _ _ (Option.some.inj h)
       ·have h := Option.some.inj h
        cases hn : Js.number b p with
        | no y e => rw [hn] at h; simp [Js.numV] at h
        | ok l r =>
         rw [hn] at h;simp only [Js.numV, Js.Out.ok.injEq] at h;obtain ⟨rfl, _⟩ := h;exact mkL (by rw [List.length_drop, List.length_take]; omega) (by simp) (by simp) (by simp) (by simp)
theorem light_all (hb : ∀ x ∈ b, 0 ≤ x ∧ x ≤ 255) (hl : b.length ≤ 3000) : ∀ k, (∀ d p v q, Js.value b k d p = some (.ok v q) → LightV v) ∧ (∀ d l p v q, p ≤ b.length → l.length ≤ p → (∀ x ∈ l, LightV x) → Js.items b k d l p = some (.ok v q) → LightV v) ∧
  (∀ d ks l p v q, p ≤ b.length → l.length ≤ p → ks.length ≤ p → (∀ x ∈ ks, x.length ≤ 3000) → (∀ x ∈ l, LightV x) → Js.pairs b k d ks l p = some (.ok v q) → LightV v)
 | 0 => ⟨fun d p v q h => by simp [Js.value] at h, fun d l p v q _ _ _ h => by simp [Js.items] at h, fun d ks l p v q _ _ _ _ _ h => by simp [Js.pairs] at h⟩
 | k + 1 => by
  obtain ⟨h1, h2, h3⟩ := light_all hb hl k;exact ⟨light_value hb hl h2 h3, light_items hl h1 h2, light_pairs hb hl h1 h3⟩
end Go.Proofs.YteighppcdpaekaaDoor.Rf
end
section
namespace Go.Proofs.YteighppcdpaekaaDoor.Eq4
open Go.RowKit Go.Proofs.YteighppcdpaekaaDoorW.PrintWords Go.Proofs.YteighppcdpaekaaDoor.P Go.Proofs.YteighppcdpaekaaDoor.Rf
variable {v : S27}
abbrev sId : ByteArray := ⟨#[105, 100]⟩
abbrev sVer : ByteArray := ⟨#[106, 115, 111, 110, 114, 112, 99]⟩
abbrev sMethod : ByteArray := ⟨#[109, 101, 116, 104, 111, 100]⟩
abbrev sResult : ByteArray := ⟨#[114, 101, 115, 117, 108, 116]⟩
abbrev sError : ByteArray := ⟨#[101, 114, 114, 111, 114]⟩
abbrev sParams : ByteArray := ⟨#[112, 97, 114, 97, 109, 115]⟩
structure RdR where
 has : Bool
 id : S27
 method : ByteArray
 params : S27
 code : Int
 fid : S27
 ok : Bool
def RdR.j (r : RdR) : RdOut := (r.has, r.id.f0, r.id.f1, r.id.f2, r.id.f3, r.method, r.params.f0, r.params.f1, r.params.f2, r.params.f3, r.code, r.fid.f0, r.fid.f1, r.fid.f2, r.fid.f3, r.ok)
def RdR.r (r : RdR) : R6Out := (r.has, r.id.f0, r.id.f1, r.id.f2, ofL r.id.f3, r.method, r.params.f0, r.params.f1, r.params.f2, ofL r.params.f3, r.code, r.fid.f0, r.fid.f1, r.fid.f2, ofL r.fid.f3, r.ok)
def noP (cd : Int) (i : S27) : RdR := ⟨false, zS, ⟨#[]⟩, zS, cd, i, false⟩
def paramsP (v i : S27) (ih : Bool) (m : S27) : RdR :=
 if (m.f0 != 4 || ((getP v sParams).isSome && ((orZ (getP v sParams)).f0 != 5 && (orZ (getP v sParams)).f0 != 6))) = true then noP (-32600) i
 else ⟨ih, i, m.f1, orZ (getP v sParams), 0, zS, true⟩
def repliesP (v i : S27) (ih : Bool) : RdR :=
 if (ih && ((getP v sResult).isSome || (getP v sError).isSome)) = true then noP 0 zS else noP (-32600) i
def methodP (v i : S27) (ih : Bool) : RdR :=
 if (getP v sMethod).isSome = false then repliesP v i ih else paramsP v i ih (orZ (getP v sMethod))
def oddP (v : S27) : Bool := v.f0 != 6 || !(getP v sVer).isSome || (orZ (getP v sVer)).f0 != 4 || (orZ (getP v sVer)).f1.toList != [50, 46, 48]
def versionP (v i : S27) (ih : Bool) : RdR := if oddP v = true then noP (-32600) i else methodP v i ih
def badP (i : S27) (ih : Bool) : Bool := ih && (i.f0 != 4 && !(intP i).2)
def readP (v : S27) : RdR :=
 if badP (orZ (getP v sId)) (getP v sId).isSome = true then noP (-32600) zS else versionP v (orZ (getP v sId)) (getP v sId).isSome
theorem light_no (cd : Int) {i : S27} (h : Light i) : Light (noP cd i).id ∧ Light (noP cd i).params ∧ Light (noP cd i).fid := ⟨light_z, light_z, h⟩
theorem readP_light (hL : Light v) : Light (readP v).id ∧ Light (readP v).params ∧ Light (readP v).fid := by
 have hi := orZ_light (key := sId) hL;have hq := orZ_light (key := sParams) hL;unfold readP versionP methodP repliesP paramsP
 split
 ·exact light_no _ light_z
 ·split
  ·exact light_no _ hi
  ·split
   ·split
    ·exact light_no _ light_z
    ·exact light_no _ hi
   ·split
    ·exact light_no _ hi
    ·exact ⟨hi, hq, light_z⟩
theorem evI {α : Type} {c : Prop} [Decidable c] {A B : Nat → Option α} {r s : α} (h1 : c → Ev A r) (h2 : ¬ c → Ev B s) : Ev (fun k => if c then A k else B k) (if c then r else s) := by
 by_cases h : c
 ·simp only [if_pos h]; exact h1 h
 ·simp only [if_neg h]; exact h2 h
theorem apI {α β : Type} (f : α → β) {c : Prop} [Decidable c] (a b : α) : f (if c then a else b) = if c then f a else f b := by split <;> rfl
theorem params_r (hL : Light v) (i : S27) (ih : Bool) (m : S27) : Ev (fun k => read6.params k v.f0 v.f1 v.f2 (ofL v.f3) i.f0 i.f1 i.f2 (ofL i.f3) ih m.f0 m.f1) (paramsP v i ih m).r := by
 have h1 := get_r v sParams hL.out.2.1;rw [resR_eq] at h1;unfold read6.params paramsP;rw [apI RdR.r];exact Ev.bind h1 (evI (fun _ => Ev.now _) (fun _ => Ev.now _))
theorem replies_r (hL : Light v) (i : S27) (ih : Bool) : Ev (fun k => read6.replies k v.f0 v.f1 v.f2 (ofL v.f3) i.f0 i.f1 i.f2 (ofL i.f3) ih) (repliesP v i ih).r := by
 have h1 := get_r v sResult hL.out.2.1;have h2 := get_r v sError hL.out.2.1;rw [resR_eq] at h1 h2;unfold read6.replies repliesP;rw [apI RdR.r];exact Ev.bind h1 (Ev.bind h2 (evI (fun _ => Ev.now _) (fun _ => Ev.now _)))
theorem method_r (hL : Light v) (i : S27) (ih : Bool) : Ev (fun k => read6.method k v.f0 v.f1 v.f2 (ofL v.f3) i.f0 i.f1 i.f2 (ofL i.f3) ih) (methodP v i ih).r := by
 have h1 := get_r v sMethod hL.out.2.1;rw [resR_eq] at h1;unfold read6.method methodP;rw [apI RdR.r];exact Ev.bind h1 (evI (fun _ => replies_r hL i ih) (fun _ => params_r hL i ih _))
theorem version_r (hL : Light v) (i : S27) (ih : Bool) : Ev (fun k => read6.version k v.f0 v.f1 v.f2 (ofL v.f3) i.f0 i.f1 i.f2 (ofL i.f3) ih) (versionP v i ih).r := by
 have h1 := get_r v sVer hL.out.2.1;rw [resR_eq] at h1;unfold read6.version versionP;rw [apI RdR.r];exact Ev.bind h1 (evI (fun _ => Ev.now _) (fun _ => method_r hL i ih))
theorem read_r {b : List Int} (hL : Light v) {a : Int} (hp : Ev (fun k => parseF k b) (ofS v, a, 0)) : Ev (fun k => read6.f k b) (readP v).r := by
 rw [ofS_eq] at hp;have h1 := get_r v sId hL.out.2.1;rw [resR_eq] at h1;unfold read6.f readP;refine Ev.bind hp (evF (by simp) (Ev.bind h1 ?_));rw [apI RdR.r];refine Ev.bind (?_ : Ev _ (badP (orZ (getP v sId)) (getP v sId).isSome)) (evI (fun _ => Ev.now _) (fun _ => version_r hL _ _));unfold badP
 cases hs : (getP v sId).isSome
 ·exact evF (by simp) (Ev.now _)
 ·exact evT (by simp) (Ev.bind (intR _) (Ev.now _))
theorem params_j (hL : Light v) (i : S27) (ih : Bool) (m : S27) (hm : m.f0 = 4) : Ev (fun k => rpc_Read.params k v.f0 v.f1 v.f2 v.f3 i.f0 i.f1 i.f2 i.f3 ih m.f1) (paramsP v i ih m).j := by
 have h1 := get_j v sParams hL.out.2.1;rw [resJ_eq] at h1;unfold rpc_Read.params paramsP;rw [apI RdR.j];refine Ev.bind h1 ?_
 have e : (m.f0 != 4 || ((getP v sParams).isSome && ((orZ (getP v sParams)).f0 != 5 && (orZ (getP v sParams)).f0 != 6))) = ((getP v sParams).isSome && ((orZ (getP v sParams)).f0 != 6 && (orZ (getP v sParams)).f0 != 5)) := by
  rw [hm, Bool.and_comm ((orZ (getP v sParams)).f0 != 6)]; simp
 rw [e];exact evI (fun _ => Ev.now _) (fun _ => Ev.now _)
theorem replies_j (hL : Light v) (i : S27) (ih : Bool) : Ev (fun k => rpc_Read.replies k v.f0 v.f1 v.f2 v.f3 i.f0 i.f1 i.f2 i.f3 ih) (repliesP v i ih).j := by
 have h1 := get_j v sResult hL.out.2.1;have h2 := get_j v sError hL.out.2.1;rw [resJ_eq] at h1 h2;unfold rpc_Read.replies repliesP;refine Ev.bind h1 ?_;generalize (getP v sResult).isSome = x
 cases x <;> cases ih
 ·exact evF (by simp) (Ev.bind h2 (evF (by simp) (Ev.now _)))
 ·refine evF (by simp) (Ev.bind h2 ?_)
  generalize (getP v sError).isSome = y;cases y
  ·exact evF (by simp) (Ev.now _)
  ·exact evT (by simp) (Ev.now _)
 ·exact evF (by simp) (Ev.bind h2 (evF (by simp) (Ev.now _)))
 ·exact evT (by simp) (Ev.now _)
theorem method_j (hL : Light v) (i : S27) (ih : Bool) : Ev (fun k => rpc_Read.method k v.f0 v.f1 v.f2 v.f3 i.f0 i.f1 i.f2 i.f3 ih) (methodP v i ih).j := by
 have h1 := get_j v sMethod hL.out.2.1;rw [resJ_eq] at h1;unfold rpc_Read.method methodP;rw [apI RdR.j];refine Ev.bind h1 (evI (fun _ => replies_j hL i ih) (fun _ => ?_));by_cases hm : (orZ (getP v sMethod)).f0 = 4
 ·exact evF (by simpa using hm) (params_j hL i ih _ hm)
 ·have e : paramsP v i ih (orZ (getP v sMethod)) = noP (-32600) i := by
   unfold paramsP;rw [if_pos (by simp [hm])]
  rw [e];exact evT (by simpa using hm) (Ev.now _)
theorem odd_j (v : S27) : Ev (fun k => rpc_Read.odd k v.f0 (orZ (getP v sVer)).f0 (orZ (getP v sVer)).f1 (orZ (getP v sVer)).f2 (orZ (getP v sVer)).f3 (getP v sVer).isSome) (oddP v) := by
 unfold rpc_Read.odd oddP;by_cases h1 : (v.f0 != 6) = true
 ·rw [h1]
  exact evT (by simp) (Ev.now _)
 ·refine evF h1 ?_
  have h1' : (v.f0 != 6) = false := by simpa using h1
  rw [h1']
  cases (getP v sVer).isSome
  ·exact evT rfl (Ev.now _)
  ·refine evF (by simp) ?_
   refine ⟨0, fun k _ => ?_⟩
   show ((json_Text.f ⟨#[50, 46, 48]⟩).bind fun t => (eqT (orZ (getP v sVer)).f0 (orZ (getP v sVer)).f1 t.1 t.2.1).bind fun b => some (!b)) = _
   show ((eqT (orZ (getP v sVer)).f0 (orZ (getP v sVer)).f1 4 ⟨#[50, 46, 48]⟩).bind fun b => some (!b)) = _
   unfold eqT;rw [if_pos rfl];rw [show (ByteArray.toList ⟨#[50, 46, 48]⟩) = [50, 46, 48] by kernel_rfl]
   show some (!((orZ (getP v sVer)).f0 == 4 && (orZ (getP v sVer)).f1.toList == [50, 46, 48])) = _
   rw [Bool.not_and]
   rfl
theorem version_j (hL : Light v) (i : S27) (ih : Bool) : Ev (fun k => rpc_Read.version k v.f0 v.f1 v.f2 v.f3 i.f0 i.f1 i.f2 i.f3 ih) (versionP v i ih).j := by
 have h1 := get_j v sVer hL.out.2.1;rw [resJ_eq] at h1;unfold rpc_Read.version versionP;rw [apI RdR.j];exact Ev.bind h1 (Ev.bind (odd_j v) (evI (fun _ => Ev.now _) (fun _ => method_j hL i ih)))
theorem id_j {i : S27} (hL : Light i) : Ev (fun _ => rpc_isID.f i.f0 i.f1 i.f2 i.f3) (!(i.f0 != 4 && !(intP i).2)) := by
 refine ⟨0, fun k _ => ?_⟩
 show rpc_isID.f i.f0 i.f1 i.f2 i.f3 = _
 unfold rpc_isID.f;by_cases h3 : i.f0 = 3
 ·rw [if_pos h3, intJ hL]
  show some (intP i).2 = _
  rw [h3]
  cases (intP i).2 <;> rfl
 ·rw [if_neg h3]
  have h : (intP i).2 = false := by unfold intP; rw [if_neg h3]
  rw [h]
  cases hh : (i.f0 == 4) <;> simp [bne, hh]
theorem read_j {b : List Int} (hL : Light v) (hp : Ev (fun k => json_Parse.f k b) (v.f0, v.f1, v.f2, v.f3, 0, 0)) : Ev (fun k => rpc_Read.f k b) (readP v).j := by
 have h1 := get_j v sId hL.out.2.1;rw [resJ_eq] at h1;unfold rpc_Read.f readP;refine Ev.bind hp (evF (by simp) (Ev.bind h1 ?_));rw [apI RdR.j];refine Ev.bind (?_ : Ev _ (badP (orZ (getP v sId)) (getP v sId).isSome)) (evI (fun _ => Ev.now _) (fun _ => version_j hL _ _));unfold badP
 cases hs : (getP v sId).isSome
 ·exact evF (by simp) (Ev.now _)
 ·refine evT (by simp) (Ev.bind (id_j (orZ_light hL)) ?_)
  refine ⟨0, fun k _ => ?_⟩
  simp
theorem both_read {b : List Int} (hb : ∀ x ∈ b, 0 ≤ x ∧ x ≤ 255) (hl : b.length ≤ 3000) : ∃ r : RdR, Light r.id ∧ Light r.params ∧ Light r.fid ∧ Ev (fun k => rpc_Read.f k b) r.j ∧ Ev (fun k => read6.f k b) r.r := by
 rcases both_parse (b := b) ⟨hb, by omega⟩ with ⟨x, y, e, a, e', he, he', h1, h2⟩ | ⟨u, j, q, hu, h1, h2⟩
 ·refine ⟨noP (-32700) zS, light_z, light_z, light_z, ?_, ?_⟩
  ·unfold rpc_Read.f
   exact Ev.bind h1 (evT (by simpa using he) (Ev.now _))
  ·unfold read6.f
   exact Ev.bind h2 (evT (by simpa using he') (Ev.now _))
 ·have hL : Light (Rd.toS u) := (light_all hb hl j).1 _ _ _ _ hu
  rw [toR_ofS] at h2;obtain ⟨l1, l2, l3⟩ := readP_light hL;exact ⟨readP (Rd.toS u), l1, l2, l3, read_j hL h1, read_r hL h2⟩
end Go.Proofs.YteighppcdpaekaaDoor.Eq4
end
section
namespace Go.Proofs.YteighppcdpaekaaDoor.P
open Go.RowKit Go.Proofs.YteighppcdpaekaaDoorW.PrintWords Go.Proofs.YteighppcdpaekaaDoorW.PrintLast Go.Proofs.YteighppcdpaekaaDoorW.PrintMore
theorem lit_Cb (w : World) (e : TypeId) (xs : List Int) (z : Nat × Nat) (hxl : xs.length ≤ 1000) : Kd.C (Kd.int .u8) (w.alloc (.cells (xs.map (Value.int .u8)).toArray e z)) (some ⟨w.heap.size, 0, none⟩) xs.length xs := by
 have hb := blk_new w (.cells (xs.map (Value.int .u8)).toArray e z);refine Kd.C_of_reads (enc := Value.int .u8) (d := (0 : Int)) (h1 := fun _ => rfl) ⟨rfl, by omega, fun hn => ⟨_, rfl, fun j hj => ?_⟩⟩
 have ha : (⟨w.heap.size, 0, none⟩ : Addr).add j = ⟨w.heap.size, j, none⟩ := by
  unfold Addr.add
  split
  ·rename_i h0; rw [h0]
  ·simp
 rw [ha];simp only [World.cell?, hb]
 simp [List.getD_eq_getElem?_getD, List.getElem?_eq_getElem hj]
theorem rd_one : rpc_Read.f 60 [123, 34, 106, 115, 111, 110, 114, 112, 99, 34, 58, 34, 50, 46, 48, 34, 44, 34, 105, 100, 34, 58, 49, 44, 34, 109, 101, 116, 104, 111, 100, 34, 58, 34, 109, 34, 125] = some (true, 3, ⟨#[49]⟩, [], [], ⟨#[109]⟩, 0, ⟨#[]⟩, [], [], 0, 0, ⟨#[]⟩, [], [], true) := by kernel_rfl
theorem rd_two : rpc_Read.f 20 [91, 49, 93] = some (false, 0, ⟨#[]⟩, [], [], ⟨#[]⟩, 0, ⟨#[]⟩, [], [], -32600, 0, ⟨#[]⟩, [], [], false) := by kernel_rfl
def L6q_called.f : Option Bool := some true
set_option maxHeartbeats 1600000 in
set_option maxRecDepth 100000 in
theorem L6q_called.calls (r : Bool) (w : World) (h : L6q_called.f = some r) (hT : TabOk w) :
  Calls Tryd.prog 14 #[] w fun e w' => e = .returned (.bool r) ∧ Below w.heap.size w w' := by
 obtain rfl : true = r := Option.some.inj h
 have kc := fun (w : World) (C : Array Value) (n c : Nat) => Lib.run_convert_bytes_const (P := Tryd.prog) w 35 5 C n c Tryd.underlying35 Tryd.underlying5
 have HK0 := Sdq.mk (show Ctx [uTab, uB w] w from ⟨hT, Below.refl _ _, trivial⟩);clear hT;go_enter Tryd.func14, Tryd.ntmps14
 go_wp2_with fail
 refine (rpc_Read.calls0 60 _ _ [123, 34, 106, 115, 111, 110, 114, 112, 99, 34, 58, 34, 50, 46, 48, 34, 44, 34, 105, 100, 34, 58, 49, 44, 34, 109, 101, 116, 104, 111, 100, 34, 58, 34, 109, 34, 125] _ _ (lit_Cb w 5 [123, 34, 106, 115, 111, 110, 114, 112, 99, 34, 58, 34, 50, 46, 48, 34, 44, 34, 105, 100, 34, 58, 49, 44, 34, 109, 101, 116, 104, 111, 100, 34, 58, 34, 109, 34, 125] (37, 38) (by decide)) (by decide) rd_one (HK0.out.alloc _).1).mono ?_;rintro e1 w1 ⟨v3, v4, v8, v9, v13, v14, rfl, h3, h4, h8, h9, h13, h14, hB⟩;obtain ⟨A3, c3, rfl⟩ := Kd.V_slice h3;obtain ⟨A4, c4, rfl⟩ := Kd.V_slice h4;obtain ⟨A8, c8, rfl⟩ := Kd.V_slice h8;obtain ⟨A9, c9, rfl⟩ := Kd.V_slice h9;obtain ⟨A13, c13, rfl⟩ := Kd.V_slice h13;obtain ⟨A14, c14, rfl⟩ := Kd.V_slice h14;have HK1 := Sdq.mk ((HK0.out.alloc _).below hB);clear HK0 hB h3 h4 h8 h9 h13 h14
 go_upto_region 2 with fail
 have HK2 := Sdq.mk (Ctx.new (cs := [.int .i64 0, .int .i64 0, .string ⟨#[]⟩, .slice A13 0 c13, .slice A14 0 c14]) (t := 39) (Ctx.new (cs := [.bool true, .int .i64 3, .string ⟨#[49]⟩, .slice A3 0 c3, .slice A4 0 c4, .string ⟨#[109]⟩, .int .i64 0, .string ⟨#[]⟩, .slice A8 0 c8, .slice A9 0 c9]) (t := 37) HK1.out));clear HK1;refine absW _ HK2.out ?_;clear HK2;intro w2 hk;have HK2 := Sdq.mk hk;clear hk
 go_wp2_with fail
 refine (rpc_Read.calls0 20 _ _ [91, 49, 93] _ _ (lit_Cb w2 5 [91, 49, 93] (3, 4) (by decide)) (by decide) rd_two (HK2.out.alloc _).2.2.1).mono ?_;rintro e1 w3 ⟨v3, v4, v8, v9, v13, v14, rfl, h3, h4, h8, h9, h13, h14, hB⟩;obtain ⟨B3, d3, rfl⟩ := Kd.V_slice h3;obtain ⟨B4, d4, rfl⟩ := Kd.V_slice h4;obtain ⟨B8, d8, rfl⟩ := Kd.V_slice h8;obtain ⟨B9, d9, rfl⟩ := Kd.V_slice h9;obtain ⟨B13, d13, rfl⟩ := Kd.V_slice h13;obtain ⟨B14, d14, rfl⟩ := Kd.V_slice h14;have HK3 := Sdq.mk ((HK2.out.alloc _).below hB);clear HK2 hB h3 h4 h8 h9 h13 h14
 go_upto_region 3 with fail
 have HK4 := Sdq.mk (Ctx.new (cs := [.int .i64 (-32600), .int .i64 0, .string ⟨#[]⟩, .slice B13 0 d13, .slice B14 0 d14]) (t := 39) (Ctx.new (cs := [.bool false, .int .i64 0, .string ⟨#[]⟩, .slice B3 0 d3, .slice B4 0 d4, .string ⟨#[]⟩, .int .i64 0, .string ⟨#[]⟩, .slice B8 0 d8, .slice B9 0 d9]) (t := 37) HK3.out));clear HK3;refine absW _ HK4.out ?_;clear HK4;simp only [World.size_alloc];intro w4 hk;have HK4 := Sdq.mk hk;clear hk;obtain ⟨c0, c1, c2', c3', c4'⟩ := blk5 HK4.out.1;obtain ⟨d0, d1, d2, -, -, d5, d6, d7, -, -⟩ := blk10 HK4.out.2.2.2.1
 go_wp2_with fail
 go_ret;exact ⟨rfl, HK4.out.2.2.2.2.2.1⟩
end Go.Proofs.YteighppcdpaekaaDoor.P
end
section
namespace Go.Proofs.YteighppcdpaekaaDoor.P
open Go.RowKit Go.Proofs.YteighppcdpaekaaDoorW.PrintWords Go.Proofs.YteighppcdpaekaaDoorW.PrintLast Go.Proofs.YteighppcdpaekaaDoorW.PrintMore Go.Proofs.YteighppcdpaekaaDoor.Rf
theorem vfars {α : Type} {d : Kd α} {e : Nat} {v : Value} {xs : List α} {w W : World} (h : (uV d e (w.heap.size + 2) v xs).p W) (r1 r2 r3 v3 v4 r6 r7 r8 v8 v9 r11 r12 r13 v13 v14 : Value) : (uV d e (w.heap.size + 2) v xs).p (rdW w W r1 r2 r3 v3 v4 r6 r7 r8 v8 v9 r11 r12 r13 v13 v14) := (vfar (g := w.heap.size + 1) (i := 4) (vfar (g := w.heap.size + 1) (i := 3) (vfar (g := w.heap.size + 1) (i := 2) (vfar (g := w.heap.size + 1) (i := 1) (vfar (g := w.heap.size + 1) (i := 0) (vfar (g := w.heap.size) (i := 9) (vfar (g := w.heap.size) (i := 8) (vfar (g := w.heap.size) (i := 7) (vfar (g := w.heap.size) (i := 6) (vfar (g := w.heap.size) (i := 5) (vfar (g := w.heap.size) (i := 4) (vfar (g := w.heap.size) (i := 3) (vfar (g := w.heap.size) (i := 2) (vfar (g := w.heap.size) (i := 1) (vfar (g := w.heap.size) (i := 0) h _ (by omega)) _ (by omega)) _ (by omega)) _ (by omega)) _ (by omega)) _ (by omega)) _ (by omega)) _ (by omega)) _ (by omega)) _ (by omega)) _ (by omega)) _ (by omega)) _ (by omega)) _ (by omega)) _ (by omega))
theorem rd6_end {w W : World} {act : Act} {r : R6Out} {v3 v4 v8 v9 v13 v14 : Value}
  (h37 : (uBlk w.heap.size [.bool false, .int .i64 0, .string ⟨#[]⟩, .slice none 0 0, .slice none 0 0, .string ⟨#[]⟩, .int .i64 0, .string ⟨#[]⟩, .slice none 0 0, .slice none 0 0] 46).p W) (h39 : (uBlk (w.heap.size + 1) [.int .i64 0, .int .i64 0, .string ⟨#[]⟩, .slice none 0 0, .slice none 0 0] 48).p W) (hb : (uB w).p W)
  (h3 : (uV Kd.string 9 (w.heap.size + 2) v3 r.2.2.2.1).p W) (h4 : (uV k44 44 (w.heap.size + 2) v4 r.2.2.2.2.1).p W) (h8 : (uV Kd.string 9 (w.heap.size + 2) v8 r.2.2.2.2.2.2.2.2.1).p W) (h9 : (uV k44 44 (w.heap.size + 2) v9 r.2.2.2.2.2.2.2.2.2.1).p W)
  (h13 : (uV Kd.string 9 (w.heap.size + 2) v13 r.2.2.2.2.2.2.2.2.2.2.2.2.2.1).p W) (h14 : (uV k44 44 (w.heap.size + 2) v14 r.2.2.2.2.2.2.2.2.2.2.2.2.2.2.1).p W) (hd : act.defers = [])
  (t2 : act.tmps.getD 2 undef = .pointer (some ⟨w.heap.size, 0, none⟩)) (t3 : act.tmps.getD 3 undef = .pointer (some ⟨w.heap.size + 1, 0, none⟩)) (t4 : act.tmps.getD 4 undef = .bool r.2.2.2.2.2.2.2.2.2.2.2.2.2.2.2) :
  bodyPost Tryd.prog Tryd.f16 (R6Post w r) .ret act (rdW w W (.bool r.1) (.int .i64 r.2.1) (.string r.2.2.1) v3 v4 (.string r.2.2.2.2.2.1) (.int .i64 r.2.2.2.2.2.2.1) (.string r.2.2.2.2.2.2.2.1) v8 v9 (.int .i64 r.2.2.2.2.2.2.2.2.2.2.1) (.int .i64 r.2.2.2.2.2.2.2.2.2.2.2.1) (.string r.2.2.2.2.2.2.2.2.2.2.2.2.1) v13 v14) := by
 obtain ⟨r1, r2, r3, r4, r5, r6, r7, r8, r9, r10, r11, r12, r13, r14, r15, r16⟩ := r;have hb : Below w.heap.size w W := hb
 have n1 : w.heap.size ≠ w.heap.size + 1 := by omega
 have n2 : w.heap.size + 1 ≠ w.heap.size := by omega
 have e37 := (Ctx.far (Ctx.far (Ctx.far (Ctx.far (Ctx.far (Ctx.put (Ctx.put (Ctx.put (Ctx.put (Ctx.put (Ctx.put (Ctx.put (Ctx.put (Ctx.put (Ctx.put h37 0 (.bool r1)) 1 (.int .i64 r2)) 2 (.string r3)) 3 (v3)) 4 (v4)) 5 (.string r6)) 6 (.int .i64 r7)) 7 (.string r8)) 8 (v8)) 9 (v9)) 0 (.int .i64 r11) n1) 1 (.int .i64 r12) n1) 2 (.string r13) n1) 3 (v13) n1) 4 (v14) n1)
 have e39 := (Ctx.put (Ctx.put (Ctx.put (Ctx.put (Ctx.put (Ctx.far (Ctx.far (Ctx.far (Ctx.far (Ctx.far (Ctx.far (Ctx.far (Ctx.far (Ctx.far (Ctx.far h39 0 (.bool r1) n2) 1 (.int .i64 r2) n2) 2 (.string r3) n2) 3 (v3) n2) 4 (v4) n2) 5 (.string r6) n2) 6 (.int .i64 r7) n2) 7 (.string r8) n2) 8 (v8) n2) 9 (v9) n2) 0 (.int .i64 r11)) 1 (.int .i64 r12)) 2 (.string r13)) 3 (v13)) 4 (v14))
 refine absB _ (Ctx.cons (uBlk w.heap.size [.bool r1, .int .i64 r2, .string r3, v3, v4, .string r6, .int .i64 r7, .string r8, v8, v9] 46) e37 (Ctx.cons (uBlk (w.heap.size + 1) [.int .i64 r11, .int .i64 r12, .string r13, v13, v14] 48) e39 (Ctx.cons (uB w) (show Below w.heap.size w _ by repeat (first | (with_reducible exact hb) | refine bstq ?_ (by simp))) (Ctx.cons _ (vfars h3 _ _ _ _ _ _ _ _ _ _ _ _ _ _ _) (Ctx.cons _ (vfars h4 _ _ _ _ _ _ _ _ _ _ _ _ _ _ _) (Ctx.cons _ (vfars h8 _ _ _ _ _ _ _ _ _ _ _ _ _ _ _) (Ctx.cons _ (vfars h9 _ _ _ _ _ _ _ _ _ _ _ _ _ _ _) (Ctx.cons _ (vfars h13 _ _ _ _ _ _ _ _ _ _ _ _ _ _ _) (Ctx.cons _ (vfars h14 _ _ _ _ _ _ _ _ _ _ _ _ _ _ _) Ctx.nil))))))))) ?_;clear e37 e39 hb h37 h39;intro wz HZ;obtain ⟨tmps, defers⟩ := act;obtain rfl : defers = [] := hd;refine bodyPost_ret (v := .tuple #[.agg #[.bool r1, .int .i64 r2, .string r3, v3, v4, .string r6, .int .i64 r7, .string r8, v8, v9], .agg #[.int .i64 r11, .int .i64 r12, .string r13, v13, v14], .bool r16]) ?_ rfl ⟨v3, v4, v8, v9, v13, v14, rfl, vT HZ.2.2.2.1, vT HZ.2.2.2.2.1, vT HZ.2.2.2.2.2.1, vT HZ.2.2.2.2.2.2.1, vT HZ.2.2.2.2.2.2.2.1, vT HZ.2.2.2.2.2.2.2.2.1, HZ.2.2.1⟩;exact results_cct (P := Tryd.prog) (fn := Tryd.f16) Tryd.results16 _ _ w.heap.size (w.heap.size + 1) 46 48 _ _ (0, 0) (0, 0) _ _ _ t2 HZ.1 Tryd.underlying46 rfl (by kernel_rfl) t3 HZ.2.1 Tryd.underlying48 rfl (by kernel_rfl) t4
set_option linter.unusedSimpArgs false
set_option linter.unusedVariables false
set_option maxHeartbeats 6400000 in
set_option maxRecDepth 100000 in
theorem read6.calls (k : Nat) (A : Option Addr) (c : Nat) (l0 : List Int) (r : R6Out) (w : World) (hr : Kd.C (Kd.int .u8) w A l0.length l0) (hc : l0.length ≤ c) (h : read6.f k l0 = some r) :
  Calls Tryd.prog 16 #[.slice A l0.length c] w (R6Post w r) := by
 have HH := Sdq.mk h;clear h;have HK0 := Sdq.mk (Ctx.new (cs := [.int .i64 0, .int .i64 0, .string ⟨#[]⟩, .slice none 0 0, .slice none 0 0]) (t := 48) (Ctx.new (cs := [.bool false, .int .i64 0, .string ⟨#[]⟩, .slice none 0 0, .slice none 0 0, .string ⟨#[]⟩, .int .i64 0, .string ⟨#[]⟩, .slice none 0 0, .slice none 0 0]) (t := 46) (show Ctx [uB w] w from ⟨Below.refl _ _, trivial⟩)));simp only [World.size_alloc] at HK0;obtain ⟨⟨⟨p1, p2, p3, p4⟩, p5, p6⟩, hp, h1⟩ := Option.bind_eq_some_iff.mp HH.out;clear HH;have HH := Sdq.mk h1;clear h1;have HP := Sdq.mk hp;clear hp;go_enter Tryd.func16, Tryd.ntmps16
 focus go_wp2_with fail
 refine (parse_calls k _ _ l0 (⟨p1, p2, p3, p4⟩, p5, p6) _ (Kd.C_alloc (Kd.C_alloc hr _) _) hc HP.out).mono ?_;rintro e1 w1 ⟨v2, v3, rfl, h2, h3, hB1⟩;obtain ⟨A2, c2, rfl⟩ := Kd.R_slice h2;obtain ⟨A3, c3, rfl⟩ := Kd.R_slice h3;simp only at h2 h3;have HK1 := Sdq.mk (Ctx.cons (uV k44 44 (w.heap.size + 2) _ _) (vR h3 (by simp)) (Ctx.cons (uV Kd.string 9 (w.heap.size + 2) _ _) (vR h2 (by simp)) (HK0.out.below hB1)));clear HK0 hB1;clear h2 h3 hr HP;by_cases q1 : (p6 != 0) = true
 ·have h1 := HH.out
  clear HH;rw [show (((⟨p1, p2, p3, p4⟩, p5, p6) : S44 × Int × Int).2.2 != 0) = true from q1, if_pos rfl] at h1;have HH := Sdq.mk h1;clear h1
  go_upto_region 3 with fail
  refine absW _ (Ctx.new (cs := [.int .i64 p1, .string p2, .slice A2 p3.length c2, .slice A3 p4.length c3]) (t := 44) (HK1.out)) ?_;clear HK1;intro w2 hk0;have HK2 := Sdq.mk hk0;clear hk0;obtain ⟨cb480, cb481, cb482, cb483, cb484⟩ := blk5 HK2.out.2.2.2.1;have fb48 := Ctx.frz HK2.out.2.2.2.1;obtain ⟨cb460, cb461, cb462, cb463, cb464, cb465, cb466, cb467, cb468, cb469⟩ := blk10 HK2.out.2.2.2.2.1;have fb46 := Ctx.frz HK2.out.2.2.2.2.1;have nb48b46 := Ctx.ne HK2.out.2.2.2.1 HK2.out.2.2.2.2.1 (by decide)
  focus go_wp2_with fail
  have hz := Option.some.inj HH.out;subst hz;exact rd6_end HK2.out.2.2.2.2.1 HK2.out.2.2.2.1 HK2.out.2.2.2.2.2.1 vnil vnil vnil vnil vnil vnil rfl rfl rfl rfl
 have h1 := HH.out;clear HH;rw [if_neg q1] at h1;replace h1 := Option.bind_eq_some_iff.mp h1;obtain ⟨⟨i1, i2, i3, i4, ih⟩, hi, h1⟩ := h1;have HH := Sdq.mk h1;clear h1;have HI := Sdq.mk hi;clear hi;replace q1 := Bool.eq_false_iff.mpr q1
 go_upto_region 4 with fail
 refine absW _ (Ctx.new (cs := [.int .i64 p1, .string p2, .slice A2 p3.length c2, .slice A3 p4.length c3]) (t := 44) (HK1.out)) ?_;clear HK1;intro w2 hk0;have HK2 := Sdq.mk hk0;clear hk0;obtain ⟨cg50, cg51, cg52, cg53⟩ := blk4 HK2.out.1
 focus go_wp2_with fail
 refine (R4q_Get.calls k p1 p2 A2 c2 p3 (fun k => w.heap.size + 2 ≤ k) A3 c3 p4 ⟨#[105, 100]⟩ i1 i2 i3 i4 ih _ (vC HK2.out.2.2.1) (vle HK2.out.2.2.1) HK2.out.2.1 HI.out).mono ?_;rintro e1 w3 ⟨v2, v3, rfl, h2, h3, hB⟩;obtain ⟨Aik, cik, rfl⟩ := Kd.V_slice h2;obtain ⟨Ail, cil, rfl⟩ := Kd.V_slice h3;clear cg50 cg51 cg52 cg53;have hsz : w.heap.size + 2 ≤ w2.heap.size := blk_lt HK2.out.2.2.2.1;have HK3 := Sdq.mk (Ctx.cons (uV k44 44 (w.heap.size + 2) _ _) (vV h3 hsz) (Ctx.cons (uV Kd.string 9 (w.heap.size + 2) _ _) (vV h2 hsz) (HK2.out.below hB)));clear HK2 hB;clear h2 h3 hsz HI
 go_upto_region 5 with fail
 refine absW _ (Ctx.new (cs := [.int .i64 i1, .string i2, .slice Aik i3.length cik, .slice Ail i4.length cil]) (t := 44) (HK3.out)) ?_;clear HK3;intro w4 hk0;have HK4 := Sdq.mk hk0;clear hk0
 obtain ⟨LL, eLL, HL⟩ : ∃ LL : List UpP, LL = _ ∧ Ctx LL w4 := ⟨_, rfl, HK4.out⟩
 have eLL := Sdq.mk eLL;have HL := Sdq.mk HL
 go_upto_if 37 with fail
 go_cut [] (fun wc => Sdq (Ctx LL wc) ∧ Sdq (read6.version k p1 p2 p3 p4 i1 i2 i3 i4 ih = some r))
 case first =>
  clear eLL
  rcases Bool.eq_false_or_eq_true ih with q2 | q2
  rotate_left
  ·subst q2
   have h1 := HH.out;clear HH;rw [if_neg (by decide)] at h1;replace h1 := Option.bind_eq_some_iff.mp h1;obtain ⟨bad, hb1, h1⟩ := h1;replace hb1 := Option.some.inj hb1;subst hb1;rw [if_neg (by decide)] at h1;have HH := Sdq.mk h1;clear h1
   go_wp2_with fail
   go_meet
   exact ⟨HL, HH⟩
  subst q2;have h1 := HH.out;clear HH;rw [if_pos rfl] at h1;replace h1 := Option.bind_eq_some_iff.mp h1;obtain ⟨bad, hb1, h1⟩ := h1;replace hb1 := Option.bind_eq_some_iff.mp hb1;obtain ⟨⟨n1, n2⟩, hq, hq2⟩ := hb1;replace hq2 := Option.some.inj hq2;subst hq2;have HH := Sdq.mk h1;have HI := Sdq.mk hq;clear h1 hq;obtain ⟨cg80, cg81, cg82, cg83⟩ := blk4 HK4.out.1
  go_wp2_with fail
  refine (R4q_Int.calls k i1 i2 Aik cik i3 Ail cil i4 n1 n2 _ (vC HK4.out.2.2.1) (vle HK4.out.2.2.1) (vC HK4.out.2.1) (vle HK4.out.2.1) HI.out).mono ?_;rintro e1 w5 ⟨rfl, hB⟩;clear cg80 cg81 cg82 cg83;have HL2 := Sdq.mk (HL.out.below hB);clear HL;have HK5 := Sdq.mk (HK4.out.below hB);clear HK4 hB;clear HI;obtain ⟨cg80, cg81, cg82, cg83⟩ := blk4 HK5.out.1
  rcases Bool.eq_false_or_eq_true (i1 != 4 && !n2) with q3 | q3
  ·have h1 := HH.out
   clear HH HL2;rw [if_pos q3] at h1;have HH := Sdq.mk h1;clear h1
   obtain ⟨q4, rfl⟩ := (show (i1 != 4) = true ∧ n2 = false by revert q3; cases (i1 != 4) <;> cases n2 <;> simp)
   clear q3
   go_upto_region 8 with fail
   clear cg80 cg81 cg82 cg83;refine absW _ (HK5.out) ?_;clear HK5;intro w6 hk0;have HK6 := Sdq.mk hk0;clear hk0;obtain ⟨cb480, cb481, cb482, cb483, cb484⟩ := blk5 HK6.out.2.2.2.2.2.2.1;have fb48 := Ctx.frz HK6.out.2.2.2.2.2.2.1;obtain ⟨cb460, cb461, cb462, cb463, cb464, cb465, cb466, cb467, cb468, cb469⟩ := blk10 HK6.out.2.2.2.2.2.2.2.1;have fb46 := Ctx.frz HK6.out.2.2.2.2.2.2.2.1;have nb48b46 := Ctx.ne HK6.out.2.2.2.2.2.2.1 HK6.out.2.2.2.2.2.2.2.1 (by decide)
   go_wp2_with fail
   have hz := Option.some.inj HH.out;subst hz;exact rd6_end HK6.out.2.2.2.2.2.2.2.1 HK6.out.2.2.2.2.2.2.1 HK6.out.2.2.2.2.2.2.2.2.1 vnil vnil vnil vnil vnil vnil rfl rfl rfl rfl
  have h1 := HH.out;clear HH;rw [if_neg (by rw [q3]; decide)] at h1;have HH := Sdq.mk h1;clear h1
  rcases (show (i1 != 4) = false ∨ ((i1 != 4) = true ∧ n2 = true) by revert q3; cases (i1 != 4) <;> cases n2 <;> simp) with q4 | ⟨q4, rfl⟩
  all_goals
   clear q3
   go_wp2_with fail
   go_meet
   exact ⟨HL2, HH⟩
 case rest =>
  obtain ⟨HKC, HH⟩ := hcut;have e := eLL.out;subst e;clear eLL HL HK4
  go_upto_region 9 with fail
  refine absW _ (HKC.out) ?_;clear HKC;intro w5 hk0;have HK5 := Sdq.mk hk0;clear hk0;obtain ⟨cg80, cg81, cg82, cg83⟩ := blk4 HK5.out.1
  go_upto_region 10 with fail
  clear cg80 cg81 cg82 cg83;refine absW _ (Ctx.new (cs := [.int .i64 (-32600), .int .i64 i1, .string i2, .slice Aik i3.length cik, .slice Ail i4.length cil]) (t := 48) (HK5.out)) ?_;clear HK5;intro w6 hk0;have HK6 := Sdq.mk hk0;clear hk0;obtain ⟨cg50, cg51, cg52, cg53⟩ := blk4 HK6.out.2.2.2.2.1;have h1 := HH.out;clear HH;unfold read6.version at h1;replace h1 := Option.bind_eq_some_iff.mp h1;obtain ⟨⟨u1, u2, u3, u4, uh⟩, hv, h1⟩ := h1;have HH := Sdq.mk h1;have HI := Sdq.mk hv;clear h1 hv
  go_wp2_with fail
  refine (R4q_Get.calls k p1 p2 A2 c2 p3 (fun k => w.heap.size + 2 ≤ k) A3 c3 p4 ⟨#[106, 115, 111, 110, 114, 112, 99]⟩ u1 u2 u3 u4 uh _ (vC HK6.out.2.2.2.2.2.2.1) (vle HK6.out.2.2.2.2.2.2.1) HK6.out.2.2.2.2.2.1 HI.out).mono ?_;rintro e1 w7 ⟨v2, v3, rfl, h2, h3, hB⟩;obtain ⟨Auk, cuk, rfl⟩ := Kd.V_slice h2;obtain ⟨Aul, cul, rfl⟩ := Kd.V_slice h3;clear cg50 cg51 cg52 cg53;have hsz : w.heap.size + 2 ≤ w6.heap.size := blk_lt HK6.out.2.2.2.2.2.2.2.1;have HK7 := Sdq.mk (Ctx.cons (uV k44 44 (w.heap.size + 2) _ _) (vV h3 hsz) (Ctx.cons (uV Kd.string 9 (w.heap.size + 2) _ _) (vV h2 hsz) (HK6.out.below hB)));clear HK6 hB;clear h2 h3 hsz HI
  go_upto_region 11 with fail
  refine absW _ (Ctx.new (cs := [.int .i64 u1, .string u2, .slice Auk u3.length cuk, .slice Aul u4.length cul]) (t := 44) (HK7.out)) ?_;clear HK7;intro w8 hk0;have HK8 := Sdq.mk hk0;clear hk0;obtain ⟨cg50, cg51, cg52, cg53⟩ := blk4 HK8.out.2.2.2.2.2.2.2.1;obtain ⟨cg130, cg131, cg132, cg133⟩ := blk4 HK8.out.1
  go_cut [75] (fun s wc => s = .bool (p1 != 6 || !uh || u1 != 4 || u2.toList != [50, 46, 48]) ∧ wc = w8)
  case first =>
   rcases Bool.eq_false_or_eq_true (p1 != 6) with s1 | s1 <;> rcases Bool.eq_false_or_eq_true uh with s2 | s2 <;> rcases Bool.eq_false_or_eq_true (u1 != 4) with s3 | s3 <;> by_cases s4 : u2.toList = [50, 46, 48]
   all_goals
    go_wp2_with fail
    go_meet
    exact ⟨by first | (simp [s1, s2, s3, s4]; done) | (simp [s1, s2, s3, s4, bne]; done) | (simp only [bne]; simp [s1, s2, s3]; done), rfl⟩
  case rest =>
   obtain ⟨rfl, rfl⟩ := hcut;clear cg50 cg51 cg52 cg53 cg130 cg131 cg132 cg133
   rcases Bool.eq_false_or_eq_true (p1 != 6 || !uh || u1 != 4 || u2.toList != [50, 46, 48]) with r1 | r1
   ·have h1 := HH.out
    clear HH;rw [if_pos r1] at h1;have HH := Sdq.mk h1;clear h1;rw [r1]
    go_upto_region 12 with fail
    refine absW _ (HK8.out) ?_;clear HK8;intro w9 hk0;have HK9 := Sdq.mk hk0;clear hk0;obtain ⟨cb480, cb481, cb482, cb483, cb484⟩ := blk5 HK9.out.2.2.2.2.2.2.2.2.2.2.1;have fb48 := Ctx.frz HK9.out.2.2.2.2.2.2.2.2.2.2.1;obtain ⟨cb460, cb461, cb462, cb463, cb464, cb465, cb466, cb467, cb468, cb469⟩ := blk10 HK9.out.2.2.2.2.2.2.2.2.2.2.2.1;have fb46 := Ctx.frz HK9.out.2.2.2.2.2.2.2.2.2.2.2.1;obtain ⟨cg100, cg101, cg102, cg103, cg104⟩ := blk5 HK9.out.2.2.2.1;have nb48b46 := Ctx.ne HK9.out.2.2.2.2.2.2.2.2.2.2.1 HK9.out.2.2.2.2.2.2.2.2.2.2.2.1 (by decide);have ng10b46 := Ctx.ne HK9.out.2.2.2.1 HK9.out.2.2.2.2.2.2.2.2.2.2.2.1 (by decide);have ng10b48 := Ctx.ne' HK9.out.2.2.2.1 HK9.out.2.2.2.2.2.2.2.2.2.2.1 (by simp)
    go_region
    go_wp2_with fail
    have hz := Option.some.inj HH.out;subst hz
    have hk := (Ctx.drew HK9.out)
    simp only [← World.setCell_drew];exact rd6_end hk.2.2.2.2.2.2.2.2.2.2.2.1 hk.2.2.2.2.2.2.2.2.2.2.1 hk.2.2.2.2.2.2.2.2.2.2.2.2.1 vnil vnil vnil vnil hk.2.2.2.2.2.2.1 hk.2.2.2.2.2.1 rfl rfl rfl rfl
   have h1 := HH.out;clear HH;rw [if_neg (by rw [r1]; decide)] at h1;unfold read6.method at h1;replace h1 := Option.bind_eq_some_iff.mp h1;obtain ⟨⟨m1, m2, m3, m4, mh⟩, hm, h1⟩ := h1;have HI := Sdq.mk hm;clear hm;have HH := Sdq.mk h1;clear h1;rw [r1]
   go_upto_region 13 with fail
   refine absW _ (HK8.out) ?_;clear HK8;intro w9 hk0;have HK9 := Sdq.mk hk0;clear hk0;obtain ⟨cg50, cg51, cg52, cg53⟩ := blk4 HK9.out.2.2.2.2.2.2.2.1
   go_wp2_with fail
   refine (R4q_Get.calls k p1 p2 A2 c2 p3 (fun k => w.heap.size + 2 ≤ k) A3 c3 p4 ⟨#[109, 101, 116, 104, 111, 100]⟩ m1 m2 m3 m4 mh _ (vC HK9.out.2.2.2.2.2.2.2.2.2.1) (vle HK9.out.2.2.2.2.2.2.2.2.2.1) HK9.out.2.2.2.2.2.2.2.2.1 HI.out).mono ?_;rintro e1 w10 ⟨v2, v3, rfl, h2, h3, hB⟩;obtain ⟨Amk, cmk, rfl⟩ := Kd.V_slice h2;obtain ⟨Aml, cml, rfl⟩ := Kd.V_slice h3;clear cg50 cg51 cg52 cg53;have hsz : w.heap.size + 2 ≤ w9.heap.size := blk_lt HK9.out.2.2.2.2.2.2.2.2.2.2.1;have HK10 := Sdq.mk (Ctx.cons (uV k44 44 (w.heap.size + 2) _ _) (vV h3 hsz) (Ctx.cons (uV Kd.string 9 (w.heap.size + 2) _ _) (vV h2 hsz) (HK9.out.below hB)));clear HK9 hB;clear h2 h3 hsz HI
   go_upto_region 14 with fail
   refine absW _ (Ctx.new (cs := [.int .i64 m1, .string m2, .slice Amk m3.length cmk, .slice Aml m4.length cml]) (t := 44) (HK10.out)) ?_;clear HK10;intro w11 hk0;have HK11 := Sdq.mk hk0;clear hk0
   rcases Bool.eq_false_or_eq_true mh with r4 | r4
   rotate_left
   ·subst r4
    have h1 := HH.out;clear HH;rw [if_pos rfl] at h1;unfold read6.replies at h1;replace h1 := Option.bind_eq_some_iff.mp h1;obtain ⟨⟨x1, x2, x3, x4, xh⟩, hx, h1⟩ := h1;replace h1 := Option.bind_eq_some_iff.mp h1;obtain ⟨⟨y1, y2, y3, y4, yh⟩, hy, h1⟩ := h1;have HI := Sdq.mk hx;have HJ := Sdq.mk hy;clear hx hy;have HH := Sdq.mk h1;clear h1;obtain ⟨cg50, cg51, cg52, cg53⟩ := blk4 HK11.out.2.2.2.2.2.2.2.2.2.2.1
    go_wp2_with fail
    refine (R4q_Get.calls k p1 p2 A2 c2 p3 (fun k => w.heap.size + 2 ≤ k) A3 c3 p4 ⟨#[114, 101, 115, 117, 108, 116]⟩ x1 x2 x3 x4 xh _ (vC HK11.out.2.2.2.2.2.2.2.2.2.2.2.2.1) (vle HK11.out.2.2.2.2.2.2.2.2.2.2.2.2.1) HK11.out.2.2.2.2.2.2.2.2.2.2.2.1 HI.out).mono ?_;rintro e1 w12 ⟨v2, v3, rfl, h2, h3, hB⟩;obtain ⟨Axk, cxk, rfl⟩ := Kd.V_slice h2;obtain ⟨Axl, cxl, rfl⟩ := Kd.V_slice h3;clear cg50 cg51 cg52 cg53;have hsz : w.heap.size + 2 ≤ w11.heap.size := blk_lt HK11.out.2.2.2.2.2.2.2.2.2.2.2.2.2.1;have HK12 := Sdq.mk (Ctx.cons (uV k44 44 (w.heap.size + 2) _ _) (vV h3 hsz) (Ctx.cons (uV Kd.string 9 (w.heap.size + 2) _ _) (vV h2 hsz) (HK11.out.below hB)));clear HK11 hB;clear h2 h3 hsz HI
    go_upto_region 16 with fail
    refine absW _ (Ctx.new (cs := [.int .i64 x1, .string x2, .slice Axk x3.length cxk, .slice Axl x4.length cxl]) (t := 44) (HK12.out)) ?_;clear HK12;intro w13 hk0;have HK13 := Sdq.mk hk0;clear hk0;obtain ⟨cg50, cg51, cg52, cg53⟩ := blk4 HK13.out.2.2.2.2.2.2.2.2.2.2.2.2.2.1
    go_wp2_with fail
    refine (R4q_Get.calls k p1 p2 A2 c2 p3 (fun k => w.heap.size + 2 ≤ k) A3 c3 p4 ⟨#[101, 114, 114, 111, 114]⟩ y1 y2 y3 y4 yh _ (vC HK13.out.2.2.2.2.2.2.2.2.2.2.2.2.2.2.2.1) (vle HK13.out.2.2.2.2.2.2.2.2.2.2.2.2.2.2.2.1) HK13.out.2.2.2.2.2.2.2.2.2.2.2.2.2.2.1 HJ.out).mono ?_;rintro e1 w14 ⟨v2, v3, rfl, h2, h3, hB⟩;obtain ⟨Ayk, cyk, rfl⟩ := Kd.V_slice h2;obtain ⟨Ayl, cyl, rfl⟩ := Kd.V_slice h3;clear cg50 cg51 cg52 cg53;have hsz : w.heap.size + 2 ≤ w13.heap.size := blk_lt HK13.out.2.2.2.2.2.2.2.2.2.2.2.2.2.2.2.2.1;have HK14 := Sdq.mk (Ctx.cons (uV k44 44 (w.heap.size + 2) _ _) (vV h3 hsz) (Ctx.cons (uV Kd.string 9 (w.heap.size + 2) _ _) (vV h2 hsz) (HK13.out.below hB)));clear HK13 hB;clear h2 h3 hsz HJ
    go_upto_region 17 with fail
    refine absW _ (Ctx.new (cs := [.int .i64 y1, .string y2, .slice Ayk y3.length cyk, .slice Ayl y4.length cyl]) (t := 44) (HK14.out)) ?_;clear HK14;intro w15 hk0;have HK15 := Sdq.mk hk0;clear hk0
    go_cut [101] (fun s wc => s = .bool (ih && (xh || yh)) ∧ wc = w15)
    case first =>
     cases ih <;> cases xh <;> cases yh
     all_goals
      go_wp2_with fail
      go_meet
      exact ⟨by first | (simp [Bool.and_true]; done) | (simp [Bool.and_true, bne]; done) | (simp only [bne]; simp [Bool.and_true]; done), rfl⟩
    case rest =>
     obtain ⟨rfl, rfl⟩ := hcut
     rcases Bool.eq_false_or_eq_true (ih && (xh || yh)) with r5 | r5
     ·have h1 := HH.out
      clear HH;rw [if_pos r5] at h1;have HH := Sdq.mk h1;clear h1;rw [r5]
      go_upto_region 18 with fail
      refine absW _ (HK15.out) ?_;clear HK15;intro w16 hk0;have HK16 := Sdq.mk hk0;clear hk0;obtain ⟨cb480, cb481, cb482, cb483, cb484⟩ := blk5 HK16.out.2.2.2.2.2.2.2.2.2.2.2.2.2.2.2.2.2.2.2.1;have fb48 := Ctx.frz HK16.out.2.2.2.2.2.2.2.2.2.2.2.2.2.2.2.2.2.2.2.1;obtain ⟨cb460, cb461, cb462, cb463, cb464, cb465, cb466, cb467, cb468, cb469⟩ := blk10 HK16.out.2.2.2.2.2.2.2.2.2.2.2.2.2.2.2.2.2.2.2.2.1;have fb46 := Ctx.frz HK16.out.2.2.2.2.2.2.2.2.2.2.2.2.2.2.2.2.2.2.2.2.1;have nb48b46 := Ctx.ne HK16.out.2.2.2.2.2.2.2.2.2.2.2.2.2.2.2.2.2.2.2.1 HK16.out.2.2.2.2.2.2.2.2.2.2.2.2.2.2.2.2.2.2.2.2.1 (by decide)
      go_wp2_with fail
      have hz := Option.some.inj HH.out;subst hz;exact rd6_end HK16.out.2.2.2.2.2.2.2.2.2.2.2.2.2.2.2.2.2.2.2.2.1 HK16.out.2.2.2.2.2.2.2.2.2.2.2.2.2.2.2.2.2.2.2.1 HK16.out.2.2.2.2.2.2.2.2.2.2.2.2.2.2.2.2.2.2.2.2.2.1 vnil vnil vnil vnil vnil vnil rfl rfl rfl rfl
     have h1 := HH.out;clear HH;rw [if_neg (by rw [r5]; decide)] at h1;have HH := Sdq.mk h1;clear h1;rw [r5]
     go_upto_region 19 with fail
     refine absW _ (HK15.out) ?_;clear HK15;intro w16 hk0;have HK16 := Sdq.mk hk0;clear hk0;obtain ⟨cb480, cb481, cb482, cb483, cb484⟩ := blk5 HK16.out.2.2.2.2.2.2.2.2.2.2.2.2.2.2.2.2.2.2.2.1;have fb48 := Ctx.frz HK16.out.2.2.2.2.2.2.2.2.2.2.2.2.2.2.2.2.2.2.2.1;obtain ⟨cb460, cb461, cb462, cb463, cb464, cb465, cb466, cb467, cb468, cb469⟩ := blk10 HK16.out.2.2.2.2.2.2.2.2.2.2.2.2.2.2.2.2.2.2.2.2.1;have fb46 := Ctx.frz HK16.out.2.2.2.2.2.2.2.2.2.2.2.2.2.2.2.2.2.2.2.2.1;obtain ⟨cg100, cg101, cg102, cg103, cg104⟩ := blk5 HK16.out.2.2.2.2.2.2.2.2.2.2.2.2.1;have nb48b46 := Ctx.ne HK16.out.2.2.2.2.2.2.2.2.2.2.2.2.2.2.2.2.2.2.2.1 HK16.out.2.2.2.2.2.2.2.2.2.2.2.2.2.2.2.2.2.2.2.2.1 (by decide);have ng10b46 := Ctx.ne HK16.out.2.2.2.2.2.2.2.2.2.2.2.2.1 HK16.out.2.2.2.2.2.2.2.2.2.2.2.2.2.2.2.2.2.2.2.2.1 (by decide);have ng10b48 := Ctx.ne' HK16.out.2.2.2.2.2.2.2.2.2.2.2.2.1 HK16.out.2.2.2.2.2.2.2.2.2.2.2.2.2.2.2.2.2.2.2.1 (by simp)
     go_region
     go_wp2_with fail
     have hz := Option.some.inj HH.out;subst hz
     have hk := (Ctx.drew HK16.out)
     simp only [← World.setCell_drew];exact rd6_end hk.2.2.2.2.2.2.2.2.2.2.2.2.2.2.2.2.2.2.2.2.1 hk.2.2.2.2.2.2.2.2.2.2.2.2.2.2.2.2.2.2.2.1 hk.2.2.2.2.2.2.2.2.2.2.2.2.2.2.2.2.2.2.2.2.2.1 vnil vnil vnil vnil hk.2.2.2.2.2.2.2.2.2.2.2.2.2.2.2.1 hk.2.2.2.2.2.2.2.2.2.2.2.2.2.2.1 rfl rfl rfl rfl
   subst r4;have h1 := HH.out;clear HH;rw [if_neg (by decide)] at h1;unfold read6.params at h1;replace h1 := Option.bind_eq_some_iff.mp h1;obtain ⟨⟨z1, z2, z3, z4, zh⟩, hz, h1⟩ := h1;have HI := Sdq.mk hz;clear hz;have HH := Sdq.mk h1;clear h1
   go_upto_region 20 with fail
   refine absW _ (HK11.out) ?_;clear HK11;intro w12 hk0;have HK12 := Sdq.mk hk0;clear hk0;obtain ⟨cg50, cg51, cg52, cg53⟩ := blk4 HK12.out.2.2.2.2.2.2.2.2.2.2.1
   go_wp2_with fail
   refine (R4q_Get.calls k p1 p2 A2 c2 p3 (fun k => w.heap.size + 2 ≤ k) A3 c3 p4 ⟨#[112, 97, 114, 97, 109, 115]⟩ z1 z2 z3 z4 zh _ (vC HK12.out.2.2.2.2.2.2.2.2.2.2.2.2.1) (vle HK12.out.2.2.2.2.2.2.2.2.2.2.2.2.1) HK12.out.2.2.2.2.2.2.2.2.2.2.2.1 HI.out).mono ?_;rintro e1 w13 ⟨v2, v3, rfl, h2, h3, hB⟩;obtain ⟨Azk, czk, rfl⟩ := Kd.V_slice h2;obtain ⟨Azl, czl, rfl⟩ := Kd.V_slice h3;clear cg50 cg51 cg52 cg53;have hsz : w.heap.size + 2 ≤ w12.heap.size := blk_lt HK12.out.2.2.2.2.2.2.2.2.2.2.2.2.2.1;have HK13 := Sdq.mk (Ctx.cons (uV k44 44 (w.heap.size + 2) _ _) (vV h3 hsz) (Ctx.cons (uV Kd.string 9 (w.heap.size + 2) _ _) (vV h2 hsz) (HK12.out.below hB)));clear HK12 hB;clear h2 h3 hsz HI
   go_upto_region 21 with fail
   refine absW _ (Ctx.new (cs := [.int .i64 z1, .string z2, .slice Azk z3.length czk, .slice Azl z4.length czl]) (t := 44) (HK13.out)) ?_;clear HK13;intro w14 hk0;have HK14 := Sdq.mk hk0;clear hk0;obtain ⟨cg150, cg151, cg152, cg153⟩ := blk4 HK14.out.2.2.2.1;obtain ⟨cg200, cg201, cg202, cg203⟩ := blk4 HK14.out.1
   go_cut [126] (fun s wc => s = .bool (m1 != 4 || (zh && (z1 != 5 && z1 != 6))) ∧ wc = w14)
   case first =>
    rcases Bool.eq_false_or_eq_true (m1 != 4) with s1 | s1 <;> cases zh <;> rcases Bool.eq_false_or_eq_true (z1 != 5) with s2 | s2 <;> rcases Bool.eq_false_or_eq_true (z1 != 6) with s3 | s3
    all_goals
     go_wp2_with fail
     go_meet
     exact ⟨by first | (simp [s1, s2, s3]; done) | (simp [s1, s2, s3, bne]; done) | (simp only [bne]; simp [s1, s2, s3]; done), rfl⟩
   case rest =>
    obtain ⟨rfl, rfl⟩ := hcut;clear cg150 cg151 cg152 cg153 cg200 cg201 cg202 cg203
    rcases Bool.eq_false_or_eq_true (m1 != 4 || (zh && (z1 != 5 && z1 != 6))) with r6 | r6
    ·have h1 := HH.out
     clear HH;rw [if_pos r6] at h1;have HH := Sdq.mk h1;clear h1;rw [r6]
     go_upto_region 22 with fail
     refine absW _ (HK14.out) ?_;clear HK14;intro w15 hk0;have HK15 := Sdq.mk hk0;clear hk0;obtain ⟨cb480, cb481, cb482, cb483, cb484⟩ := blk5 HK15.out.2.2.2.2.2.2.2.2.2.2.2.2.2.2.2.2.1;have fb48 := Ctx.frz HK15.out.2.2.2.2.2.2.2.2.2.2.2.2.2.2.2.2.1;obtain ⟨cb460, cb461, cb462, cb463, cb464, cb465, cb466, cb467, cb468, cb469⟩ := blk10 HK15.out.2.2.2.2.2.2.2.2.2.2.2.2.2.2.2.2.2.1;have fb46 := Ctx.frz HK15.out.2.2.2.2.2.2.2.2.2.2.2.2.2.2.2.2.2.1;obtain ⟨cg100, cg101, cg102, cg103, cg104⟩ := blk5 HK15.out.2.2.2.2.2.2.2.2.2.1;have nb48b46 := Ctx.ne HK15.out.2.2.2.2.2.2.2.2.2.2.2.2.2.2.2.2.1 HK15.out.2.2.2.2.2.2.2.2.2.2.2.2.2.2.2.2.2.1 (by decide);have ng10b46 := Ctx.ne HK15.out.2.2.2.2.2.2.2.2.2.1 HK15.out.2.2.2.2.2.2.2.2.2.2.2.2.2.2.2.2.2.1 (by decide);have ng10b48 := Ctx.ne' HK15.out.2.2.2.2.2.2.2.2.2.1 HK15.out.2.2.2.2.2.2.2.2.2.2.2.2.2.2.2.2.1 (by simp)
     go_region
     go_wp2_with fail
     have hz := Option.some.inj HH.out;subst hz
     have hk := (Ctx.drew HK15.out)
     simp only [← World.setCell_drew];exact rd6_end hk.2.2.2.2.2.2.2.2.2.2.2.2.2.2.2.2.2.1 hk.2.2.2.2.2.2.2.2.2.2.2.2.2.2.2.2.1 hk.2.2.2.2.2.2.2.2.2.2.2.2.2.2.2.2.2.2.1 vnil vnil vnil vnil hk.2.2.2.2.2.2.2.2.2.2.2.2.1 hk.2.2.2.2.2.2.2.2.2.2.2.1 rfl rfl rfl rfl
    have h1 := HH.out;clear HH;rw [if_neg (by rw [r6]; decide)] at h1;have HH := Sdq.mk h1;clear h1;rw [r6]
    go_upto_region 23 with fail
    refine absW _ (HK14.out) ?_;clear HK14;intro w15 hk0;have HK15 := Sdq.mk hk0;clear hk0;obtain ⟨cg200, cg201, cg202, cg203⟩ := blk4 HK15.out.1;obtain ⟨cg150, cg151, cg152, cg153⟩ := blk4 HK15.out.2.2.2.1;obtain ⟨cg80, cg81, cg82, cg83⟩ := blk4 HK15.out.2.2.2.2.2.2.2.2.2.2.1;obtain ⟨cb480, cb481, cb482, cb483, cb484⟩ := blk5 HK15.out.2.2.2.2.2.2.2.2.2.2.2.2.2.2.2.2.1;have fb48 := Ctx.frz HK15.out.2.2.2.2.2.2.2.2.2.2.2.2.2.2.2.2.1;obtain ⟨cb460, cb461, cb462, cb463, cb464, cb465, cb466, cb467, cb468, cb469⟩ := blk10 HK15.out.2.2.2.2.2.2.2.2.2.2.2.2.2.2.2.2.2.1;have fb46 := Ctx.frz HK15.out.2.2.2.2.2.2.2.2.2.2.2.2.2.2.2.2.2.1;have nb48b46 := Ctx.ne HK15.out.2.2.2.2.2.2.2.2.2.2.2.2.2.2.2.2.1 HK15.out.2.2.2.2.2.2.2.2.2.2.2.2.2.2.2.2.2.1 (by decide);have ng8b46 := Ctx.ne HK15.out.2.2.2.2.2.2.2.2.2.2.1 HK15.out.2.2.2.2.2.2.2.2.2.2.2.2.2.2.2.2.2.1 (by decide);have ng8b48 := Ctx.ne HK15.out.2.2.2.2.2.2.2.2.2.2.1 HK15.out.2.2.2.2.2.2.2.2.2.2.2.2.2.2.2.2.1 (by decide);have ng15b46 := Ctx.ne HK15.out.2.2.2.1 HK15.out.2.2.2.2.2.2.2.2.2.2.2.2.2.2.2.2.2.1 (by decide);have ng15b48 := Ctx.ne HK15.out.2.2.2.1 HK15.out.2.2.2.2.2.2.2.2.2.2.2.2.2.2.2.2.1 (by decide);have ng20b46 := Ctx.ne HK15.out.1 HK15.out.2.2.2.2.2.2.2.2.2.2.2.2.2.2.2.2.2.1 (by decide);have ng20b48 := Ctx.ne HK15.out.1 HK15.out.2.2.2.2.2.2.2.2.2.2.2.2.2.2.2.2.1 (by decide)
    go_wp2_with fail
    clear cg200 cg201 cg202 cg203 cg150 cg151 cg152 cg153 cg80 cg81 cg82 cg83 cb480 cb481 cb482 cb483 cb484 fb48 cb460 cb461 cb462 cb463 cb464 cb465 cb466 cb467 cb468 cb469 fb46 ng8b46 ng8b48 ng15b46 ng15b48 ng20b46 ng20b48;have hz := Option.some.inj HH.out;subst hz;exact rd6_end HK15.out.2.2.2.2.2.2.2.2.2.2.2.2.2.2.2.2.2.1 HK15.out.2.2.2.2.2.2.2.2.2.2.2.2.2.2.2.2.1 HK15.out.2.2.2.2.2.2.2.2.2.2.2.2.2.2.2.2.2.2.1 HK15.out.2.2.2.2.2.2.2.2.2.2.2.2.1 HK15.out.2.2.2.2.2.2.2.2.2.2.2.1 HK15.out.2.2.1 HK15.out.2.1 vnil vnil rfl rfl rfl rfl
end Go.Proofs.YteighppcdpaekaaDoor.P
end
