/- Walks and words of this session, put together by a program of this session (pack.py). Conditions: as each text says. -/
import Derived.OpenShut
import Derived.ChangeSlices
import Derived.Deep.Slices
import Derived.Lib.SmallJoins
import Derived.ChangeArms
import Derived.Test.YteighppcdpaekaaDoorQ2
import Derived.Test.YteighppcdpaekaaDoorQ12
set_option linter.unusedVariables false
set_option linter.unusedSimpArgs false
section
namespace Go.Proofs.YteighppcdpaekaaDoor.Rf
open Go.RowKit Go.Proofs.YteighppcdpaekaaDoorW.PrintWords Go.Proofs.YteighppcdpaekaaDoor Go.Proofs.YteighppcdpaekaaDoor.P
variable {b : List Int}
abbrev LightV (v : Js.Val) : Prop := Eq4.Light (Rd.toS v)
theorem mkL {k : Int} {t : List Int} {ks : List (List Int)} {l : List Js.Val} (ht : t.length ≤ 3000) (hks : ks.length ≤ 3000) (hk : ∀ x ∈ ks, x.length ≤ 3000) (hll : l.length ≤ 3000) (hL : ∀ x ∈ l, LightV x) : LightV (.mk k t ks l) := by
 show Eq4.Light (Rd.toS (.mk k t ks l))
 rw [Rd.toS];refine Eq4.Light.mk ?_ ?_ ?_ ?_ ?_
 ·show (Rd.toSs l).length ≤ 3000
  rw [Rd.toSs_length]; exact hll
 ·show (ks.map strOfNums).length ≤ 3000
  rw [List.length_map]; exact hks
 ·show (strOfNums t).size ≤ 3000
  rw [strOfNums_size]; exact ht
 ·intro i h
  show ((ks.map strOfNums)[i]).size ≤ 3000
  rw [List.getElem_map, strOfNums_size];exact hk _ (List.getElem_mem _)
 ·intro x hx
  have hx : x ∈ Rd.toSs l := hx;rw [Rd.toSs_map] at hx;obtain ⟨y, hy, rfl⟩ := List.mem_map.1 hx;exact hL y hy
theorem light_items {k : Nat} (hl : b.length ≤ 3000) (ihV : ∀ d p v q, Js.value b k d p = some (.ok v q) → LightV v) (ihI : ∀ d l p v q, p ≤ b.length → l.length ≤ p → (∀ x ∈ l, LightV x) → Js.items b k d l p = some (.ok v q) → LightV v) :
  ∀ d l p v q, p ≤ b.length → l.length ≤ p → (∀ x ∈ l, LightV x) → Js.items b (k + 1) d l p = some (.ok v q) → LightV v := by
 intro d l p v q hp hlp hL h;simp only [Js.items] at h
 split at h
 ·cases h
 ·simp at h
 ·rename_i x r hv
  have hvl := Js.value_le hv;have hx := ihV _ _ _ _ hv
  have hL2 : ∀ y ∈ l ++ [x], LightV y := fun y hy => (List.mem_append.1 hy).elim (hL y) (fun e => by simp at e; rw [e]; exact hx)
  split at h
  ·simp at h
  ·rename_i r2 hc
   have hcl := Js.comma_le hvl.2 hc;exact ihI _ _ _ _ _ hcl.2 (by simp; omega) hL2 h
  ·rename_i r2 hc
   have hcl := Js.comma_le hvl.2 hc;simp only [Option.some.injEq, Js.Out.ok.injEq] at h;obtain ⟨rfl, _⟩ := h;exact mkL (by simp) (by simp) (by simp) (by simp; omega) hL2
theorem light_pairs {k : Nat} (hb : ∀ x ∈ b, 0 ≤ x ∧ x ≤ 255) (hl : b.length ≤ 3000) (ihV : ∀ d p v q, Js.value b k d p = some (.ok v q) → LightV v) (ihP : ∀ d ks l p v q, p ≤ b.length → l.length ≤ p → ks.length ≤ p → (∀ x ∈ ks, x.length ≤ 3000) → (∀ x ∈ l, LightV x) → Js.pairs b k d ks l p = some (.ok v q) → LightV v) :
  ∀ d ks l p v q, p ≤ b.length → l.length ≤ p → ks.length ≤ p → (∀ x ∈ ks, x.length ≤ 3000) → (∀ x ∈ l, LightV x) → Js.pairs b (k + 1) d ks l p = some (.ok v q) → LightV v := by
 intro d ks l p v q hp hlp hkp hK hL h;simp only [Js.pairs] at h
 split at h
 ·cases h
 ·simp at h
 ·rename_i key r ht
  have htl := Js.text_le ht;have hkl := (Js.text_bytes hb ht).2
  split at h
  ·simp at h
  ·split at h
   ·simp at h
   ·split at h
    ·split at h
     ·cases h
     ·simp at h
     ·rename_i c58 hxx h58 _ x r1 hv
      have hvl := Js.value_le hv;have hx := ihV _ _ _ _ hv
      have hL2 : ∀ y ∈ l ++ [x], LightV y := fun y hy => (List.mem_append.1 hy).elim (hL y) (fun e => by simp at e; rw [e]; exact hx)
      have hK2 : ∀ y ∈ ks ++ [key], y.length ≤ 3000 := fun y hy => (List.mem_append.1 hy).elim (hK y) (fun e => by simp at e; rw [e]; omega)
      have hbl := Js.blank_le (b := b) (p := r) htl.2
      have hpos : p < r1 := by
       have := hvl.1;have h2 := Js.blank_le (b := b) (p := Js.blank b r + 1) (by have := (List.getElem?_eq_some_iff.1 hxx).1; omega)
       omega
      split at h
      ·simp at h
      ·rename_i r2 hc
       have hcl := Js.comma_le hvl.2 hc;exact ihP _ _ _ _ _ _ hcl.2 (by simp; omega) (by simp; omega) hK2 hL2 h
      ·rename_i r2 hc
       have hcl := Js.comma_le hvl.2 hc;simp only [Option.some.injEq, Js.Out.ok.injEq] at h;obtain ⟨rfl, _⟩ := h;exact mkL (by simp) (by simp; omega) hK2 (by simp; omega) hL2
    ·simp at h
theorem light_value {k : Nat} (hb : ∀ x ∈ b, 0 ≤ x ∧ x ≤ 255) (hl : b.length ≤ 3000) (ihI : ∀ d l p v q, p ≤ b.length → l.length ≤ p → (∀ x ∈ l, LightV x) → Js.items b k d l p = some (.ok v q) → LightV v)
  (ihP : ∀ d ks l p v q, p ≤ b.length → l.length ≤ p → ks.length ≤ p → (∀ x ∈ ks, x.length ≤ 3000) → (∀ x ∈ l, LightV x) → Js.pairs b k d ks l p = some (.ok v q) → LightV v) :
  ∀ d p v q, Js.value b (k + 1) d p = some (.ok v q) → LightV v := by
 intro d p v q h
 have nil : ∀ kd, LightV (.mk kd [] [] []) := fun kd => mkL (by simp) (by simp) (by simp) (by simp) (by simp)
 have ins : ∀ {q1 c}, b[q1]? = some c → q1 ≤ b.length := fun h => Nat.le_of_lt (List.getElem?_eq_some_iff.1 h).1
 rw [Js.value_succ] at h
 split at h
 ·simp at h
 ·rename_i c hx
  split at h
  ·unfold Js.obj at h
   split at h
   ·simp at h
   ·split at h
    ·simp at h
    ·rename_i c2 hx2
     split at h
     ·simp only [Option.some.injEq, Js.Out.ok.injEq] at h
      obtain ⟨rfl, _⟩ := h;exact nil 6
     ·exact ihP _ _ _ _ _ _ (ins hx2) (by simp) (by simp) (by simp) (by simp) h
  ·split at h
   ·unfold Js.arr at h
    split at h
    ·simp at h
    ·split at h
     ·simp at h
     ·rename_i c2 hx2
      split at h
      ·simp only [Option.some.injEq, Js.Out.ok.injEq] at h
       obtain ⟨rfl, _⟩ := h;exact nil 5
      ·exact ihI _ _ _ _ _ (ins hx2) (by simp) (by simp) h
   ·split at h
    ·obtain ⟨o, ho, h⟩ := Option.map_eq_some_iff.mp h
     cases o with
     | no y e => simp [Js.strV] at h
     | ok l r =>
      simp only [Js.strV, Js.Out.ok.injEq] at h;obtain ⟨rfl, _⟩ := h;have h1 := (Js.text_bytes hb ho).2;have h2 := (Js.text_le ho).2;exact mkL (by omega) (by simp) (by simp) (by simp) (by simp)
    ·have wd : ∀ kd o, Js.wordV kd o = .ok v q → LightV v := fun kd o h => by
      cases o with
      | no y e => simp [Js.wordV] at h
      | ok l r =>
       simp only [Js.wordV, Js.Out.ok.injEq] at h;obtain ⟨rfl, _⟩ := h;exact nil kd
     split at h
     ·exact wd _ _ (Option.some.inj h)
     ·split at h
      ·exact wd _ _ (Option.some.inj h)
      ·split at h
       ·exact wd _ _ (Option.some.inj h)
       ·have h := Option.some.inj h
        cases hn : Js.number b p with
        | no y e => rw [hn] at h; simp [Js.numV] at h
        | ok l r =>
         rw [hn] at h;simp only [Js.numV, Js.Out.ok.injEq] at h;obtain ⟨rfl, _⟩ := h;exact mkL (by rw [List.length_drop, List.length_take]; omega) (by simp) (by simp) (by simp) (by simp)
theorem light_all (hb : ∀ x ∈ b, 0 ≤ x ∧ x ≤ 255) (hl : b.length ≤ 3000) : ∀ k, (∀ d p v q, Js.value b k d p = some (.ok v q) → LightV v) ∧ (∀ d l p v q, p ≤ b.length → l.length ≤ p → (∀ x ∈ l, LightV x) → Js.items b k d l p = some (.ok v q) → LightV v) ∧
  (∀ d ks l p v q, p ≤ b.length → l.length ≤ p → ks.length ≤ p → (∀ x ∈ ks, x.length ≤ 3000) → (∀ x ∈ l, LightV x) → Js.pairs b k d ks l p = some (.ok v q) → LightV v)
 | 0 => ⟨fun d p v q h => by simp [Js.value] at h, fun d l p v q _ _ _ h => by simp [Js.items] at h, fun d ks l p v q _ _ _ _ _ h => by simp [Js.pairs] at h⟩
 | k + 1 => by
  obtain ⟨h1, h2, h3⟩ := light_all hb hl k;exact ⟨light_value hb hl h2 h3, light_items hl h1 h2, light_pairs hb hl h1 h3⟩
end Go.Proofs.YteighppcdpaekaaDoor.Rf
end
section
namespace Go.Proofs.YteighppcdpaekaaDoor.P
open Go.RowKit Go.Proofs.YteighppcdpaekaaDoor.Rf Go.Proofs.YteighppcdpaekaaDoorW.PrintWords Go.Proofs.YteighppcdpaekaaDoor Go.Proofs.YteighppcdpaekaaDoor.Eq4
theorem parse_light {b : List Int} (hB : ∀ x ∈ b, 0 ≤ x ∧ x ≤ 255) (hl : b.length ≤ 500) : (∃ x a e, e ≠ 0 ∧ Ev (fun k => parseF k b) (x, a, e)) ∨ ∃ s : S27, Light s ∧ Ev (fun k => parseF k b) (ofS s, 0, 0) := by
 rcases parse_ends (b := b) ⟨hB, by omega⟩ with h | ⟨v, j, q, hv, _, h⟩
 ·exact .inl h
 ·rw [toR_ofS] at h
  exact .inr ⟨Rd.toS v, (light_all hB (by omega) j).1 _ _ _ _ hv, h⟩
theorem makes_all (i : List Int) (A : Option Addr) (c : Nat) (j : List Int) (B : Option Addr) (d : Nat) (m : ByteArray) (n : Int) (w : World) (hT : TabOk w) (hi : Kd.C (Kd.int .u8) w A i.length i) (hc : i.length ≤ c) (hj : Kd.C (Kd.int .u8) w B j.length j) (hd : j.length ≤ d) (hn : -9223372036854775808 ≤ n ∧ n ≤ 9223372036854775807)
  (hI : ∀ x ∈ i, 0 ≤ x ∧ x ≤ 255) (hJ : ∀ x ∈ j, 0 ≤ x ∧ x ≤ 255) : Calls Tryd.prog 7 #[.agg #[.slice A i.length c, .slice B j.length d, .string m, .int .i64 n]] w fun e w' => e = .returned (.bool true) ∧ Below w.heap.size w w' := by
 by_cases hl : 500 < i.length ∨ 500 < j.length
 ·exact makes_long i A c j B d m n w hT hl
 have hil : i.length ≤ 500 := by omega
 have hjl : j.length ≤ 500 := by omega
 have bad : ∀ x a e y b f, (e ≠ 0 ∨ f ≠ 0) → Ev (fun k => parseF k i) (x, a, e) → Ev (fun k => parseF k j) (y, b, f) → Calls Tryd.prog 7 #[.agg #[.slice A i.length c, .slice B j.length d, .string m, .int .i64 n]] w fun e w' => e = .returned (.bool true) ∧ Below w.heap.size w w' := fun x a e y b f he h1 h2 => by
  obtain ⟨K1, h1⟩ := h1;obtain ⟨K2, h2⟩ := h2;exact makes_bad (K1 + K2) i A c j B d m n w hT hi hc hj hd hil hjl x y a e b f he (h1 _ (by omega)) (h2 _ (by omega))
 rcases parse_light hI hil with ⟨x, a, e, he, h1⟩ | ⟨s, hs, h1⟩
 ·rcases parse_light hJ hjl with ⟨y, b, f, hf, h2⟩ | ⟨t, ht, h2⟩
  ·exact bad _ _ _ _ _ _ (.inl he) h1 h2
  ·exact bad _ _ _ _ _ _ (.inl he) h1 h2
 ·rcases parse_light hJ hjl with ⟨y, b, f, hf, h2⟩ | ⟨t, ht, h2⟩
  ·exact bad _ _ _ _ _ _ (.inr hf) h1 h2
  ·have lf := fun (k : Int) (s : ByteArray) => of_leaf k s
   have os := of_val2 _ s (Nat.le_refl _) hs;have ot := of_val2 _ t (Nat.le_refl _) ht;obtain ⟨K1, h1⟩ := h1;obtain ⟨K2, h2⟩ := h2;obtain ⟨K3, h3⟩ := to_val _ s (Nat.le_refl _) hs;obtain ⟨K4, h4⟩ := to_val _ t (Nat.le_refl _) ht
   have three := fun (ks : List ByteArray) (a b c : S27) (ha : Ev (fun k => ofF k a) (ofS a)) (hb : Ev (fun k => ofF k b) (ofS b)) (hc : Ev (fun k => ofF k c) (ofS c)) => of_three 6 ⟨#[]⟩ ks a b c ha hb hc
   have two := fun (ks : List ByteArray) (a b : S27) (ha : Ev (fun k => ofF k a) (ofS a)) (hb : Ev (fun k => ofF k b) (ofS b)) => of_two 6 ⟨#[]⟩ ks a b ha hb
   obtain ⟨K5, h5⟩ := three [⟨#[106, 115, 111, 110, 114, 112, 99]⟩, ⟨#[105, 100]⟩, ⟨#[114, 101, 115, 117, 108, 116]⟩] _ _ _ (lf 4 ⟨#[50, 46, 48]⟩) os ot;obtain ⟨K6, h6⟩ := three [⟨#[106, 115, 111, 110, 114, 112, 99]⟩, ⟨#[105, 100]⟩, ⟨#[101, 114, 114, 111, 114]⟩] _ _ _ (lf 4 ⟨#[50, 46, 48]⟩) os (by rw [ofS_two]; exact two [⟨#[99, 111, 100, 101]⟩, ⟨#[109, 101, 115, 115, 97, 103, 101]⟩] _ _ (lf 3 (numS n)) (lf 4 (msgS n)));obtain ⟨K7, h7⟩ := three [⟨#[106, 115, 111, 110, 114, 112, 99]⟩, ⟨#[109, 101, 116, 104, 111, 100]⟩, ⟨#[112, 97, 114, 97, 109, 115]⟩] _ _ _ (lf 4 ⟨#[50, 46, 48]⟩) (lf 4 m) ot;rw [ofS_leaf] at h5 h6 h7;rw [ofS_two, ofS_leaf, ofS_leaf] at h6;rw [ofS_leaf] at h7;exact makes_good (K1 + K2 + K3 + K4 + K5 + K6 + K7) i A c j B d m n w hT hi hc hj hd hil hjl hn (ofS s) (ofS t) s t (h1 _ (by omega)) (h2 _ (by omega)) (h3 _ (by omega)) (h4 _ (by omega)) (h5 _ (by omega)) (h6 _ (by omega)) (h7 _ (by omega))
end Go.Proofs.YteighppcdpaekaaDoor.P
end
section
namespace Go.Proofs.YteighppcdpaekaaDoor.P
open Go.RowKit Go.Proofs.YteighppcdpaekaaDoorW.PrintWords
open Go.ChangeShapes Go.WideShapes
set_option maxRecDepth 100000
section
variable {H : Type} {enc : TypeId × Value → H} {W : World} {sp : Nat → Bool} {held : Bool}
theorem cells_5 : Tryd.prog.cellsOf 5 = 1 := by kernel_rfl
end
end Go.Proofs.YteighppcdpaekaaDoor.P
end
section
namespace Go.Proofs.YteighppcdpaekaaDoor.P
open Go.RowKit Go.Proofs.YteighppcdpaekaaDoorW.PrintWords
open Go.ChangeShapes Go.WideShapes
set_option maxRecDepth 100000
section
variable {H : Type} {enc : TypeId × Value → H} {W : World} {sp : Nat → Bool} {held : Bool}
theorem bytes_cell {fuel : Nat} {v : Value} {x : DataW H × List MemPlace} (hf : DataW.trod enc Tryd.prog W 0 sp held fuel 35 [v] = some x) :
  ∃ (b : List Int) (A : Option Addr) (c : Nat), v = .slice A b.length c ∧ b.length ≤ c ∧ Kd.C (Kd.int .u8) W A b.length b ∧ ∀ x ∈ b, 0 ≤ x ∧ x ≤ 255 := by
 rcases open_ints Tryd.underlying35 Tryd.underlying5 cells_5 hf with ⟨hc, _⟩ | ⟨ad, len', cap', zs, hc, _, h1, h2, h3, _, h5, h6⟩
 ·obtain rfl : v = .slice none 0 0 := by simpa using hc
  exact ⟨[], none, 0, rfl, Nat.le_refl _, Kd.C_nil _ W, fun x hx => by cases hx⟩
 ·obtain rfl : v = .slice (some ad) len' cap' := by simpa using hc
  have hss : len' ≤ zs.length := by rw [h3]; split <;> omega
  have hll : (zs.take len').length = len' := by rw [List.length_take]; omega
  refine ⟨zs.take len', some ad, cap', by rw [hll], by rw [hll]; exact h1, ?_, fun x hx => ?_⟩
  ·rw [hll]
   refine Kd.C_of_reads (enc := Value.int .u8) (d := (0 : Int)) (h1 := fun _ => rfl) ⟨hll, by unfold maxLen at h2; omega, fun _ => ⟨ad, rfl, fun j hj => ?_⟩⟩;rw [h5 j (by omega)];simp only [List.getD_eq_getElem?_getD, List.getElem?_take_of_lt hj]
  ·have := h6 x (List.mem_of_mem_take hx)
   have h7 : 0 ≤ x ∧ x ≤ 2 ^ 8 - 1 := by simpa [Lit.wf, IntKind.min, IntKind.max, IntKind.signed, IntKind.bits] using this
   omega
theorem open75 {b0 : Nat} {v : Value} {d : DataW H} {p : List MemPlace} (hv : Value.okWide Tryd.prog W .any b0 75 v) (h : DataW.Trod enc Tryd.prog W 0 sp held 75 v d p) :
  ∃ (i : List Int) (A : Option Addr) (c : Nat) (j : List Int) (B : Option Addr) (e : Nat) (m : ByteArray) (n : Int), v = .agg #[.slice A i.length c, .slice B j.length e, .string m, .int .i64 n] ∧ i.length ≤ c ∧ Kd.C (Kd.int .u8) W A i.length i ∧ (∀ x ∈ i, 0 ≤ x ∧ x ≤ 255) ∧ j.length ≤ e ∧ Kd.C (Kd.int .u8) W B j.length j ∧ (∀ x ∈ j, 0 ≤ x ∧ x ≤ 255) ∧ -9223372036854775808 ≤ n ∧ n ≤ 9223372036854775807 := by
 obtain ⟨v0, v1, v2, v3, y0, y1, y2, y3, k, rfl, rfl, rfl, h0, h1, h2, h3⟩ := Joins.open_agg4 Tryd.underlying75 (by kernel_rfl) (by kernel_rfl) hv h;obtain ⟨i, A, c, rfl, i1, i2, i3⟩ := bytes_cell h0;obtain ⟨j, B, e, rfl, j1, j2, j3⟩ := bytes_cell h1;obtain ⟨m, hm, _⟩ := DataW.trod_string Tryd.underlying9 h2;obtain ⟨n, hn, _, hw⟩ := DataW.trod_int Tryd.underlying3 h3
 obtain rfl : v2 = .string m := by simpa using hm
 obtain rfl : v3 = .int .i64 n := by simpa using hn
 refine ⟨i, A, c, j, B, e, m, n, rfl, i1, i2, i3, j1, j2, j3, ?_⟩
 have : -2 ^ 63 ≤ n ∧ n ≤ 2 ^ 63 - 1 := by simpa [Lit.wf, IntKind.min, IntKind.max, IntKind.signed, IntKind.bits] using hw
 omega
end
end Go.Proofs.YteighppcdpaekaaDoor.P
end
section
namespace Go.Proofs.YteighppcdpaekaaDoor.rpcMakes
open Go.ChangeShapes Go.WideShapes Go.ChangeAt Go.RowKit Go.Proofs.YteighppcdpaekaaDoorW.PrintWords Go.Proofs.YteighppcdpaekaaDoor.P Go.Proofs.YteighppcdpaekaaDoor.laidFive
open Go.ChangeMaps (open_string shut_string)
set_option linter.unusedVariables false
set_option maxRecDepth 100000
theorem own : ownKnob Tryd.prog.godebug = none := by kernel_rfl
theorem laidOut : laidOutB Tryd.prog = true := by kernel_rfl
theorem contract (H : Type) (enc : TypeId × Value → H) (W : World) (base : Nat) (args : Array Value) (ds gs : List (DataW H)) (before : List MemPlace)
  (hval0 : ∀ (j : Nat) t v, Tryd.f7.params[j]? = some t → args[j]? = some v → Value.okWide Tryd.prog W .any base t v)
  (hW : DataW.Whole enc Tryd.prog Tryd.f7.params.toList Rows.rpcMakesSpec.vars false W args.toList ds gs before) (hL : laidMetH Tryd.prog Rows.rpcMakesRow.laid W) :
  Calls Tryd.prog 7 args W fun e W' => ∃ v, e = .returned v ∧ Rows.rpcMakesSpec.post enc Tryd.prog Tryd.f7 false true false false W args v W' := by
 have hval := hval0;have hW' := hW;obtain ⟨p, q, hA0, hV, rfl, hfz, hnd⟩ := hW;have hA : DataW.TrodAll enc Tryd.prog W 0 (fun _ => true) true Tryd.f7.params.toList args.toList ds p := hA0;rw [Tryd.params7] at hA hval;obtain ⟨v0, vs0, d0, ds0, p0, q0, hargs, rfl, rfl, h0, r0⟩ := trodAll_cons hA;obtain ⟨rfl, rfl, rfl⟩ := trodAll_nil r0
 obtain rfl : args = #[v0] := by cases args; simp_all
 obtain ⟨rfl, rfl⟩ := trodVars_none hV;have k0 := h0
 have lt0 : ∀ x ∈ p0, x.block < W.heap.size := by obtain ⟨m, hm⟩ := k0; exact DataW.trod_lt m _ _ _ hm
 obtain ⟨bi, Ai, ci, bj, Aj, cj, mm, nn, rfl, hci, hri, hBi, hcj, hrj, hBj, hnn⟩ := open75 (hval 0 75 v0 rfl rfl) h0;have hT := tabs (W := W) hL;clear hA0 hval0
 refine (makes_all bi Ai ci bj Aj cj mm nn W hT hri hci hrj hcj hnn hBi hBj).mono fun e W' ⟨he, bel⟩ => ?_
 subst he;exact ⟨_, rfl, _, _, _, [], _, [], hW', trodAll_mk1 (shut_bool Tryd.underlying4 _), (trodAll_cons_mk (Below.trod laidOut (by kernel_rfl) (of_decide_eq_true (by kernel_rfl)) k0 bel lt0) trodAll_mk0), rfl, bel.frame _, fun h => by cases h⟩
theorem laid_met (os : Os) : laidMet Tryd.prog Rows.rpcMakesRow.laid ((laidWorld os).forCall (fun _ _ => 0) ⟨#[], #[.agg #[.slice none 0 0, .slice none 0 0, .string .empty, .int .i64 0]], []⟩).memory :=
 laidMet_of_run' 8 (by kernel_rfl) (by kernel_rfl)
theorem reads (os : Os) {H : Type} (enc : TypeId × Value → H) : ∃ places, DataW.whole enc Tryd.prog ((laidWorld os).forCall (fun _ _ => 0) ⟨#[], #[.agg #[.slice none 0 0, .slice none 0 0, .string .empty, .int .i64 0]], []⟩).memory Tryd.f7.params.toList Rows.rpcMakesSpec.vars false (#[.agg #[.slice none 0 0, .slice none 0 0, .string .empty, .int .i64 0]] : Array Value).toList 8 = some ([.agg [.nil, .nil, .lit (.string []), .lit (.int .i64 0)]], [], places) :=
 ⟨[], by kernel_rfl⟩
theorem lifted (os : Os) (started : os.Started) (H : Type) (enc : TypeId × Value → H) (F : Stop.Interp) :
  ReturnsInHanded {} Tryd.checked os 7 .any ((OpenSpec.ofChange Rows.rpcMakesSpec).preRow enc Tryd.prog Tryd.f7 Rows.rpcMakesRow.domain false Rows.rpcMakesRow.laid) (((OpenSpec.ofChange Rows.rpcMakesSpec).at F).post enc Tryd.prog Tryd.f7 false true false false) := by
 obtain ⟨places, hx⟩ := reads os enc
 refine returnsInHanded_of_row (C := Tryd.checked) (s := OpenSpec.ofChange Rows.rpcMakesSpec) own started (by kernel_rfl) Tryd.func7
  (witness_row_atRef (enc := enc) (C := Tryd.checked) false (laidWorld os) #[.agg #[.slice none 0 0, .slice none 0 0, .string .empty, .int .i64 0]] rfl (by kernel_rfl) (by kernel_rfl) (by kernel_rfl)
   (OpenSpec.preRow_of_cond 8 hx (by kernel_rfl) (fun k hk => by cases hk) (by kernel_rfl) (laid_met os))) ?_
 intro W base args ds gs before hval hW _ _ _ hL _ _;exact contract H enc W base args ds gs before hval hW hL
theorem said : Rows.RpcMakesSaid :=
 OpenClaim.holds_of_cond 7 Tryd.f7 rfl rfl rfl rfl rfl rfl rfl ⟨rfl, rfl, rfl, rfl, rfl⟩ rfl rfl rfl rfl rfl (by kernel_rfl) Tryd.func7 (by kernel_rfl)
  (of_decide_eq_true (by kernel_rfl)) (by unfold Func.isWrapper; first | (rw [if_pos (by decide +kernel)]; kernel_rfl) | (rw [if_neg (by decide +kernel)]; exact ⟨rfl, rfl⟩))
  (fun os started H enc _ F => by rw [OpenClaim.pre_eq_preRow]; exact lifted os started H enc F)
theorem plain (f : FuncId) (fn : Func) (hf : Tryd.pinned.checked.prog.funcNamed "whetstone/whetstonelaw06.RpcMakes" = some f) (hfn : Tryd.pinned.checked.prog.funcs[f]? = some fn) :
  true = Tryd.pinned.checked.prog.looks [] ∧ ∀ (j : Nat) t, fn.params[j]? = some t → Tryd.pinned.checked.prog.wantsStandIn t = false := by
 obtain rfl : f = 7 := Option.some.inj ((show Tryd.prog.funcNamed "whetstone/whetstonelaw06.RpcMakes" = some 7 by kernel_rfl).symm.trans hf) |>.symm
 obtain rfl : fn = Tryd.f7 := (Option.some.inj (Tryd.func7.symm.trans hfn)).symm;refine ⟨by kernel_rfl, fun j t ht => ?_⟩;rw [Tryd.params7] at ht
 obtain rfl : t = 75 := by simpa using Array.mem_of_getElem? ht
 exact (show Tryd.prog.wantsStandIn 75 = false by kernel_rfl)
theorem card : Rows.RpcMakesCardSaid :=
 Claim7.holds_tied_plain_at .later [] _ _ _ _ said (fun _ h => by cases h) (by kernel_rfl) (fun _ h => by cases h) rpcMakes_row_tie rfl ⟨rfl, rfl⟩ (by kernel_rfl) rfl plain (by kernel_rfl)
end Go.Proofs.YteighppcdpaekaaDoor.rpcMakes
namespace Go.Proofs.YteighppcdpaekaaDoor
theorem rpcMakesCard_holds : Rows.RpcMakesCardSaid := rpcMakes.card
#print axioms rpcMakesCard_holds
end Go.Proofs.YteighppcdpaekaaDoor
end
