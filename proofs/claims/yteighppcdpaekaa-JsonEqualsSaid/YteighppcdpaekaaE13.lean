/- Walks and words of this session, put together by a program of this session (pack.py). Conditions: as each text says. -/
import Derived.Lib.SmallJoins
import Derived.Deep.Slices
import Derived.SliceStrings
import Derived.ChangeArms
import Derived.Test.YteighppcdpaekaaRows
import Derived.WalkKit
import Derived.ProofKit
import Derived.OpenShut
import Derived.ShutString
import Derived.ChangeOld
import Derived.Below
import Derived.SizedLaws
import Derived.Test.YteighppcdpaekaaE2
import Derived.Test.YteighppcdpaekaaE6
import Derived.Test.YteighppcdpaekaaE12
set_option linter.unusedVariables false
set_option linter.unusedSimpArgs false
section
namespace Go.Proofs.Yteighppcdpaekaa.P
open Go.RowKit Go.Proofs.YteighppcdpaekaaW.PrintWords
open Go.ChangeShapes Go.WideShapes
theorem cells_25 : Try.prog.cellsOf 25 = 4 := by kernel_rfl
theorem cells_9 : Try.prog.cellsOf 9 = 1 := by kernel_rfl
theorem cells_3 : Try.prog.cellsOf 3 = 1 := by kernel_rfl
theorem cells_22 : Try.prog.cellsOf 22 = 1 := by kernel_rfl
theorem cells_23 : Try.prog.cellsOf 23 = 1 := by kernel_rfl
instance : Inhabited S25 := ⟨z25⟩
section
variable {H : Type} {enc : TypeId × Value → H} {W : World} {sp : Nat → Bool} {held : Bool}
theorem open25 : ∀ (fuel : Nat) (cs : List Value) (x : DataW H × List MemPlace), DataW.trod enc Try.prog W 0 sp held fuel 25 cs = some x → ∃ v : S25, k25.K W v cs := by
 intro fuel
 induction fuel using Nat.strongRecOn with
 | _ fuel ih =>
  intro cs x h
  obtain ⟨xs, n, hn, rfl, hl, hlen, hf⟩ := DataW.trod_struct Try.underlying25 h
  rw [cells_25] at hl
  obtain ⟨a, b, c, d, rfl⟩ : ∃ a b c d, cs = [a, b, c, d] := by
   match cs, hl with
   | [a, b, c, d], _ => exact ⟨a, b, c, d, rfl⟩
  obtain ⟨y0, y1, y2, y3, rfl⟩ : ∃ a b c d, xs = [a, b, c, d] := by
   match xs, hlen with
   | [a, b, c, d], _ => exact ⟨a, b, c, d, rfl⟩
  have f0 : DataW.trod enc Try.prog W 0 sp held n 3 (([a, b, c, d].drop 0).take (Try.prog.cellsOf 3)) = some y0 := hf 0 _ rfl
  have f1 : DataW.trod enc Try.prog W 0 sp held n 9 (([a, b, c, d].drop 1).take (Try.prog.cellsOf 9)) = some y1 := hf 1 _ rfl
  have f2 : DataW.trod enc Try.prog W 0 sp held n 22 (([a, b, c, d].drop 2).take (Try.prog.cellsOf 22)) = some y2 := hf 2 _ rfl
  have f3 : DataW.trod enc Try.prog W 0 sp held n 23 (([a, b, c, d].drop 3).take (Try.prog.cellsOf 23)) = some y3 := hf 3 _ rfl
  rw [cells_3] at f0
  rw [cells_9] at f1
  rw [cells_22] at f2
  rw [cells_23] at f3
  obtain ⟨z, hz, _⟩ := DataW.trod_int Try.underlying3 f0
  obtain ⟨s, hs, _⟩ := DataW.trod_string Try.underlying9 f1
  obtain rfl : a = .int .i64 z := by simpa using hz
  obtain rfl : b = .string s := by simpa using hs
  have k2 : ∃ (l2 : List ByteArray) (A2 : Option Addr) (c2 : Nat), c = .slice A2 l2.length c2 ∧ l2.length ≤ c2 ∧ Kd.string.C W A2 l2.length l2 := by
   rcases open_strings Try.underlying22 Try.underlying9 cells_9 f2 with ⟨hc, _⟩ | ⟨ad, len, cap, ss, hc, _, h1, h2, h3, _, h5, _⟩
   ·obtain rfl : c = .slice none 0 0 := by simpa using hc
    exact ⟨[], none, 0, rfl, Nat.le_refl _, Kd.C_nil Kd.string W⟩
   ·obtain rfl : c = .slice (some ad) len cap := by simpa using hc
    have hss : len ≤ ss.length := by rw [h3]; split <;> omega
    have hll : (ss.take len).length = len := by rw [List.length_take]; omega
    refine ⟨ss.take len, some ad, cap, by rw [hll], by rw [hll]; exact h1, ?_⟩
    rw [hll]
    refine Kd.C_of_reads (enc := Value.string) (d := ByteArray.empty) (h1 := fun _ => rfl) ⟨hll, by unfold maxLen at h2; omega, fun _ => ⟨ad, rfl, fun j hj => ?_⟩⟩
    rw [h5 j (by omega)]
    simp only [List.getD_eq_getElem?_getD, List.getElem?_take_of_lt hj]
  have k3 : ∃ (l3 : List S25) (A3 : Option Addr) (c3 : Nat), d = .slice A3 l3.length c3 ∧ l3.length ≤ c3 ∧ k25.C W A3 l3.length l3 := by
   rcases DataW.trod_slice Try.underlying23 f3 with ⟨hc, _⟩ | ⟨ad, len, cap, elems, rest, n2, hn2, hc, _, _, h1, h2, h3, h4, _⟩
   ·obtain rfl : d = .slice none 0 0 := by simpa using hc
    exact ⟨[], none, 0, rfl, Nat.le_refl _, Kd.C_nil k25 W⟩
   ·obtain rfl : d = .slice (some ad) len cap := by simpa using hc
    obtain ⟨f, hff⟩ := Deep.choose_lt (α := S25) (n := len) (p := fun i v => ∃ cs, cs.length = 4 ∧ k25.K W v cs ∧ ∀ j u, cs[j]? = some u → W.cell? (ad.add (i * 4 + j)) = some u) (fun i hi => by
     have h5 := h4 i hi
     rw [List.getElem?_eq_getElem (by omega)] at h5
     obtain ⟨cs', h6, h7⟩ := Option.bind_eq_some_iff.1 h5
     rw [cells_25] at h6
     obtain ⟨_, h8, h9⟩ := World.cells?_some h6
     obtain ⟨v, hv⟩ := ih n2 (by omega) cs' _ h7
     refine ⟨v, cs', h8, hv, fun j u hu => ?_⟩
     have hj : j < 4 := by have := (List.getElem?_eq_some_iff.1 hu).1; omega
     rw [← hu, ← h9 j hj, Deep.add_add])
    have hll : ((List.range len).map f).length = len := by simp
    refine ⟨(List.range len).map f, some ad, cap, by rw [hll], by rw [hll]; exact h1, ?_⟩
    rw [hll]
    refine ⟨hll, by unfold maxLen at h2; omega, fun _ => ⟨ad, rfl, fun j p hj => ?_⟩⟩
    have hjl : j < len := by have := (List.getElem?_eq_some_iff.1 hj).1; rw [hll] at this; exact this
    obtain ⟨cs', e1, e2, e3⟩ := hff j hjl
    have : p = f j := by simpa [List.getElem?_range, hjl] using hj.symm
    subst this
    exact ⟨cs', e1, e2, e3⟩
  obtain ⟨l2, A2, c2, rfl, m2, g2⟩ := k2
  obtain ⟨l3, A3, c3, rfl, m3, g3⟩ := k3
  exact ⟨⟨z, s, l2, l3⟩, k25_mk W ⟨z, s, l2, l3⟩ m2 g2 m3 g3⟩
theorem openArg25 {v : Value} {d : DataW H} {p : List MemPlace} (hv : Value.okWide Try.prog W .any 0 25 v) (h : DataW.Trod enc Try.prog W 0 sp held 25 v d p) :
  ∃ (s : S25) (A2 : Option Addr) (c2 : Nat) (A3 : Option Addr) (c3 : Nat), v = .agg #[.int .i64 s.f0, .string s.f1, .slice A2 s.f2.length c2, .slice A3 s.f3.length c3] ∧ s.f2.length ≤ c2 ∧ Kd.string.C W A2 s.f2.length s.f2 ∧ s.f3.length ≤ c3 ∧ k25.C W A3 s.f3.length s.f3 := by
 obtain ⟨cs, rfl, hsz⟩ := okWide_struct Try.underlying25 hv
 obtain ⟨fuel, hf⟩ := h
 obtain ⟨s, hs⟩ := open25 fuel _ _ hf
 obtain ⟨A2, c2, A3, c3, he, m2, g2, m3, g3⟩ := k25_open hs
 refine ⟨s, A2, c2, A3, c3, ?_, m2, g2, m3, g3⟩
 have : cs.toList = [.int .i64 s.f0, .string s.f1, .slice A2 s.f2.length c2, .slice A3 s.f3.length c3] := by simpa [Value.cells] using he
 rw [← Array.toArray_toList (xs := cs), this]
end
end Go.Proofs.Yteighppcdpaekaa.P
end
section
namespace Go.Proofs.Yteighppcdpaekaa.jsonEquals
open Go.ChangeShapes Go.WideShapes Go.ChangeAt Go.RowKit Go.Proofs.YteighppcdpaekaaW.PrintWords Go.Proofs.Yteighppcdpaekaa.P
set_option linter.unusedVariables false
theorem own : ownKnob Try.prog.godebug = none := by kernel_rfl
theorem laidOut : laidOutB Try.prog = true := by kernel_rfl
def Pure : Prop := ∀ a b : S25, ∃ k, whetstonelaw04_JsonEquals.f k a.f0 a.f1 a.f2 a.f3 b.f0 b.f1 b.f2 b.f3 = some true
set_option maxRecDepth 100000 in
theorem lifted (pure : Pure) (os : Os) (started : os.Started) (H : Type) (enc : TypeId × Value → H) :
  ReturnsInHanded {} Try.checked os 5 .any (Rows.jsonEqualsSpec.pre6 enc Try.prog Try.f5 Rows.jsonEqualsRow.domain false) (Rows.jsonEqualsSpec.post enc Try.prog Try.f5 false true false false) := by
 refine returnsInHanded_of_change_sized (C := Try.checked) own started (by kernel_rfl) Try.func5
  (ChangeSpec.witness6 (enc := enc) (C := Try.checked) false ⟨#[], #[.agg #[.int .i64 0, .string ByteArray.empty, .slice none 0 0, .slice none 0 0], .agg #[.int .i64 0, .string ByteArray.empty, .slice none 0 0, .slice none 0 0]], []⟩ 8 (by kernel_rfl) (by kernel_rfl) (by kernel_rfl) (by kernel_rfl)) ?_
 intro W base args ds gs before hval0 hW hcnd hsz0 _
 have hval : ∀ (j : Nat) t v, Try.f5.params[j]? = some t → args[j]? = some v → Value.okWide Try.prog W .any base t v := hval0
 have hW' := hW
 obtain ⟨p, q, hA0, hV, rfl, hfz, hnd⟩ := hW
 have hA : DataW.TrodAll enc Try.prog W 0 (fun _ => true) true Try.f5.params.toList args.toList ds p := hA0
 rw [Try.params5] at hA hval
 obtain ⟨v0, vs0, d0, ds0, p0, q0, hargs, rfl, rfl, h0, r0⟩ := trodAll_cons hA
 obtain ⟨v1, vs1, d1, ds1, p1, q1, rfl, rfl, rfl, h1, r1⟩ := trodAll_cons r0
 obtain ⟨rfl, rfl, rfl⟩ := trodAll_nil r1
 obtain rfl : args = #[v0, v1] := by cases args; simp_all
 obtain ⟨rfl, rfl⟩ := trodVars_none hV
 have k0 := h0
 have lt0 : ∀ x ∈ p0, x.block < W.heap.size := by obtain ⟨m, hm⟩ := k0; exact DataW.trod_lt m _ _ _ hm
 have k1 := h1
 have lt1 : ∀ x ∈ p1, x.block < W.heap.size := by obtain ⟨m, hm⟩ := k1; exact DataW.trod_lt m _ _ _ hm
 obtain ⟨s0, A2, c2, A3, c3, rfl, l2, g2, l3, g3⟩ := openArg25 (hval 0 25 v0 rfl rfl) h0
 obtain ⟨s1, B2, e2, B3, e3, rfl, m2, j2, m3, j3⟩ := openArg25 (hval 1 25 v1 rfl rfl) h1
 clear hA0 hval0 hsz0
 obtain ⟨k, hk⟩ := pure s0 s1
 refine (whetstonelaw04_JsonEquals.calls k s0.f0 s0.f1 A2 c2 s0.f2 A3 c3 s0.f3 s1.f0 s1.f1 B2 e2 s1.f2 B3 e3 s1.f3 true W g2 l2 g3 l3 j2 m2 j3 m3 hk).mono fun e W' ⟨he, bel⟩ => ?_
 subst he
 exact ⟨_, rfl, _, _, _, [], _, [], hW', trodAll_mk1 (shut_bool Try.underlying4 _), (trodAll_cons_mk (Below.trod laidOut (by kernel_rfl) (of_decide_eq_true (by kernel_rfl)) k0 bel lt0) (trodAll_cons_mk (Below.trod laidOut (by kernel_rfl) (of_decide_eq_true (by kernel_rfl)) k1 bel lt1) trodAll_mk0)), rfl, bel.frame _, fun h => by cases h⟩
theorem over (pure : Pure) : Rows.jsonEqualsRow.holds Try.pinned (OpenSpec.ofChange Rows.jsonEqualsSpec) :=
 OpenClaim.holds_of_wide 5 Try.f5 rfl rfl rfl rfl rfl rfl rfl ⟨rfl, rfl, rfl, rfl, rfl⟩ rfl rfl rfl rfl rfl (by kernel_rfl) Try.func5 (by kernel_rfl)
  (of_decide_eq_true (by kernel_rfl)) (by unfold Func.isWrapper; first | (rw [if_pos (by decide +kernel)]; kernel_rfl) | (rw [if_neg (by decide +kernel)]; exact ⟨rfl, rfl⟩))
  (fun os started H enc _ => lifted pure os started H enc)
end Go.Proofs.Yteighppcdpaekaa.jsonEquals
end
section
namespace Go.Proofs.Yteighppcdpaekaa.Eq4
open Go.RowKit Go.Proofs.YteighppcdpaekaaW.PrintWords Go.Proofs.Yteighppcdpaekaa.P
theorem written_ev : Ev (fun k => whetstonelaw04_written.f k) true := Ev.now true
theorem equals_pure : jsonEquals.Pure := by
 intro a b
 refine Ev.rounds ?_
 have yes : Ev (fun k => whetstonelaw04_JsonEquals.j0 k true a.f0 a.f1 a.f2 a.f3 b.f0 b.f1 b.f2 b.f3) true := Ev.step (fun k => rfl) (by
  simp only [whetstonelaw04_JsonEquals.j0]
  exact Evpos (by trivial) (Ev.bind written_ev (Ev.now _)))
 obtain ⟨x, hx, hL⟩ := few_val a
 cases x with
 | false => exact Ev.bind hx (Evneg (by simp) yes)
 | true =>
  obtain ⟨y, hy, hM⟩ := few_val b
  refine Ev.bind hx (Evpos rfl (Ev.bind hy ?_))
  cases y with
  | false => exact yes
  | true =>
   have hA := hL rfl
   have hB := hM rfl
   have oa := of_val _ a (Nat.le_refl _) hA
   have ob := of_val _ b (Nat.le_refl _) hB
   refine Ev.step (fun k => rfl) ?_
   simp only [whetstonelaw04_JsonEquals.j0]
   refine Evneg (by simp) (Ev.bind written_ev (Evpos rfl (Ev.bind (equal_val _ a b (Nat.le_refl _) hA) (Ev.bind oa (Ev.bind ob (Ev.bind (ref_val _ a b (Nat.le_refl _) hA) (Evpos (by simp) (Ev.bind oa (Ev.bind (to_val _ a (Nat.le_refl _) hA) (Ev.bind ?_ (Ev.now _)))))))))))
   have := equal_val _ a a (Nat.le_refl _) hA
   rw [eqS_refl _ a (Nat.le_refl _)] at this
   exact this
end Go.Proofs.Yteighppcdpaekaa.Eq4
namespace Go.Proofs.Yteighppcdpaekaa
theorem jsonEquals_holds : Rows.JsonEqualsSaid := jsonEquals.over Eq4.equals_pure
#print axioms jsonEquals_holds
end Go.Proofs.Yteighppcdpaekaa
end
