/- Walks and words of this session, put together by a program of this session (pack.py). Conditions: as each text says. -/
import Derived.Test.YteighppcdpaekaaDoorP2
import Derived.Test.YteighppcdpaekaaDoorP4
set_option linter.unusedVariables false
set_option linter.unusedSimpArgs false
section
namespace Go.Proofs.YteighppcdpaekaaDoor.P
open Go.RowKit Go.Proofs.YteighppcdpaekaaDoorW.PrintWords Go.Proofs.YteighppcdpaekaaDoorW.PrintLast Go.Proofs.YteighppcdpaekaaDoorW.PrintMore
attribute [local go_sem] max2_int min2_int max_two min_two max_three min_three max_four min_four
set_option linter.unusedVariables false
set_option linter.unusedSimpArgs false
def rR_enter.f (k : Nat) (s0_0 : List Int) (s0_1 : Int) (s0_2 : Int) (s0_3 : Int) (s0_4 : Int) (a1 : Int) : Option (Bool × Int × Int × Int × Int) := if (wrap64 (s0_2 + 1)) > 64 then ((rR_fail.f s0_0 s0_1 (wrap64 (s0_2 + 1)) s0_3 s0_4 13 s0_1).bind fun bt733 => (some (true, bt733.1, bt733.2.1, bt733.2.2.1, bt733.2.2.2))) else ((rR_blank.f k s0_0 (wrap64 (s0_1 + 1)) (wrap64 (s0_2 + 1)) s0_3 s0_4).bind fun bt737 => ((rR_peek.f s0_0 bt737.1 bt737.2.1 bt737.2.2.1 bt737.2.2.2).bind fun bt741 => (if bt741.2.2.2.1 = 0 then (if bt741.1 = a1 then (some (true, wrap64 (bt741.2.1 + 1), wrap64 (bt741.2.2.1 - 1), bt741.2.2.2.1, bt741.2.2.2.2)) else (some (false, bt741.2.1, bt741.2.2.1, bt741.2.2.2.1, bt741.2.2.2.2))) else (some (true, bt741.2.1, bt741.2.2.1, bt741.2.2.2.1, bt741.2.2.2.2)))))
set_option maxHeartbeats 8000000 in
set_option maxRecDepth 100000 in
theorem rR_enter.calls (k : Nat) (g : Nat) (s0_0 : List Int) (s0_1 : Int) (s0_2 : Int) (s0_3 : Int) (s0_4 : Int) (a1 : Int) (r1 : Bool) (r2 : Int) (r3 : Int) (r4 : Int) (r5 : Int) (w0 w : World) (hI : IsS96 w0 w g s0_0 s0_1 s0_2 s0_3 s0_4) (hB : Below w0.heap.size w0 w) (h : rR_enter.f k s0_0 s0_1 s0_2 s0_3 s0_4 a1 = some (r1, r2, r3, r4, r5)) :
  Calls Tryd.prog 86 #[.pointer (some ⟨g, 0, none⟩), .int .i64 a1] w fun e w' => e = .returned (.bool r1) ∧ IsS96 w0 w' g s0_0 r2 r3 r4 r5 ∧ Below w0.heap.size w0 w' ∧ KeepBut w w' g none := by
 have HI0 := Aside0.mk hI
 have HK := Aside0.mk (KeepBut.refl w g none)
 have HL := Aside0.mk hB.size
 clear hI
 have HW0 := Aside0.mk hB.size
 have HB := Aside0.mk hB
 clear hB
 have H : (if (wrap64 (s0_2 + 1)) > 64 then ((rR_fail.f s0_0 s0_1 (wrap64 (s0_2 + 1)) s0_3 s0_4 13 s0_1).bind fun bt733 => (some (true, bt733.1, bt733.2.1, bt733.2.2.1, bt733.2.2.2))) else ((rR_blank.f k s0_0 (wrap64 (s0_1 + 1)) (wrap64 (s0_2 + 1)) s0_3 s0_4).bind fun bt737 => ((rR_peek.f s0_0 bt737.1 bt737.2.1 bt737.2.2.1 bt737.2.2.2).bind fun bt741 => (if bt741.2.2.2.1 = 0 then (if bt741.1 = a1 then (some (true, wrap64 (bt741.2.1 + 1), wrap64 (bt741.2.2.1 - 1), bt741.2.2.2.1, bt741.2.2.2.2)) else (some (false, bt741.2.1, bt741.2.2.1, bt741.2.2.2.1, bt741.2.2.2.2))) else (some (true, bt741.2.1, bt741.2.2.1, bt741.2.2.2.1, bt741.2.2.2.2)))))) = some (r1, r2, r3, r4, r5) := h
 clear h
 by_cases c3 : (wrap64 (s0_2 + 1)) > 64
 ·rw [if_pos c3] at H
  have c3b0 : decide (64 < (wrap64 (s0_2 + 1))) = true := decide_eq_true c3
  clear c3
  replace H := Option.bind_eq_some_iff.mp H
  obtain ⟨⟨t733, t734, t735, t736⟩, A40, H⟩ := H
  replace H : (some (true, t733, t734, t735, t736)) = some (r1, r2, r3, r4, r5) := H
  have A4 := Aside0.mk A40
  clear A40
  simp only [Option.some.injEq, Prod.mk.injEq] at H
  obtain ⟨rfl, rfl, rfl, rfl, rfl⟩ := H
  obtain ⟨ASz5_0, cSz5_0, HGz5, hgz5, HSz5_0⟩ := HI0.out
  have hcz5_0 := cellS96_0 HGz5
  have hcz5_1 := cellS96_1 HGz5
  have hcz5_2 := cellS96_2 HGz5
  have hcz5_3 := cellS96_3 HGz5
  have hcz5_4 := cellS96_4 HGz5
  have hfz5_1 := bfz HGz5 1
  have hfz5_2 := bfz HGz5 2
  have hfz5_3 := bfz HGz5 3
  have hfz5_4 := bfz HGz5 4
  clear HGz5 hgz5
  go_enter Tryd.func86, Tryd.ntmps86
  go_wp2_with (first | ((with_reducible refine gate_callee (f := 46) rfl ?_); refine goesL_ (some 23) rfl rfl Tryd.func46 (by kernel_rfl) rfl #[.pointer (some ⟨g, 0, none⟩), .int .i64 13, .int .i64 s0_1] rfl (by (try simp only [List.map_toArray, List.map_cons, List.map_nil]); first | done | rfl | (simp only [List.length_drop, List.length_take]; rfl)) ?_; (with_reducible refine (rR_fail.calls g s0_0 s0_1 (wrap64 (s0_2 + 1)) s0_3 s0_4 13 s0_1 t733 t734 t735 t736 w0 _ ?side1 ?side2 A4.out).mono ?_); (case side1 => repeat (first | (with_reducible first | exact HI0.out | apply IsS96.alloc | apply IsS96.drewN | apply IsS96.drew | apply IsS96.set_1 | apply IsS96.set_2 | apply IsS96.set_3 | apply IsS96.set_4) | exact HI0.out)); (case side2 => repeat (first | (with_reducible first | exact HB.out | apply bal | apply pbdN | apply bdr1 | refine below_set ?_ (IsS96.ge HI0.out)) | exact HB.out)); rintro e w6 ⟨rfl, hi, hb, hk⟩; refine ⟨_, rfl, ?_⟩; have n0_ := Aside0.mk (KeepBut.trans (by repeat (first | (with_reducible first | exact HK.out | apply KeepBut.set_ | apply kdrN | apply keep_drew | apply kal) | exact HK.out)) hk (.inl rfl)); have n1_ := Aside0.mk (hb); have n2_ := Aside0.mk (hi); clear HK; clear HB; clear HI0; have HK := n0_; have HB := n1_; have HI0 := n2_; clear n0_ n1_ n2_; (try clear hb); (try clear hb2); (try clear hk); (try clear hi)))
  go_ret
  exact ⟨by first | rfl | (simp [errW_none, errW_some] <;> rfl) | (simp [*, errW_none, errW_some] <;> rfl), by repeat (first | (with_reducible first | exact HI0.out | apply IsS96.alloc | apply IsS96.drewN | apply IsS96.drew | apply IsS96.set_1 | apply IsS96.set_2 | apply IsS96.set_3 | apply IsS96.set_4) | exact HI0.out), by repeat (first | (with_reducible first | exact HB.out | apply bal | apply pbdN | apply bdr1 | refine below_set ?_ (IsS96.ge HI0.out)) | exact HB.out), by repeat (first | (with_reducible first | exact HK.out | apply KeepBut.set_ | apply kdrN | apply keep_drew | apply kal) | exact HK.out)⟩
 ·rw [if_neg c3] at H
  have c3b0 : decide (64 < (wrap64 (s0_2 + 1))) = false := decide_eq_false c3
  clear c3
  replace H := Option.bind_eq_some_iff.mp H
  obtain ⟨⟨t737, t738, t739, t740⟩, A70, H⟩ := H
  replace H : ((rR_peek.f s0_0 t737 t738 t739 t740).bind fun bt741 => (if bt741.2.2.2.1 = 0 then (if bt741.1 = a1 then (some (true, wrap64 (bt741.2.1 + 1), wrap64 (bt741.2.2.1 - 1), bt741.2.2.2.1, bt741.2.2.2.2)) else (some (false, bt741.2.1, bt741.2.2.1, bt741.2.2.2.1, bt741.2.2.2.2))) else (some (true, bt741.2.1, bt741.2.2.1, bt741.2.2.2.1, bt741.2.2.2.2)))) = some (r1, r2, r3, r4, r5) := H
  have A7 := Aside0.mk A70
  clear A70
  replace H := Option.bind_eq_some_iff.mp H
  obtain ⟨⟨t741, t742, t743, t744, t745⟩, A80, H⟩ := H
  replace H : (if t744 = 0 then (if t741 = a1 then (some (true, wrap64 (t742 + 1), wrap64 (t743 - 1), t744, t745)) else (some (false, t742, t743, t744, t745))) else (some (true, t742, t743, t744, t745))) = some (r1, r2, r3, r4, r5) := H
  have A8 := Aside0.mk A80
  clear A80
  by_cases c9 : t744 = 0
  ·rw [if_pos c9] at H
   have c9b0 : (t744 == 0) = true := beq_iff_eq.mpr c9
   have c9b1 : (t744 != 0) = false := bne_eq_false_iff_eq.mpr c9
   clear c9
   by_cases c10 : t741 = a1
   ·rw [if_pos c10] at H
    have c10b0 : (t741 == a1) = true := beq_iff_eq.mpr c10
    have c10b1 : (t741 != a1) = false := bne_eq_false_iff_eq.mpr c10
    clear c10
    simp only [Option.some.injEq, Prod.mk.injEq] at H
    obtain ⟨rfl, rfl, rfl, rfl, rfl⟩ := H
    obtain ⟨ASz11_0, cSz11_0, HGz11, hgz11, HSz11_0⟩ := HI0.out
    have hcz11_0 := cellS96_0 HGz11
    have hcz11_1 := cellS96_1 HGz11
    have hcz11_2 := cellS96_2 HGz11
    have hcz11_3 := cellS96_3 HGz11
    have hcz11_4 := cellS96_4 HGz11
    have hfz11_1 := bfz HGz11 1
    have hfz11_2 := bfz HGz11 2
    have hfz11_3 := bfz HGz11 3
    have hfz11_4 := bfz HGz11 4
    clear HGz11 hgz11
    go_enter Tryd.func86, Tryd.ntmps86
    go_wp2_with (first | ((with_reducible refine gate_callee (f := 44) rfl ?_); refine goesL_ (some 32) rfl rfl Tryd.func44 (by kernel_rfl) rfl #[.pointer (some ⟨g, 0, none⟩)] rfl (by (try simp only [List.map_toArray, List.map_cons, List.map_nil]); first | done | rfl | (simp only [List.length_drop, List.length_take]; rfl)) ?_; (with_reducible refine (rR_blank.calls k g s0_0 (wrap64 (s0_1 + 1)) (wrap64 (s0_2 + 1)) s0_3 s0_4 t737 t738 t739 t740 w0 _ ?side1 ?side2 A7.out).mono ?_); (case side1 => repeat (first | (with_reducible first | exact HI0.out | apply IsS96.alloc | apply IsS96.drewN | apply IsS96.drew | apply IsS96.set_1 | apply IsS96.set_2 | apply IsS96.set_3 | apply IsS96.set_4) | exact HI0.out)); (case side2 => repeat (first | (with_reducible first | exact HB.out | apply bal | apply pbdN | apply bdr1 | refine below_set ?_ (IsS96.ge HI0.out)) | exact HB.out)); rintro e w12 ⟨rfl, hi, hb, hk⟩; refine ⟨_, rfl, ?_⟩; have n0_ := Aside0.mk (KeepBut.trans (by repeat (first | (with_reducible first | exact HK.out | apply KeepBut.set_ | apply kdrN | apply keep_drew | apply kal) | exact HK.out)) hk (.inl rfl)); have n1_ := Aside0.mk (hb); have n2_ := Aside0.mk (hi); clear HK; clear HB; clear HI0; have HK := n0_; have HB := n1_; have HI0 := n2_; clear n0_ n1_ n2_; (try clear hb); (try clear hb2); (try clear hk); (try clear hi)) | ((with_reducible refine gate_callee (f := 65) rfl ?_); refine goesL_ (some 34) rfl rfl Tryd.func65 (by kernel_rfl) rfl #[.pointer (some ⟨g, 0, none⟩)] rfl (by (try simp only [List.map_toArray, List.map_cons, List.map_nil]); first | done | rfl | (simp only [List.length_drop, List.length_take]; rfl)) ?_; (with_reducible refine (rR_peek.calls g s0_0 t737 t738 t739 t740 t741 t742 t743 t744 t745 w0 _ ?side1 ?side2 A8.out).mono ?_); (case side1 => repeat (first | (with_reducible first | exact HI0.out | apply IsS96.alloc | apply IsS96.drewN | apply IsS96.drew | apply IsS96.set_1 | apply IsS96.set_2 | apply IsS96.set_3 | apply IsS96.set_4) | exact HI0.out)); (case side2 => repeat (first | (with_reducible first | exact HB.out | apply bal | apply pbdN | apply bdr1 | refine below_set ?_ (IsS96.ge HI0.out)) | exact HB.out)); rintro e w13 ⟨rfl, hi, hb, hk⟩; refine ⟨_, rfl, ?_⟩; have n0_ := Aside0.mk (KeepBut.trans (by repeat (first | (with_reducible first | exact HK.out | apply KeepBut.set_ | apply kdrN | apply keep_drew | apply kal) | exact HK.out)) hk (.inl rfl)); have n1_ := Aside0.mk (hb); have n2_ := Aside0.mk (hi); clear HK; clear HB; clear HI0; have HK := n0_; have HB := n1_; have HI0 := n2_; clear n0_ n1_ n2_; (try clear hb); (try clear hb2); (try clear hk); (try clear hi); obtain ⟨ASz14_0, cSz14_0, HGz14, hgz14, HSz14_0⟩ := HI0.out; have hcz14_0 := cellS96_0 HGz14; have hcz14_1 := cellS96_1 HGz14; have hcz14_2 := cellS96_2 HGz14; have hcz14_3 := cellS96_3 HGz14; have hcz14_4 := cellS96_4 HGz14; have hfz14_1 := bfz HGz14 1; have hfz14_2 := bfz HGz14 2; have hfz14_3 := bfz HGz14 3; have hfz14_4 := bfz HGz14 4; clear HGz14 hgz14))
    go_ret
    exact ⟨by first | rfl | (simp [errW_none, errW_some] <;> rfl) | (simp [*, errW_none, errW_some] <;> rfl), by repeat (first | (with_reducible first | exact HI0.out | apply IsS96.alloc | apply IsS96.drewN | apply IsS96.drew | apply IsS96.set_1 | apply IsS96.set_2 | apply IsS96.set_3 | apply IsS96.set_4) | exact HI0.out), by repeat (first | (with_reducible first | exact HB.out | apply bal | apply pbdN | apply bdr1 | refine below_set ?_ (IsS96.ge HI0.out)) | exact HB.out), by repeat (first | (with_reducible first | exact HK.out | apply KeepBut.set_ | apply kdrN | apply keep_drew | apply kal) | exact HK.out)⟩
   ·rw [if_neg c10] at H
    have c10b0 : (t741 == a1) = false := beq_eq_false_iff_ne.mpr c10
    have c10b1 : (t741 != a1) = true := bne_iff_ne.mpr c10
    simp only [Option.some.injEq, Prod.mk.injEq] at H
    obtain ⟨rfl, rfl, rfl, rfl, rfl⟩ := H
    obtain ⟨ASz15_0, cSz15_0, HGz15, hgz15, HSz15_0⟩ := HI0.out
    have hcz15_0 := cellS96_0 HGz15
    have hcz15_1 := cellS96_1 HGz15
    have hcz15_2 := cellS96_2 HGz15
    have hcz15_3 := cellS96_3 HGz15
    have hcz15_4 := cellS96_4 HGz15
    have hfz15_1 := bfz HGz15 1
    have hfz15_2 := bfz HGz15 2
    have hfz15_3 := bfz HGz15 3
    have hfz15_4 := bfz HGz15 4
    clear HGz15 hgz15
    go_enter Tryd.func86, Tryd.ntmps86
    go_wp2_with (first | ((with_reducible refine gate_callee (f := 44) rfl ?_); refine goesL_ (some 32) rfl rfl Tryd.func44 (by kernel_rfl) rfl #[.pointer (some ⟨g, 0, none⟩)] rfl (by (try simp only [List.map_toArray, List.map_cons, List.map_nil]); first | done | rfl | (simp only [List.length_drop, List.length_take]; rfl)) ?_; (with_reducible refine (rR_blank.calls k g s0_0 (wrap64 (s0_1 + 1)) (wrap64 (s0_2 + 1)) s0_3 s0_4 t737 t738 t739 t740 w0 _ ?side1 ?side2 A7.out).mono ?_); (case side1 => repeat (first | (with_reducible first | exact HI0.out | apply IsS96.alloc | apply IsS96.drewN | apply IsS96.drew | apply IsS96.set_1 | apply IsS96.set_2 | apply IsS96.set_3 | apply IsS96.set_4) | exact HI0.out)); (case side2 => repeat (first | (with_reducible first | exact HB.out | apply bal | apply pbdN | apply bdr1 | refine below_set ?_ (IsS96.ge HI0.out)) | exact HB.out)); rintro e w16 ⟨rfl, hi, hb, hk⟩; refine ⟨_, rfl, ?_⟩; have n0_ := Aside0.mk (KeepBut.trans (by repeat (first | (with_reducible first | exact HK.out | apply KeepBut.set_ | apply kdrN | apply keep_drew | apply kal) | exact HK.out)) hk (.inl rfl)); have n1_ := Aside0.mk (hb); have n2_ := Aside0.mk (hi); clear HK; clear HB; clear HI0; have HK := n0_; have HB := n1_; have HI0 := n2_; clear n0_ n1_ n2_; (try clear hb); (try clear hb2); (try clear hk); (try clear hi)) | ((with_reducible refine gate_callee (f := 65) rfl ?_); refine goesL_ (some 34) rfl rfl Tryd.func65 (by kernel_rfl) rfl #[.pointer (some ⟨g, 0, none⟩)] rfl (by (try simp only [List.map_toArray, List.map_cons, List.map_nil]); first | done | rfl | (simp only [List.length_drop, List.length_take]; rfl)) ?_; (with_reducible refine (rR_peek.calls g s0_0 t737 t738 t739 t740 t741 t742 t743 t744 t745 w0 _ ?side1 ?side2 A8.out).mono ?_); (case side1 => repeat (first | (with_reducible first | exact HI0.out | apply IsS96.alloc | apply IsS96.drewN | apply IsS96.drew | apply IsS96.set_1 | apply IsS96.set_2 | apply IsS96.set_3 | apply IsS96.set_4) | exact HI0.out)); (case side2 => repeat (first | (with_reducible first | exact HB.out | apply bal | apply pbdN | apply bdr1 | refine below_set ?_ (IsS96.ge HI0.out)) | exact HB.out)); rintro e w17 ⟨rfl, hi, hb, hk⟩; refine ⟨_, rfl, ?_⟩; have n0_ := Aside0.mk (KeepBut.trans (by repeat (first | (with_reducible first | exact HK.out | apply KeepBut.set_ | apply kdrN | apply keep_drew | apply kal) | exact HK.out)) hk (.inl rfl)); have n1_ := Aside0.mk (hb); have n2_ := Aside0.mk (hi); clear HK; clear HB; clear HI0; have HK := n0_; have HB := n1_; have HI0 := n2_; clear n0_ n1_ n2_; (try clear hb); (try clear hb2); (try clear hk); (try clear hi); obtain ⟨ASz18_0, cSz18_0, HGz18, hgz18, HSz18_0⟩ := HI0.out; have hcz18_0 := cellS96_0 HGz18; have hcz18_1 := cellS96_1 HGz18; have hcz18_2 := cellS96_2 HGz18; have hcz18_3 := cellS96_3 HGz18; have hcz18_4 := cellS96_4 HGz18; have hfz18_1 := bfz HGz18 1; have hfz18_2 := bfz HGz18 2; have hfz18_3 := bfz HGz18 3; have hfz18_4 := bfz HGz18 4; clear HGz18 hgz18))
    go_ret
    exact ⟨by first | rfl | (simp [errW_none, errW_some] <;> rfl) | (simp [*, errW_none, errW_some] <;> rfl), by repeat (first | (with_reducible first | exact HI0.out | apply IsS96.alloc | apply IsS96.drewN | apply IsS96.drew | apply IsS96.set_1 | apply IsS96.set_2 | apply IsS96.set_3 | apply IsS96.set_4) | exact HI0.out), by repeat (first | (with_reducible first | exact HB.out | apply bal | apply pbdN | apply bdr1 | refine below_set ?_ (IsS96.ge HI0.out)) | exact HB.out), by repeat (first | (with_reducible first | exact HK.out | apply KeepBut.set_ | apply kdrN | apply keep_drew | apply kal) | exact HK.out)⟩
  ·rw [if_neg c9] at H
   have c9b0 : (t744 == 0) = false := beq_eq_false_iff_ne.mpr c9
   have c9b1 : (t744 != 0) = true := bne_iff_ne.mpr c9
   simp only [Option.some.injEq, Prod.mk.injEq] at H
   obtain ⟨rfl, rfl, rfl, rfl, rfl⟩ := H
   obtain ⟨ASz19_0, cSz19_0, HGz19, hgz19, HSz19_0⟩ := HI0.out
   have hcz19_0 := cellS96_0 HGz19
   have hcz19_1 := cellS96_1 HGz19
   have hcz19_2 := cellS96_2 HGz19
   have hcz19_3 := cellS96_3 HGz19
   have hcz19_4 := cellS96_4 HGz19
   have hfz19_1 := bfz HGz19 1
   have hfz19_2 := bfz HGz19 2
   have hfz19_3 := bfz HGz19 3
   have hfz19_4 := bfz HGz19 4
   clear HGz19 hgz19
   go_enter Tryd.func86, Tryd.ntmps86
   go_wp2_with (first | ((with_reducible refine gate_callee (f := 44) rfl ?_); refine goesL_ (some 32) rfl rfl Tryd.func44 (by kernel_rfl) rfl #[.pointer (some ⟨g, 0, none⟩)] rfl (by (try simp only [List.map_toArray, List.map_cons, List.map_nil]); first | done | rfl | (simp only [List.length_drop, List.length_take]; rfl)) ?_; (with_reducible refine (rR_blank.calls k g s0_0 (wrap64 (s0_1 + 1)) (wrap64 (s0_2 + 1)) s0_3 s0_4 t737 t738 t739 t740 w0 _ ?side1 ?side2 A7.out).mono ?_); (case side1 => repeat (first | (with_reducible first | exact HI0.out | apply IsS96.alloc | apply IsS96.drewN | apply IsS96.drew | apply IsS96.set_1 | apply IsS96.set_2 | apply IsS96.set_3 | apply IsS96.set_4) | exact HI0.out)); (case side2 => repeat (first | (with_reducible first | exact HB.out | apply bal | apply pbdN | apply bdr1 | refine below_set ?_ (IsS96.ge HI0.out)) | exact HB.out)); rintro e w20 ⟨rfl, hi, hb, hk⟩; refine ⟨_, rfl, ?_⟩; have n0_ := Aside0.mk (KeepBut.trans (by repeat (first | (with_reducible first | exact HK.out | apply KeepBut.set_ | apply kdrN | apply keep_drew | apply kal) | exact HK.out)) hk (.inl rfl)); have n1_ := Aside0.mk (hb); have n2_ := Aside0.mk (hi); clear HK; clear HB; clear HI0; have HK := n0_; have HB := n1_; have HI0 := n2_; clear n0_ n1_ n2_; (try clear hb); (try clear hb2); (try clear hk); (try clear hi)) | ((with_reducible refine gate_callee (f := 65) rfl ?_); refine goesL_ (some 34) rfl rfl Tryd.func65 (by kernel_rfl) rfl #[.pointer (some ⟨g, 0, none⟩)] rfl (by (try simp only [List.map_toArray, List.map_cons, List.map_nil]); first | done | rfl | (simp only [List.length_drop, List.length_take]; rfl)) ?_; (with_reducible refine (rR_peek.calls g s0_0 t737 t738 t739 t740 t741 t742 t743 t744 t745 w0 _ ?side1 ?side2 A8.out).mono ?_); (case side1 => repeat (first | (with_reducible first | exact HI0.out | apply IsS96.alloc | apply IsS96.drewN | apply IsS96.drew | apply IsS96.set_1 | apply IsS96.set_2 | apply IsS96.set_3 | apply IsS96.set_4) | exact HI0.out)); (case side2 => repeat (first | (with_reducible first | exact HB.out | apply bal | apply pbdN | apply bdr1 | refine below_set ?_ (IsS96.ge HI0.out)) | exact HB.out)); rintro e w21 ⟨rfl, hi, hb, hk⟩; refine ⟨_, rfl, ?_⟩; have n0_ := Aside0.mk (KeepBut.trans (by repeat (first | (with_reducible first | exact HK.out | apply KeepBut.set_ | apply kdrN | apply keep_drew | apply kal) | exact HK.out)) hk (.inl rfl)); have n1_ := Aside0.mk (hb); have n2_ := Aside0.mk (hi); clear HK; clear HB; clear HI0; have HK := n0_; have HB := n1_; have HI0 := n2_; clear n0_ n1_ n2_; (try clear hb); (try clear hb2); (try clear hk); (try clear hi); obtain ⟨ASz22_0, cSz22_0, HGz22, hgz22, HSz22_0⟩ := HI0.out; have hcz22_0 := cellS96_0 HGz22; have hcz22_1 := cellS96_1 HGz22; have hcz22_2 := cellS96_2 HGz22; have hcz22_3 := cellS96_3 HGz22; have hcz22_4 := cellS96_4 HGz22; have hfz22_1 := bfz HGz22 1; have hfz22_2 := bfz HGz22 2; have hfz22_3 := bfz HGz22 3; have hfz22_4 := bfz HGz22 4; clear HGz22 hgz22))
   go_ret
   exact ⟨by first | rfl | (simp [errW_none, errW_some] <;> rfl) | (simp [*, errW_none, errW_some] <;> rfl), by repeat (first | (with_reducible first | exact HI0.out | apply IsS96.alloc | apply IsS96.drewN | apply IsS96.drew | apply IsS96.set_1 | apply IsS96.set_2 | apply IsS96.set_3 | apply IsS96.set_4) | exact HI0.out), by repeat (first | (with_reducible first | exact HB.out | apply bal | apply pbdN | apply bdr1 | refine below_set ?_ (IsS96.ge HI0.out)) | exact HB.out), by repeat (first | (with_reducible first | exact HK.out | apply KeepBut.set_ | apply kdrN | apply keep_drew | apply kal) | exact HK.out)⟩
def rR_more.f (k : Nat) (s0_0 : List Int) (s0_1 : Int) (s0_2 : Int) (s0_3 : Int) (s0_4 : Int) (a1 : Int) : Option (Bool × Int × Int × Int × Int) := (rR_blank.f k s0_0 s0_1 s0_2 s0_3 s0_4).bind fun bt746 => ((rR_peek.f s0_0 bt746.1 bt746.2.1 bt746.2.2.1 bt746.2.2.2).bind fun bt750 => (if bt750.2.2.2.1 = 0 then (if bt750.1 = a1 then (some (false, wrap64 (bt750.2.1 + 1), wrap64 (bt750.2.2.1 - 1), bt750.2.2.2.1, bt750.2.2.2.2)) else (if bt750.1 = 44 then ((rR_blank.f k s0_0 (wrap64 (bt750.2.1 + 1)) bt750.2.2.1 bt750.2.2.2.1 bt750.2.2.2.2).bind fun bt755 => (some (true, bt755.1, bt755.2.1, bt755.2.2.1, bt755.2.2.2))) else ((rR_fail.f s0_0 bt750.2.1 bt750.2.2.1 bt750.2.2.2.1 bt750.2.2.2.2 6 bt750.2.1).bind fun bt759 => (some (false, bt759.1, bt759.2.1, bt759.2.2.1, bt759.2.2.2))))) else (some (false, bt750.2.1, bt750.2.2.1, bt750.2.2.2.1, bt750.2.2.2.2))))
set_option maxHeartbeats 8000000 in
set_option maxRecDepth 100000 in
theorem rR_more.calls (k : Nat) (g : Nat) (s0_0 : List Int) (s0_1 : Int) (s0_2 : Int) (s0_3 : Int) (s0_4 : Int) (a1 : Int) (r1 : Bool) (r2 : Int) (r3 : Int) (r4 : Int) (r5 : Int) (w0 w : World) (hI : IsS96 w0 w g s0_0 s0_1 s0_2 s0_3 s0_4) (hB : Below w0.heap.size w0 w) (h : rR_more.f k s0_0 s0_1 s0_2 s0_3 s0_4 a1 = some (r1, r2, r3, r4, r5)) :
  Calls Tryd.prog 88 #[.pointer (some ⟨g, 0, none⟩), .int .i64 a1] w fun e w' => e = .returned (.bool r1) ∧ IsS96 w0 w' g s0_0 r2 r3 r4 r5 ∧ Below w0.heap.size w0 w' ∧ KeepBut w w' g none := by
 have HI0 := Aside0.mk hI
 have HK := Aside0.mk (KeepBut.refl w g none)
 have HL := Aside0.mk hB.size
 clear hI
 have HW0 := Aside0.mk hB.size
 have HB := Aside0.mk hB
 clear hB
 have H : ((rR_blank.f k s0_0 s0_1 s0_2 s0_3 s0_4).bind fun bt746 => ((rR_peek.f s0_0 bt746.1 bt746.2.1 bt746.2.2.1 bt746.2.2.2).bind fun bt750 => (if bt750.2.2.2.1 = 0 then (if bt750.1 = a1 then (some (false, wrap64 (bt750.2.1 + 1), wrap64 (bt750.2.2.1 - 1), bt750.2.2.2.1, bt750.2.2.2.2)) else (if bt750.1 = 44 then ((rR_blank.f k s0_0 (wrap64 (bt750.2.1 + 1)) bt750.2.2.1 bt750.2.2.2.1 bt750.2.2.2.2).bind fun bt755 => (some (true, bt755.1, bt755.2.1, bt755.2.2.1, bt755.2.2.2))) else ((rR_fail.f s0_0 bt750.2.1 bt750.2.2.1 bt750.2.2.2.1 bt750.2.2.2.2 6 bt750.2.1).bind fun bt759 => (some (false, bt759.1, bt759.2.1, bt759.2.2.1, bt759.2.2.2))))) else (some (false, bt750.2.1, bt750.2.2.1, bt750.2.2.2.1, bt750.2.2.2.2))))) = some (r1, r2, r3, r4, r5) := h
 clear h
 replace H := Option.bind_eq_some_iff.mp H
 obtain ⟨⟨t746, t747, t748, t749⟩, A30, H⟩ := H
 replace H : ((rR_peek.f s0_0 t746 t747 t748 t749).bind fun bt750 => (if bt750.2.2.2.1 = 0 then (if bt750.1 = a1 then (some (false, wrap64 (bt750.2.1 + 1), wrap64 (bt750.2.2.1 - 1), bt750.2.2.2.1, bt750.2.2.2.2)) else (if bt750.1 = 44 then ((rR_blank.f k s0_0 (wrap64 (bt750.2.1 + 1)) bt750.2.2.1 bt750.2.2.2.1 bt750.2.2.2.2).bind fun bt755 => (some (true, bt755.1, bt755.2.1, bt755.2.2.1, bt755.2.2.2))) else ((rR_fail.f s0_0 bt750.2.1 bt750.2.2.1 bt750.2.2.2.1 bt750.2.2.2.2 6 bt750.2.1).bind fun bt759 => (some (false, bt759.1, bt759.2.1, bt759.2.2.1, bt759.2.2.2))))) else (some (false, bt750.2.1, bt750.2.2.1, bt750.2.2.2.1, bt750.2.2.2.2)))) = some (r1, r2, r3, r4, r5) := H
 have A3 := Aside0.mk A30
 clear A30
 replace H := Option.bind_eq_some_iff.mp H
 obtain ⟨⟨t750, t751, t752, t753, t754⟩, A40, H⟩ := H
 replace H : (if t753 = 0 then (if t750 = a1 then (some (false, wrap64 (t751 + 1), wrap64 (t752 - 1), t753, t754)) else (if t750 = 44 then ((rR_blank.f k s0_0 (wrap64 (t751 + 1)) t752 t753 t754).bind fun bt755 => (some (true, bt755.1, bt755.2.1, bt755.2.2.1, bt755.2.2.2))) else ((rR_fail.f s0_0 t751 t752 t753 t754 6 t751).bind fun bt759 => (some (false, bt759.1, bt759.2.1, bt759.2.2.1, bt759.2.2.2))))) else (some (false, t751, t752, t753, t754))) = some (r1, r2, r3, r4, r5) := H
 have A4 := Aside0.mk A40
 clear A40
 by_cases c5 : t753 = 0
 ·rw [if_pos c5] at H
  have c5b0 : (t753 == 0) = true := beq_iff_eq.mpr c5
  have c5b1 : (t753 != 0) = false := bne_eq_false_iff_eq.mpr c5
  clear c5
  by_cases c6 : t750 = a1
  ·rw [if_pos c6] at H
   have c6b0 : (t750 == a1) = true := beq_iff_eq.mpr c6
   have c6b1 : (t750 != a1) = false := bne_eq_false_iff_eq.mpr c6
   clear c6
   simp only [Option.some.injEq, Prod.mk.injEq] at H
   obtain ⟨rfl, rfl, rfl, rfl, rfl⟩ := H
   go_enter Tryd.func88, Tryd.ntmps88
   go_wp2_with (first | ((with_reducible refine gate_callee (f := 44) rfl ?_); refine goesL_ (some 7) rfl rfl Tryd.func44 (by kernel_rfl) rfl #[.pointer (some ⟨g, 0, none⟩)] rfl (by (try simp only [List.map_toArray, List.map_cons, List.map_nil]); first | done | rfl | (simp only [List.length_drop, List.length_take]; rfl)) ?_; (with_reducible refine (rR_blank.calls k g s0_0 s0_1 s0_2 s0_3 s0_4 t746 t747 t748 t749 w0 _ ?side1 ?side2 A3.out).mono ?_); (case side1 => repeat (first | (with_reducible first | exact HI0.out | apply IsS96.alloc | apply IsS96.drewN | apply IsS96.drew | apply IsS96.set_1 | apply IsS96.set_2 | apply IsS96.set_3 | apply IsS96.set_4) | exact HI0.out)); (case side2 => repeat (first | (with_reducible first | exact HB.out | apply bal | apply pbdN | apply bdr1 | refine below_set ?_ (IsS96.ge HI0.out)) | exact HB.out)); rintro e w7 ⟨rfl, hi, hb, hk⟩; refine ⟨_, rfl, ?_⟩; have n0_ := Aside0.mk (KeepBut.trans (by repeat (first | (with_reducible first | exact HK.out | apply KeepBut.set_ | apply kdrN | apply keep_drew | apply kal) | exact HK.out)) hk (.inl rfl)); have n1_ := Aside0.mk (hb); have n2_ := Aside0.mk (hi); clear HK; clear HB; clear HI0; have HK := n0_; have HB := n1_; have HI0 := n2_; clear n0_ n1_ n2_; (try clear hb); (try clear hb2); (try clear hk); (try clear hi)) | ((with_reducible refine gate_callee (f := 65) rfl ?_); refine goesL_ (some 9) rfl rfl Tryd.func65 (by kernel_rfl) rfl #[.pointer (some ⟨g, 0, none⟩)] rfl (by (try simp only [List.map_toArray, List.map_cons, List.map_nil]); first | done | rfl | (simp only [List.length_drop, List.length_take]; rfl)) ?_; (with_reducible refine (rR_peek.calls g s0_0 t746 t747 t748 t749 t750 t751 t752 t753 t754 w0 _ ?side1 ?side2 A4.out).mono ?_); (case side1 => repeat (first | (with_reducible first | exact HI0.out | apply IsS96.alloc | apply IsS96.drewN | apply IsS96.drew | apply IsS96.set_1 | apply IsS96.set_2 | apply IsS96.set_3 | apply IsS96.set_4) | exact HI0.out)); (case side2 => repeat (first | (with_reducible first | exact HB.out | apply bal | apply pbdN | apply bdr1 | refine below_set ?_ (IsS96.ge HI0.out)) | exact HB.out)); rintro e w8 ⟨rfl, hi, hb, hk⟩; refine ⟨_, rfl, ?_⟩; have n0_ := Aside0.mk (KeepBut.trans (by repeat (first | (with_reducible first | exact HK.out | apply KeepBut.set_ | apply kdrN | apply keep_drew | apply kal) | exact HK.out)) hk (.inl rfl)); have n1_ := Aside0.mk (hb); have n2_ := Aside0.mk (hi); clear HK; clear HB; clear HI0; have HK := n0_; have HB := n1_; have HI0 := n2_; clear n0_ n1_ n2_; (try clear hb); (try clear hb2); (try clear hk); (try clear hi); obtain ⟨ASz9_0, cSz9_0, HGz9, hgz9, HSz9_0⟩ := HI0.out; have hcz9_0 := cellS96_0 HGz9; have hcz9_1 := cellS96_1 HGz9; have hcz9_2 := cellS96_2 HGz9; have hcz9_3 := cellS96_3 HGz9; have hcz9_4 := cellS96_4 HGz9; have hfz9_1 := bfz HGz9 1; have hfz9_2 := bfz HGz9 2; have hfz9_3 := bfz HGz9 3; have hfz9_4 := bfz HGz9 4; clear HGz9 hgz9))
   go_ret
   exact ⟨by first | rfl | (simp [errW_none, errW_some] <;> rfl) | (simp [*, errW_none, errW_some] <;> rfl), by repeat (first | (with_reducible first | exact HI0.out | apply IsS96.alloc | apply IsS96.drewN | apply IsS96.drew | apply IsS96.set_1 | apply IsS96.set_2 | apply IsS96.set_3 | apply IsS96.set_4) | exact HI0.out), by repeat (first | (with_reducible first | exact HB.out | apply bal | apply pbdN | apply bdr1 | refine below_set ?_ (IsS96.ge HI0.out)) | exact HB.out), by repeat (first | (with_reducible first | exact HK.out | apply KeepBut.set_ | apply kdrN | apply keep_drew | apply kal) | exact HK.out)⟩
  ·rw [if_neg c6] at H
   have c6b0 : (t750 == a1) = false := beq_eq_false_iff_ne.mpr c6
   have c6b1 : (t750 != a1) = true := bne_iff_ne.mpr c6
   by_cases c10 : t750 = 44
   ·rw [if_pos c10] at H
    have c10b0 : (t750 == 44) = true := beq_iff_eq.mpr c10
    have c10b1 : (t750 != 44) = false := bne_eq_false_iff_eq.mpr c10
    clear c10
    replace H := Option.bind_eq_some_iff.mp H
    obtain ⟨⟨t755, t756, t757, t758⟩, A110, H⟩ := H
    replace H : (some (true, t755, t756, t757, t758)) = some (r1, r2, r3, r4, r5) := H
    have A11 := Aside0.mk A110
    clear A110
    simp only [Option.some.injEq, Prod.mk.injEq] at H
    obtain ⟨rfl, rfl, rfl, rfl, rfl⟩ := H
    go_enter Tryd.func88, Tryd.ntmps88
    go_wp2_with (first | ((with_reducible refine gate_callee (f := 44) rfl ?_); refine goesL_ (some 7) rfl rfl Tryd.func44 (by kernel_rfl) rfl #[.pointer (some ⟨g, 0, none⟩)] rfl (by (try simp only [List.map_toArray, List.map_cons, List.map_nil]); first | done | rfl | (simp only [List.length_drop, List.length_take]; rfl)) ?_; (with_reducible refine (rR_blank.calls k g s0_0 s0_1 s0_2 s0_3 s0_4 t746 t747 t748 t749 w0 _ ?side1 ?side2 A3.out).mono ?_); (case side1 => repeat (first | (with_reducible first | exact HI0.out | apply IsS96.alloc | apply IsS96.drewN | apply IsS96.drew | apply IsS96.set_1 | apply IsS96.set_2 | apply IsS96.set_3 | apply IsS96.set_4) | exact HI0.out)); (case side2 => repeat (first | (with_reducible first | exact HB.out | apply bal | apply pbdN | apply bdr1 | refine below_set ?_ (IsS96.ge HI0.out)) | exact HB.out)); rintro e w12 ⟨rfl, hi, hb, hk⟩; refine ⟨_, rfl, ?_⟩; have n0_ := Aside0.mk (KeepBut.trans (by repeat (first | (with_reducible first | exact HK.out | apply KeepBut.set_ | apply kdrN | apply keep_drew | apply kal) | exact HK.out)) hk (.inl rfl)); have n1_ := Aside0.mk (hb); have n2_ := Aside0.mk (hi); clear HK; clear HB; clear HI0; have HK := n0_; have HB := n1_; have HI0 := n2_; clear n0_ n1_ n2_; (try clear hb); (try clear hb2); (try clear hk); (try clear hi)) | ((with_reducible refine gate_callee (f := 65) rfl ?_); refine goesL_ (some 9) rfl rfl Tryd.func65 (by kernel_rfl) rfl #[.pointer (some ⟨g, 0, none⟩)] rfl (by (try simp only [List.map_toArray, List.map_cons, List.map_nil]); first | done | rfl | (simp only [List.length_drop, List.length_take]; rfl)) ?_; (with_reducible refine (rR_peek.calls g s0_0 t746 t747 t748 t749 t750 t751 t752 t753 t754 w0 _ ?side1 ?side2 A4.out).mono ?_); (case side1 => repeat (first | (with_reducible first | exact HI0.out | apply IsS96.alloc | apply IsS96.drewN | apply IsS96.drew | apply IsS96.set_1 | apply IsS96.set_2 | apply IsS96.set_3 | apply IsS96.set_4) | exact HI0.out)); (case side2 => repeat (first | (with_reducible first | exact HB.out | apply bal | apply pbdN | apply bdr1 | refine below_set ?_ (IsS96.ge HI0.out)) | exact HB.out)); rintro e w13 ⟨rfl, hi, hb, hk⟩; refine ⟨_, rfl, ?_⟩; have n0_ := Aside0.mk (KeepBut.trans (by repeat (first | (with_reducible first | exact HK.out | apply KeepBut.set_ | apply kdrN | apply keep_drew | apply kal) | exact HK.out)) hk (.inl rfl)); have n1_ := Aside0.mk (hb); have n2_ := Aside0.mk (hi); clear HK; clear HB; clear HI0; have HK := n0_; have HB := n1_; have HI0 := n2_; clear n0_ n1_ n2_; (try clear hb); (try clear hb2); (try clear hk); (try clear hi); obtain ⟨ASz14_0, cSz14_0, HGz14, hgz14, HSz14_0⟩ := HI0.out; have hcz14_0 := cellS96_0 HGz14; have hcz14_1 := cellS96_1 HGz14; have hcz14_2 := cellS96_2 HGz14; have hcz14_3 := cellS96_3 HGz14; have hcz14_4 := cellS96_4 HGz14; have hfz14_1 := bfz HGz14 1; have hfz14_2 := bfz HGz14 2; have hfz14_3 := bfz HGz14 3; have hfz14_4 := bfz HGz14 4; clear HGz14 hgz14) | ((with_reducible refine gate_callee (f := 44) rfl ?_); refine goesL_ (some 48) rfl rfl Tryd.func44 (by kernel_rfl) rfl #[.pointer (some ⟨g, 0, none⟩)] rfl (by (try simp only [List.map_toArray, List.map_cons, List.map_nil]); first | done | rfl | (simp only [List.length_drop, List.length_take]; rfl)) ?_; (with_reducible refine (rR_blank.calls k g s0_0 (wrap64 (t751 + 1)) t752 t753 t754 t755 t756 t757 t758 w0 _ ?side1 ?side2 A11.out).mono ?_); (case side1 => repeat (first | (with_reducible first | exact HI0.out | apply IsS96.alloc | apply IsS96.drewN | apply IsS96.drew | apply IsS96.set_1 | apply IsS96.set_2 | apply IsS96.set_3 | apply IsS96.set_4) | exact HI0.out)); (case side2 => repeat (first | (with_reducible first | exact HB.out | apply bal | apply pbdN | apply bdr1 | refine below_set ?_ (IsS96.ge HI0.out)) | exact HB.out)); rintro e w15 ⟨rfl, hi, hb, hk⟩; refine ⟨_, rfl, ?_⟩; have n0_ := Aside0.mk (KeepBut.trans (by repeat (first | (with_reducible first | exact HK.out | apply KeepBut.set_ | apply kdrN | apply keep_drew | apply kal) | exact HK.out)) hk (.inl rfl)); have n1_ := Aside0.mk (hb); have n2_ := Aside0.mk (hi); clear HK; clear HB; clear HI0; have HK := n0_; have HB := n1_; have HI0 := n2_; clear n0_ n1_ n2_; (try clear hb); (try clear hb2); (try clear hk); (try clear hi)))
    go_ret
    exact ⟨by first | rfl | (simp [errW_none, errW_some] <;> rfl) | (simp [*, errW_none, errW_some] <;> rfl), by repeat (first | (with_reducible first | exact HI0.out | apply IsS96.alloc | apply IsS96.drewN | apply IsS96.drew | apply IsS96.set_1 | apply IsS96.set_2 | apply IsS96.set_3 | apply IsS96.set_4) | exact HI0.out), by repeat (first | (with_reducible first | exact HB.out | apply bal | apply pbdN | apply bdr1 | refine below_set ?_ (IsS96.ge HI0.out)) | exact HB.out), by repeat (first | (with_reducible first | exact HK.out | apply KeepBut.set_ | apply kdrN | apply keep_drew | apply kal) | exact HK.out)⟩
   ·rw [if_neg c10] at H
    have c10b0 : (t750 == 44) = false := beq_eq_false_iff_ne.mpr c10
    have c10b1 : (t750 != 44) = true := bne_iff_ne.mpr c10
    replace H := Option.bind_eq_some_iff.mp H
    obtain ⟨⟨t759, t760, t761, t762⟩, A160, H⟩ := H
    replace H : (some (false, t759, t760, t761, t762)) = some (r1, r2, r3, r4, r5) := H
    have A16 := Aside0.mk A160
    clear A160
    simp only [Option.some.injEq, Prod.mk.injEq] at H
    obtain ⟨rfl, rfl, rfl, rfl, rfl⟩ := H
    go_enter Tryd.func88, Tryd.ntmps88
    go_wp2_with (first | ((with_reducible refine gate_callee (f := 44) rfl ?_); refine goesL_ (some 7) rfl rfl Tryd.func44 (by kernel_rfl) rfl #[.pointer (some ⟨g, 0, none⟩)] rfl (by (try simp only [List.map_toArray, List.map_cons, List.map_nil]); first | done | rfl | (simp only [List.length_drop, List.length_take]; rfl)) ?_; (with_reducible refine (rR_blank.calls k g s0_0 s0_1 s0_2 s0_3 s0_4 t746 t747 t748 t749 w0 _ ?side1 ?side2 A3.out).mono ?_); (case side1 => repeat (first | (with_reducible first | exact HI0.out | apply IsS96.alloc | apply IsS96.drewN | apply IsS96.drew | apply IsS96.set_1 | apply IsS96.set_2 | apply IsS96.set_3 | apply IsS96.set_4) | exact HI0.out)); (case side2 => repeat (first | (with_reducible first | exact HB.out | apply bal | apply pbdN | apply bdr1 | refine below_set ?_ (IsS96.ge HI0.out)) | exact HB.out)); rintro e w17 ⟨rfl, hi, hb, hk⟩; refine ⟨_, rfl, ?_⟩; have n0_ := Aside0.mk (KeepBut.trans (by repeat (first | (with_reducible first | exact HK.out | apply KeepBut.set_ | apply kdrN | apply keep_drew | apply kal) | exact HK.out)) hk (.inl rfl)); have n1_ := Aside0.mk (hb); have n2_ := Aside0.mk (hi); clear HK; clear HB; clear HI0; have HK := n0_; have HB := n1_; have HI0 := n2_; clear n0_ n1_ n2_; (try clear hb); (try clear hb2); (try clear hk); (try clear hi)) | ((with_reducible refine gate_callee (f := 65) rfl ?_); refine goesL_ (some 9) rfl rfl Tryd.func65 (by kernel_rfl) rfl #[.pointer (some ⟨g, 0, none⟩)] rfl (by (try simp only [List.map_toArray, List.map_cons, List.map_nil]); first | done | rfl | (simp only [List.length_drop, List.length_take]; rfl)) ?_; (with_reducible refine (rR_peek.calls g s0_0 t746 t747 t748 t749 t750 t751 t752 t753 t754 w0 _ ?side1 ?side2 A4.out).mono ?_); (case side1 => repeat (first | (with_reducible first | exact HI0.out | apply IsS96.alloc | apply IsS96.drewN | apply IsS96.drew | apply IsS96.set_1 | apply IsS96.set_2 | apply IsS96.set_3 | apply IsS96.set_4) | exact HI0.out)); (case side2 => repeat (first | (with_reducible first | exact HB.out | apply bal | apply pbdN | apply bdr1 | refine below_set ?_ (IsS96.ge HI0.out)) | exact HB.out)); rintro e w18 ⟨rfl, hi, hb, hk⟩; refine ⟨_, rfl, ?_⟩; have n0_ := Aside0.mk (KeepBut.trans (by repeat (first | (with_reducible first | exact HK.out | apply KeepBut.set_ | apply kdrN | apply keep_drew | apply kal) | exact HK.out)) hk (.inl rfl)); have n1_ := Aside0.mk (hb); have n2_ := Aside0.mk (hi); clear HK; clear HB; clear HI0; have HK := n0_; have HB := n1_; have HI0 := n2_; clear n0_ n1_ n2_; (try clear hb); (try clear hb2); (try clear hk); (try clear hi); obtain ⟨ASz19_0, cSz19_0, HGz19, hgz19, HSz19_0⟩ := HI0.out; have hcz19_0 := cellS96_0 HGz19; have hcz19_1 := cellS96_1 HGz19; have hcz19_2 := cellS96_2 HGz19; have hcz19_3 := cellS96_3 HGz19; have hcz19_4 := cellS96_4 HGz19; have hfz19_1 := bfz HGz19 1; have hfz19_2 := bfz HGz19 2; have hfz19_3 := bfz HGz19 3; have hfz19_4 := bfz HGz19 4; clear HGz19 hgz19) | ((with_reducible refine gate_callee (f := 46) rfl ?_); refine goesL_ (some 39) rfl rfl Tryd.func46 (by kernel_rfl) rfl #[.pointer (some ⟨g, 0, none⟩), .int .i64 6, .int .i64 t751] rfl (by (try simp only [List.map_toArray, List.map_cons, List.map_nil]); first | done | rfl | (simp only [List.length_drop, List.length_take]; rfl)) ?_; (with_reducible refine (rR_fail.calls g s0_0 t751 t752 t753 t754 6 t751 t759 t760 t761 t762 w0 _ ?side1 ?side2 A16.out).mono ?_); (case side1 => repeat (first | (with_reducible first | exact HI0.out | apply IsS96.alloc | apply IsS96.drewN | apply IsS96.drew | apply IsS96.set_1 | apply IsS96.set_2 | apply IsS96.set_3 | apply IsS96.set_4) | exact HI0.out)); (case side2 => repeat (first | (with_reducible first | exact HB.out | apply bal | apply pbdN | apply bdr1 | refine below_set ?_ (IsS96.ge HI0.out)) | exact HB.out)); rintro e w20 ⟨rfl, hi, hb, hk⟩; refine ⟨_, rfl, ?_⟩; have n0_ := Aside0.mk (KeepBut.trans (by repeat (first | (with_reducible first | exact HK.out | apply KeepBut.set_ | apply kdrN | apply keep_drew | apply kal) | exact HK.out)) hk (.inl rfl)); have n1_ := Aside0.mk (hb); have n2_ := Aside0.mk (hi); clear HK; clear HB; clear HI0; have HK := n0_; have HB := n1_; have HI0 := n2_; clear n0_ n1_ n2_; (try clear hb); (try clear hb2); (try clear hk); (try clear hi)))
    go_ret
    exact ⟨by first | rfl | (simp [errW_none, errW_some] <;> rfl) | (simp [*, errW_none, errW_some] <;> rfl), by repeat (first | (with_reducible first | exact HI0.out | apply IsS96.alloc | apply IsS96.drewN | apply IsS96.drew | apply IsS96.set_1 | apply IsS96.set_2 | apply IsS96.set_3 | apply IsS96.set_4) | exact HI0.out), by repeat (first | (with_reducible first | exact HB.out | apply bal | apply pbdN | apply bdr1 | refine below_set ?_ (IsS96.ge HI0.out)) | exact HB.out), by repeat (first | (with_reducible first | exact HK.out | apply KeepBut.set_ | apply kdrN | apply keep_drew | apply kal) | exact HK.out)⟩
 ·rw [if_neg c5] at H
  have c5b0 : (t753 == 0) = false := beq_eq_false_iff_ne.mpr c5
  have c5b1 : (t753 != 0) = true := bne_iff_ne.mpr c5
  simp only [Option.some.injEq, Prod.mk.injEq] at H
  obtain ⟨rfl, rfl, rfl, rfl, rfl⟩ := H
  go_enter Tryd.func88, Tryd.ntmps88
  go_wp2_with (first | ((with_reducible refine gate_callee (f := 44) rfl ?_); refine goesL_ (some 7) rfl rfl Tryd.func44 (by kernel_rfl) rfl #[.pointer (some ⟨g, 0, none⟩)] rfl (by (try simp only [List.map_toArray, List.map_cons, List.map_nil]); first | done | rfl | (simp only [List.length_drop, List.length_take]; rfl)) ?_; (with_reducible refine (rR_blank.calls k g s0_0 s0_1 s0_2 s0_3 s0_4 t746 t747 t748 t749 w0 _ ?side1 ?side2 A3.out).mono ?_); (case side1 => repeat (first | (with_reducible first | exact HI0.out | apply IsS96.alloc | apply IsS96.drewN | apply IsS96.drew | apply IsS96.set_1 | apply IsS96.set_2 | apply IsS96.set_3 | apply IsS96.set_4) | exact HI0.out)); (case side2 => repeat (first | (with_reducible first | exact HB.out | apply bal | apply pbdN | apply bdr1 | refine below_set ?_ (IsS96.ge HI0.out)) | exact HB.out)); rintro e w21 ⟨rfl, hi, hb, hk⟩; refine ⟨_, rfl, ?_⟩; have n0_ := Aside0.mk (KeepBut.trans (by repeat (first | (with_reducible first | exact HK.out | apply KeepBut.set_ | apply kdrN | apply keep_drew | apply kal) | exact HK.out)) hk (.inl rfl)); have n1_ := Aside0.mk (hb); have n2_ := Aside0.mk (hi); clear HK; clear HB; clear HI0; have HK := n0_; have HB := n1_; have HI0 := n2_; clear n0_ n1_ n2_; (try clear hb); (try clear hb2); (try clear hk); (try clear hi)) | ((with_reducible refine gate_callee (f := 65) rfl ?_); refine goesL_ (some 9) rfl rfl Tryd.func65 (by kernel_rfl) rfl #[.pointer (some ⟨g, 0, none⟩)] rfl (by (try simp only [List.map_toArray, List.map_cons, List.map_nil]); first | done | rfl | (simp only [List.length_drop, List.length_take]; rfl)) ?_; (with_reducible refine (rR_peek.calls g s0_0 t746 t747 t748 t749 t750 t751 t752 t753 t754 w0 _ ?side1 ?side2 A4.out).mono ?_); (case side1 => repeat (first | (with_reducible first | exact HI0.out | apply IsS96.alloc | apply IsS96.drewN | apply IsS96.drew | apply IsS96.set_1 | apply IsS96.set_2 | apply IsS96.set_3 | apply IsS96.set_4) | exact HI0.out)); (case side2 => repeat (first | (with_reducible first | exact HB.out | apply bal | apply pbdN | apply bdr1 | refine below_set ?_ (IsS96.ge HI0.out)) | exact HB.out)); rintro e w22 ⟨rfl, hi, hb, hk⟩; refine ⟨_, rfl, ?_⟩; have n0_ := Aside0.mk (KeepBut.trans (by repeat (first | (with_reducible first | exact HK.out | apply KeepBut.set_ | apply kdrN | apply keep_drew | apply kal) | exact HK.out)) hk (.inl rfl)); have n1_ := Aside0.mk (hb); have n2_ := Aside0.mk (hi); clear HK; clear HB; clear HI0; have HK := n0_; have HB := n1_; have HI0 := n2_; clear n0_ n1_ n2_; (try clear hb); (try clear hb2); (try clear hk); (try clear hi); obtain ⟨ASz23_0, cSz23_0, HGz23, hgz23, HSz23_0⟩ := HI0.out; have hcz23_0 := cellS96_0 HGz23; have hcz23_1 := cellS96_1 HGz23; have hcz23_2 := cellS96_2 HGz23; have hcz23_3 := cellS96_3 HGz23; have hcz23_4 := cellS96_4 HGz23; have hfz23_1 := bfz HGz23 1; have hfz23_2 := bfz HGz23 2; have hfz23_3 := bfz HGz23 3; have hfz23_4 := bfz HGz23 4; clear HGz23 hgz23))
  go_ret
  exact ⟨by first | rfl | (simp [errW_none, errW_some] <;> rfl) | (simp [*, errW_none, errW_some] <;> rfl), by repeat (first | (with_reducible first | exact HI0.out | apply IsS96.alloc | apply IsS96.drewN | apply IsS96.drew | apply IsS96.set_1 | apply IsS96.set_2 | apply IsS96.set_3 | apply IsS96.set_4) | exact HI0.out), by repeat (first | (with_reducible first | exact HB.out | apply bal | apply pbdN | apply bdr1 | refine below_set ?_ (IsS96.ge HI0.out)) | exact HB.out), by repeat (first | (with_reducible first | exact HK.out | apply KeepBut.set_ | apply kdrN | apply keep_drew | apply kal) | exact HK.out)⟩
end Go.Proofs.YteighppcdpaekaaDoor.P
end
section
namespace Go.Proofs.YteighppcdpaekaaDoor.P
open Go.RowKit Go.Proofs.YteighppcdpaekaaDoorW.PrintWords Go.Proofs.YteighppcdpaekaaDoorW.PrintLast Go.Proofs.YteighppcdpaekaaDoorW.PrintMore
attribute [local go_sem] max2_int min2_int max_two min_two max_three min_three max_four min_four
set_option linter.unusedVariables false
set_option linter.unusedSimpArgs false
def rR_must.j0 : Nat → Bool → List Int → Int → Int → Int → Int → Option (Int × Int × Int × Int)
 | 0, _, _, _, _, _, _ => none
 | k + 1, x16, x1000, x1001, x1002, x1003, x1004 => if x16 = true then ((rR_fail.f x1000 x1001 x1002 x1003 x1004 6 x1001).bind fun bt567 => (if bt567.2.2.1 = 0 then (some (wrap64 (bt567.1 + 1), bt567.2.1, bt567.2.2.1, bt567.2.2.2)) else (some (bt567.1, bt567.2.1, bt567.2.2.1, bt567.2.2.2)))) else (if x1003 = 0 then (some (wrap64 (x1001 + 1), x1002, x1003, x1004)) else (some (x1001, x1002, x1003, x1004)))
def rR_must.f (k : Nat) (s0_0 : List Int) (s0_1 : Int) (s0_2 : Int) (s0_3 : Int) (s0_4 : Int) (a1 : Int) : Option (Int × Int × Int × Int) := (rR_peek.f s0_0 s0_1 s0_2 s0_3 s0_4).bind fun bt562 => (if bt562.2.2.2.1 = 0 then (rR_must.j0 k (bt562.1 != a1) s0_0 bt562.2.1 bt562.2.2.1 bt562.2.2.2.1 bt562.2.2.2.2) else (rR_must.j0 k false s0_0 bt562.2.1 bt562.2.2.1 bt562.2.2.2.1 bt562.2.2.2.2))
set_option maxHeartbeats 8000000 in
set_option maxRecDepth 100000 in
theorem rR_must.calls (k : Nat) (g : Nat) (s0_0 : List Int) (s0_1 : Int) (s0_2 : Int) (s0_3 : Int) (s0_4 : Int) (a1 : Int) (r1 : Int) (r2 : Int) (r3 : Int) (r4 : Int) (w0 w : World) (hI : IsS96 w0 w g s0_0 s0_1 s0_2 s0_3 s0_4) (hB : Below w0.heap.size w0 w) (h : rR_must.f k s0_0 s0_1 s0_2 s0_3 s0_4 a1 = some (r1, r2, r3, r4)) :
  Calls Tryd.prog 87 #[.pointer (some ⟨g, 0, none⟩), .int .i64 a1] w fun e w' => e = .returned (.tuple #[]) ∧ IsS96 w0 w' g s0_0 r1 r2 r3 r4 ∧ Below w0.heap.size w0 w' ∧ KeepBut w w' g none := by
 have HI0 := Aside0.mk hI
 have HK := Aside0.mk (KeepBut.refl w g none)
 have HL := Aside0.mk hB.size
 clear hI
 have HW0 := Aside0.mk hB.size
 have HB := Aside0.mk hB
 clear hB
 have H : ((rR_peek.f s0_0 s0_1 s0_2 s0_3 s0_4).bind fun bt562 => (if bt562.2.2.2.1 = 0 then (rR_must.j0 k (bt562.1 != a1) s0_0 bt562.2.1 bt562.2.2.1 bt562.2.2.2.1 bt562.2.2.2.2) else (rR_must.j0 k false s0_0 bt562.2.1 bt562.2.2.1 bt562.2.2.2.1 bt562.2.2.2.2))) = some (r1, r2, r3, r4) := h
 clear h
 replace H := Option.bind_eq_some_iff.mp H
 obtain ⟨⟨t562, t563, t564, t565, t566⟩, A30, H⟩ := H
 replace H : (if t565 = 0 then (rR_must.j0 k (t562 != a1) s0_0 t563 t564 t565 t566) else (rR_must.j0 k false s0_0 t563 t564 t565 t566)) = some (r1, r2, r3, r4) := H
 have A3 := Aside0.mk A30
 clear A30
 have HC4 := Aside0.mk H
 clear H
 go_enter Tryd.func87, Tryd.ntmps87
 go_upto_region 1 with (first | ((with_reducible refine gate_callee (f := 65) rfl ?_); refine goesL_ (some 6) rfl rfl Tryd.func65 (by kernel_rfl) rfl #[.pointer (some ⟨g, 0, none⟩)] rfl (by (try simp only [List.map_toArray, List.map_cons, List.map_nil]); first | done | rfl | (simp only [List.length_drop, List.length_take]; rfl)) ?_; (with_reducible refine (rR_peek.calls g s0_0 s0_1 s0_2 s0_3 s0_4 t562 t563 t564 t565 t566 w0 _ ?side1 ?side2 A3.out).mono ?_); (case side1 => repeat (first | (with_reducible first | exact HI0.out | apply IsS96.alloc | apply IsS96.drewN | apply IsS96.drew | apply IsS96.set_1 | apply IsS96.set_2 | apply IsS96.set_3 | apply IsS96.set_4) | exact HI0.out)); (case side2 => repeat (first | (with_reducible first | exact HB.out | apply bal | apply pbdN | apply bdr1 | refine below_set ?_ (IsS96.ge HI0.out)) | exact HB.out)); rintro e w5 ⟨rfl, hi, hb, hk⟩; refine ⟨_, rfl, ?_⟩; have n0_ := Aside0.mk (KeepBut.trans (by repeat (first | (with_reducible first | exact HK.out | apply KeepBut.set_ | apply kdrN | apply keep_drew | apply kal) | exact HK.out)) hk (.inl rfl)); have n1_ := Aside0.mk (hb); have n2_ := Aside0.mk (hi); clear HK; clear HB; clear HI0; have HK := n0_; have HB := n1_; have HI0 := n2_; clear n0_ n1_ n2_; (try clear hb); (try clear hb2); (try clear hk); (try clear hi)))
 (try simp only [Act.put, List.setIfInBounds_toArray, List.set_cons_zero, List.set_cons_succ])
 go_cut [16] (fun v16 wc => ∃ (kq : Nat) (x16_3 : Bool), v16 = .bool x16_3 ∧ Aside0 (rR_must.j0 kq x16_3 s0_0 t563 t564 t565 t566 = some (r1, r2, r3, r4)) ∧ Aside0 (kq ≤ k) ∧ Aside0 (IsS96 w0 wc g s0_0 t563 t564 t565 t566) ∧ Aside0 (KeepBut w wc g none) ∧ Aside0 (Below w0.heap.size w0 wc))
 case first =>
  have H := HC4.out
  clear HC4
  by_cases c6 : t565 = 0
  ·rw [if_pos c6] at H
   have c6b0 : (t565 == 0) = true := beq_iff_eq.mpr c6
   have c6b1 : (t565 != 0) = false := bne_eq_false_iff_eq.mpr c6
   clear c6
   (first | rw [c6b0] | (simp only [i64_w, i32_w]; rw [c6b0]) | skip)
   have H' := Aside0.mk H
   clear H
   obtain ⟨ASz7_0, cSz7_0, HGz7, hgz7, HSz7_0⟩ := HI0.out
   have hcz7_0 := cellS96_0 HGz7
   have hcz7_1 := cellS96_1 HGz7
   have hcz7_2 := cellS96_2 HGz7
   have hcz7_3 := cellS96_3 HGz7
   have hcz7_4 := cellS96_4 HGz7
   have hfz7_1 := bfz HGz7 1
   have hfz7_2 := bfz HGz7 2
   have hfz7_3 := bfz HGz7 3
   have hfz7_4 := bfz HGz7 4
   clear HGz7 hgz7
   go_wp2
   go_meet
   case rel => exact ⟨_, ((t562 != a1)), (by first | rfl | (simp; done) | (simp [*]; done)), H', ⟨by first | omega | exact Nat.le_refl _⟩, ⟨by repeat (first | (with_reducible first | exact HI0.out | apply IsS96.alloc | apply IsS96.drewN | apply IsS96.drew | apply IsS96.set_1 | apply IsS96.set_2 | apply IsS96.set_3 | apply IsS96.set_4) | exact HI0.out)⟩, ⟨by repeat (first | (with_reducible first | exact HK.out | apply KeepBut.set_ | apply kdrN | apply keep_drew | apply kal) | exact HK.out)⟩, ⟨by repeat (first | (with_reducible first | exact HB.out | apply bal | apply pbdN | apply bdr1 | refine below_set ?_ (IsS96.ge HI0.out)) | exact HB.out)⟩⟩
  ·rw [if_neg c6] at H
   have c6b0 : (t565 == 0) = false := beq_eq_false_iff_ne.mpr c6
   have c6b1 : (t565 != 0) = true := bne_iff_ne.mpr c6
   (first | rw [c6b0] | (simp only [i64_w, i32_w]; rw [c6b0]) | skip)
   have H' := Aside0.mk H
   clear H
   obtain ⟨ASz8_0, cSz8_0, HGz8, hgz8, HSz8_0⟩ := HI0.out
   have hcz8_0 := cellS96_0 HGz8
   have hcz8_1 := cellS96_1 HGz8
   have hcz8_2 := cellS96_2 HGz8
   have hcz8_3 := cellS96_3 HGz8
   have hcz8_4 := cellS96_4 HGz8
   have hfz8_1 := bfz HGz8 1
   have hfz8_2 := bfz HGz8 2
   have hfz8_3 := bfz HGz8 3
   have hfz8_4 := bfz HGz8 4
   clear HGz8 hgz8
   go_wp2
   go_meet
   case rel => exact ⟨_, (false), (by first | rfl | (simp; done) | (simp [*]; done)), H', ⟨by first | omega | exact Nat.le_refl _⟩, ⟨by repeat (first | (with_reducible first | exact HI0.out | apply IsS96.alloc | apply IsS96.drewN | apply IsS96.drew | apply IsS96.set_1 | apply IsS96.set_2 | apply IsS96.set_3 | apply IsS96.set_4) | exact HI0.out)⟩, ⟨by repeat (first | (with_reducible first | exact HK.out | apply KeepBut.set_ | apply kdrN | apply keep_drew | apply kal) | exact HK.out)⟩, ⟨by repeat (first | (with_reducible first | exact HB.out | apply bal | apply pbdN | apply bdr1 | refine below_set ?_ (IsS96.ge HI0.out)) | exact HB.out)⟩⟩
 case rest =>
  clear HC4
  try clear p2; try clear c6; try clear c6b0; try clear c6b1; try clear c8; try clear hcz7_0; try clear hcz7_1; try clear hcz7_2; try clear hcz7_3; try clear hcz7_4; try clear hcz8_0; try clear hcz8_1; try clear hcz8_2; try clear hcz8_3; try clear hcz8_4; try clear hfz7_1; try clear hfz7_2; try clear hfz7_3; try clear hfz7_4; try clear hfz8_1; try clear hfz8_2; try clear hfz8_3; try clear hfz8_4
  obtain ⟨kq, x16_3, rfl, HA, HJ3, HI0, HK, HB⟩ := hcut
  cases kq with
  | zero => exact absurd HA.out (by simp [rR_must.j0])
  | succ kj3 =>
   have H := HA.out
   clear HA
   simp only [rR_must.j0] at H
   by_cases c9 : x16_3 = true
   ·subst c9
    have H1 : ((rR_fail.f s0_0 t563 t564 t565 t566 6 t563).bind fun bt567 => (if bt567.2.2.1 = 0 then (some (wrap64 (bt567.1 + 1), bt567.2.1, bt567.2.2.1, bt567.2.2.2)) else (some (bt567.1, bt567.2.1, bt567.2.2.1, bt567.2.2.2)))) = some (r1, r2, r3, r4) := by rw [if_pos rfl] at H; exact H
    clear H
    have H := H1
    clear H1
    replace H := Option.bind_eq_some_iff.mp H
    obtain ⟨⟨t567, t568, t569, t570⟩, A100, H⟩ := H
    replace H : (if t569 = 0 then (some (wrap64 (t567 + 1), t568, t569, t570)) else (some (t567, t568, t569, t570))) = some (r1, r2, r3, r4) := H
    have A10 := Aside0.mk A100
    clear A100
    by_cases c11 : t569 = 0
    ·rw [if_pos c11] at H
     have c11b0 : (t569 == 0) = true := beq_iff_eq.mpr c11
     have c11b1 : (t569 != 0) = false := bne_eq_false_iff_eq.mpr c11
     clear c11
     simp only [Option.some.injEq, Prod.mk.injEq] at H
     obtain ⟨rfl, rfl, rfl, rfl⟩ := H
     obtain ⟨ASz12_0, cSz12_0, HGz12, hgz12, HSz12_0⟩ := HI0.out
     have hcz12_0 := cellS96_0 HGz12
     have hcz12_1 := cellS96_1 HGz12
     have hcz12_2 := cellS96_2 HGz12
     have hcz12_3 := cellS96_3 HGz12
     have hcz12_4 := cellS96_4 HGz12
     have hfz12_1 := bfz HGz12 1
     have hfz12_2 := bfz HGz12 2
     have hfz12_3 := bfz HGz12 3
     have hfz12_4 := bfz HGz12 4
     clear HGz12 hgz12
     go_wp2_with (first | ((with_reducible refine gate_callee (f := 46) rfl ?_); refine goesL_ (some 22) rfl rfl Tryd.func46 (by kernel_rfl) rfl #[.pointer (some ⟨g, 0, none⟩), .int .i64 6, .int .i64 t563] rfl (by (try simp only [List.map_toArray, List.map_cons, List.map_nil]); first | done | rfl | (simp only [List.length_drop, List.length_take]; rfl)) ?_; (with_reducible refine (rR_fail.calls g s0_0 t563 t564 t565 t566 6 t563 t567 t568 t569 t570 w0 _ ?side1 ?side2 A10.out).mono ?_); (case side1 => repeat (first | (with_reducible first | exact HI0.out | apply IsS96.alloc | apply IsS96.drewN | apply IsS96.drew | apply IsS96.set_1 | apply IsS96.set_2 | apply IsS96.set_3 | apply IsS96.set_4) | exact HI0.out)); (case side2 => repeat (first | (with_reducible first | exact HB.out | apply bal | apply pbdN | apply bdr1 | refine below_set ?_ (IsS96.ge HI0.out)) | exact HB.out)); rintro e w13 ⟨rfl, hi, hb, hk⟩; refine ⟨_, rfl, ?_⟩; have n0_ := Aside0.mk (KeepBut.trans (by repeat (first | (with_reducible first | exact HK.out | apply KeepBut.set_ | apply kdrN | apply keep_drew | apply kal) | exact HK.out)) hk (.inl rfl)); have n1_ := Aside0.mk (hb); have n2_ := Aside0.mk (hi); clear HK; clear HB; clear HI0; have HK := n0_; have HB := n1_; have HI0 := n2_; clear n0_ n1_ n2_; (try clear hb); (try clear hb2); (try clear hk); (try clear hi); obtain ⟨ASz14_0, cSz14_0, HGz14, hgz14, HSz14_0⟩ := HI0.out; have hcz14_0 := cellS96_0 HGz14; have hcz14_1 := cellS96_1 HGz14; have hcz14_2 := cellS96_2 HGz14; have hcz14_3 := cellS96_3 HGz14; have hcz14_4 := cellS96_4 HGz14; have hfz14_1 := bfz HGz14 1; have hfz14_2 := bfz HGz14 2; have hfz14_3 := bfz HGz14 3; have hfz14_4 := bfz HGz14 4; clear HGz14 hgz14))
     first | go_end0 | ((try simp only [Exit.inBlock, Exit.then]); refine bodyPost_ret (results_none rfl _ _ _) rfl ?_)
     exact ⟨by first | rfl | (simp [errW_none, errW_some] <;> rfl) | (simp [*, errW_none, errW_some] <;> rfl), by repeat (first | (with_reducible first | exact HI0.out | apply IsS96.alloc | apply IsS96.drewN | apply IsS96.drew | apply IsS96.set_1 | apply IsS96.set_2 | apply IsS96.set_3 | apply IsS96.set_4) | exact HI0.out), by repeat (first | (with_reducible first | exact HB.out | apply bal | apply pbdN | apply bdr1 | refine below_set ?_ (IsS96.ge HI0.out)) | exact HB.out), by repeat (first | (with_reducible first | exact HK.out | apply KeepBut.set_ | apply kdrN | apply keep_drew | apply kal) | exact HK.out)⟩
    ·rw [if_neg c11] at H
     have c11b0 : (t569 == 0) = false := beq_eq_false_iff_ne.mpr c11
     have c11b1 : (t569 != 0) = true := bne_iff_ne.mpr c11
     simp only [Option.some.injEq, Prod.mk.injEq] at H
     obtain ⟨rfl, rfl, rfl, rfl⟩ := H
     obtain ⟨ASz15_0, cSz15_0, HGz15, hgz15, HSz15_0⟩ := HI0.out
     have hcz15_0 := cellS96_0 HGz15
     have hcz15_1 := cellS96_1 HGz15
     have hcz15_2 := cellS96_2 HGz15
     have hcz15_3 := cellS96_3 HGz15
     have hcz15_4 := cellS96_4 HGz15
     have hfz15_1 := bfz HGz15 1
     have hfz15_2 := bfz HGz15 2
     have hfz15_3 := bfz HGz15 3
     have hfz15_4 := bfz HGz15 4
     clear HGz15 hgz15
     go_wp2_with (first | ((with_reducible refine gate_callee (f := 46) rfl ?_); refine goesL_ (some 22) rfl rfl Tryd.func46 (by kernel_rfl) rfl #[.pointer (some ⟨g, 0, none⟩), .int .i64 6, .int .i64 t563] rfl (by (try simp only [List.map_toArray, List.map_cons, List.map_nil]); first | done | rfl | (simp only [List.length_drop, List.length_take]; rfl)) ?_; (with_reducible refine (rR_fail.calls g s0_0 t563 t564 t565 t566 6 t563 t567 t568 t569 t570 w0 _ ?side1 ?side2 A10.out).mono ?_); (case side1 => repeat (first | (with_reducible first | exact HI0.out | apply IsS96.alloc | apply IsS96.drewN | apply IsS96.drew | apply IsS96.set_1 | apply IsS96.set_2 | apply IsS96.set_3 | apply IsS96.set_4) | exact HI0.out)); (case side2 => repeat (first | (with_reducible first | exact HB.out | apply bal | apply pbdN | apply bdr1 | refine below_set ?_ (IsS96.ge HI0.out)) | exact HB.out)); rintro e w16 ⟨rfl, hi, hb, hk⟩; refine ⟨_, rfl, ?_⟩; have n0_ := Aside0.mk (KeepBut.trans (by repeat (first | (with_reducible first | exact HK.out | apply KeepBut.set_ | apply kdrN | apply keep_drew | apply kal) | exact HK.out)) hk (.inl rfl)); have n1_ := Aside0.mk (hb); have n2_ := Aside0.mk (hi); clear HK; clear HB; clear HI0; have HK := n0_; have HB := n1_; have HI0 := n2_; clear n0_ n1_ n2_; (try clear hb); (try clear hb2); (try clear hk); (try clear hi); obtain ⟨ASz17_0, cSz17_0, HGz17, hgz17, HSz17_0⟩ := HI0.out; have hcz17_0 := cellS96_0 HGz17; have hcz17_1 := cellS96_1 HGz17; have hcz17_2 := cellS96_2 HGz17; have hcz17_3 := cellS96_3 HGz17; have hcz17_4 := cellS96_4 HGz17; have hfz17_1 := bfz HGz17 1; have hfz17_2 := bfz HGz17 2; have hfz17_3 := bfz HGz17 3; have hfz17_4 := bfz HGz17 4; clear HGz17 hgz17))
     first | go_end0 | ((try simp only [Exit.inBlock, Exit.then]); refine bodyPost_ret (results_none rfl _ _ _) rfl ?_)
     exact ⟨by first | rfl | (simp [errW_none, errW_some] <;> rfl) | (simp [*, errW_none, errW_some] <;> rfl), by repeat (first | (with_reducible first | exact HI0.out | apply IsS96.alloc | apply IsS96.drewN | apply IsS96.drew | apply IsS96.set_1 | apply IsS96.set_2 | apply IsS96.set_3 | apply IsS96.set_4) | exact HI0.out), by repeat (first | (with_reducible first | exact HB.out | apply bal | apply pbdN | apply bdr1 | refine below_set ?_ (IsS96.ge HI0.out)) | exact HB.out), by repeat (first | (with_reducible first | exact HK.out | apply KeepBut.set_ | apply kdrN | apply keep_drew | apply kal) | exact HK.out)⟩
   ·replace c9 := Bool.eq_false_iff.mpr c9
    subst c9
    have H1 : (if t565 = 0 then (some (wrap64 (t563 + 1), t564, t565, t566)) else (some (t563, t564, t565, t566))) = some (r1, r2, r3, r4) := by rw [if_neg (show ¬ (false = true) by decide)] at H; exact H
    clear H
    have H := H1
    clear H1
    by_cases c18 : t565 = 0
    ·rw [if_pos c18] at H
     have c18b0 : (t565 == 0) = true := beq_iff_eq.mpr c18
     have c18b1 : (t565 != 0) = false := bne_eq_false_iff_eq.mpr c18
     clear c18
     simp only [Option.some.injEq, Prod.mk.injEq] at H
     obtain ⟨rfl, rfl, rfl, rfl⟩ := H
     obtain ⟨ASz19_0, cSz19_0, HGz19, hgz19, HSz19_0⟩ := HI0.out
     have hcz19_0 := cellS96_0 HGz19
     have hcz19_1 := cellS96_1 HGz19
     have hcz19_2 := cellS96_2 HGz19
     have hcz19_3 := cellS96_3 HGz19
     have hcz19_4 := cellS96_4 HGz19
     have hfz19_1 := bfz HGz19 1
     have hfz19_2 := bfz HGz19 2
     have hfz19_3 := bfz HGz19 3
     have hfz19_4 := bfz HGz19 4
     clear HGz19 hgz19
     go_wp2
     first | go_end0 | ((try simp only [Exit.inBlock, Exit.then]); refine bodyPost_ret (results_none rfl _ _ _) rfl ?_)
     exact ⟨by first | rfl | (simp [errW_none, errW_some] <;> rfl) | (simp [*, errW_none, errW_some] <;> rfl), by repeat (first | (with_reducible first | exact HI0.out | apply IsS96.alloc | apply IsS96.drewN | apply IsS96.drew | apply IsS96.set_1 | apply IsS96.set_2 | apply IsS96.set_3 | apply IsS96.set_4) | exact HI0.out), by repeat (first | (with_reducible first | exact HB.out | apply bal | apply pbdN | apply bdr1 | refine below_set ?_ (IsS96.ge HI0.out)) | exact HB.out), by repeat (first | (with_reducible first | exact HK.out | apply KeepBut.set_ | apply kdrN | apply keep_drew | apply kal) | exact HK.out)⟩
    ·rw [if_neg c18] at H
     have c18b0 : (t565 == 0) = false := beq_eq_false_iff_ne.mpr c18
     have c18b1 : (t565 != 0) = true := bne_iff_ne.mpr c18
     simp only [Option.some.injEq, Prod.mk.injEq] at H
     obtain ⟨rfl, rfl, rfl, rfl⟩ := H
     obtain ⟨ASz20_0, cSz20_0, HGz20, hgz20, HSz20_0⟩ := HI0.out
     have hcz20_0 := cellS96_0 HGz20
     have hcz20_1 := cellS96_1 HGz20
     have hcz20_2 := cellS96_2 HGz20
     have hcz20_3 := cellS96_3 HGz20
     have hcz20_4 := cellS96_4 HGz20
     have hfz20_1 := bfz HGz20 1
     have hfz20_2 := bfz HGz20 2
     have hfz20_3 := bfz HGz20 3
     have hfz20_4 := bfz HGz20 4
     clear HGz20 hgz20
     go_wp2
     first | go_end0 | ((try simp only [Exit.inBlock, Exit.then]); refine bodyPost_ret (results_none rfl _ _ _) rfl ?_)
     exact ⟨by first | rfl | (simp [errW_none, errW_some] <;> rfl) | (simp [*, errW_none, errW_some] <;> rfl), by repeat (first | (with_reducible first | exact HI0.out | apply IsS96.alloc | apply IsS96.drewN | apply IsS96.drew | apply IsS96.set_1 | apply IsS96.set_2 | apply IsS96.set_3 | apply IsS96.set_4) | exact HI0.out), by repeat (first | (with_reducible first | exact HB.out | apply bal | apply pbdN | apply bdr1 | refine below_set ?_ (IsS96.ge HI0.out)) | exact HB.out), by repeat (first | (with_reducible first | exact HK.out | apply KeepBut.set_ | apply kdrN | apply keep_drew | apply kal) | exact HK.out)⟩
end Go.Proofs.YteighppcdpaekaaDoor.P
end
section
namespace Go.Proofs.YteighppcdpaekaaDoor.P
open Go.RowKit Go.Proofs.YteighppcdpaekaaDoorW.PrintWords Go.Proofs.YteighppcdpaekaaDoorW.PrintLast Go.Proofs.YteighppcdpaekaaDoorW.PrintMore
attribute [local go_sem] max2_int min2_int max_two min_two max_three min_three max_four min_four
set_option linter.unusedVariables false
set_option linter.unusedSimpArgs false
mutual
def rR_hex.l0 : Nat → Int → Int → List Int → Int → Int → Int → Int → Option (Int × Int × Int × Int × Int)
 | 0, _, _, _, _, _, _, _ => none
 | k + 1, x3, x4, x1000, x1001, x1002, x1003, x1004 => if x4 < 4 then ((rR_peek.f x1000 x1001 x1002 x1003 x1004).bind fun bt571 => (if bt571.1 ≥ 48 then (rR_hex.j1 k x3 x4 bt571.1 (-1) (decide (bt571.1 ≤ 57)) x1000 bt571.2.1 bt571.2.2.1 bt571.2.2.2.1 bt571.2.2.2.2) else (rR_hex.j1 k x3 x4 bt571.1 (-1) false x1000 bt571.2.1 bt571.2.2.1 bt571.2.2.2.1 bt571.2.2.2.2))) else (some (x3, x1001, x1002, x1003, x1004))
def rR_hex.j1 : Nat → Int → Int → Int → Int → Bool → List Int → Int → Int → Int → Int → Option (Int × Int × Int × Int × Int)
 | 0, _, _, _, _, _, _, _, _, _, _ => none
 | k + 1, x3, x4, x5, x6, x18, x1000, x1001, x1002, x1003, x1004 => if x18 = true then (rR_hex.j2 k x3 x4 x5 (wrap64 (x5 - 48)) x1000 x1001 x1002 x1003 x1004) else (rR_hex.j2 k x3 x4 x5 x6 x1000 x1001 x1002 x1003 x1004)
def rR_hex.j2 : Nat → Int → Int → Int → Int → List Int → Int → Int → Int → Int → Option (Int × Int × Int × Int × Int)
 | 0, _, _, _, _, _, _, _, _, _ => none
 | k + 1, x3, x4, x5, x6, x1000, x1001, x1002, x1003, x1004 => if x5 ≥ 97 then (rR_hex.j3 k x3 x4 x5 x6 (decide (x5 ≤ 102)) x1000 x1001 x1002 x1003 x1004) else (rR_hex.j3 k x3 x4 x5 x6 false x1000 x1001 x1002 x1003 x1004)
def rR_hex.j3 : Nat → Int → Int → Int → Int → Bool → List Int → Int → Int → Int → Int → Option (Int × Int × Int × Int × Int)
 | 0, _, _, _, _, _, _, _, _, _, _ => none
 | k + 1, x3, x4, x5, x6, x26, x1000, x1001, x1002, x1003, x1004 => if x26 = true then (rR_hex.j4 k x3 x4 x5 (wrap64 ((wrap64 (x5 - 97)) + 10)) x1000 x1001 x1002 x1003 x1004) else (rR_hex.j4 k x3 x4 x5 x6 x1000 x1001 x1002 x1003 x1004)
def rR_hex.j4 : Nat → Int → Int → Int → Int → List Int → Int → Int → Int → Int → Option (Int × Int × Int × Int × Int)
 | 0, _, _, _, _, _, _, _, _, _ => none
 | k + 1, x3, x4, x5, x6, x1000, x1001, x1002, x1003, x1004 => if x5 ≥ 65 then (rR_hex.j5 k x3 x4 x5 x6 (decide (x5 ≤ 70)) x1000 x1001 x1002 x1003 x1004) else (rR_hex.j5 k x3 x4 x5 x6 false x1000 x1001 x1002 x1003 x1004)
def rR_hex.j5 : Nat → Int → Int → Int → Int → Bool → List Int → Int → Int → Int → Int → Option (Int × Int × Int × Int × Int)
 | 0, _, _, _, _, _, _, _, _, _, _ => none
 | k + 1, x3, x4, x5, x6, x35, x1000, x1001, x1002, x1003, x1004 => if x35 = true then (rR_hex.j6 k x3 x4 (wrap64 ((wrap64 (x5 - 65)) + 10)) x1000 x1001 x1002 x1003 x1004) else (rR_hex.j6 k x3 x4 x6 x1000 x1001 x1002 x1003 x1004)
def rR_hex.j6 : Nat → Int → Int → Int → List Int → Int → Int → Int → Int → Option (Int × Int × Int × Int × Int)
 | 0, _, _, _, _, _, _, _, _ => none
 | k + 1, x3, x4, x6, x1000, x1001, x1002, x1003, x1004 => if x1003 = 0 then (rR_hex.j7 k x3 x4 x6 (decide (x6 < 0)) x1000 x1001 x1002 x1003 x1004) else (rR_hex.j7 k x3 x4 x6 false x1000 x1001 x1002 x1003 x1004)
def rR_hex.j7 : Nat → Int → Int → Int → Bool → List Int → Int → Int → Int → Int → Option (Int × Int × Int × Int × Int)
 | 0, _, _, _, _, _, _, _, _, _ => none
 | k + 1, x3, x4, x6, x47, x1000, x1001, x1002, x1003, x1004 => if x47 = true then ((rR_fail.f x1000 x1001 x1002 x1003 x1004 6 x1001).bind fun bt576 => (if bt576.2.2.1 = 0 then (rR_hex.l0 k (wrap64 ((wrap64 (x3 * 16)) + x6)) (wrap64 (x4 + 1)) x1000 (wrap64 (bt576.1 + 1)) bt576.2.1 bt576.2.2.1 bt576.2.2.2) else (some (0, bt576.1, bt576.2.1, bt576.2.2.1, bt576.2.2.2)))) else (if x1003 = 0 then (rR_hex.l0 k (wrap64 ((wrap64 (x3 * 16)) + x6)) (wrap64 (x4 + 1)) x1000 (wrap64 (x1001 + 1)) x1002 x1003 x1004) else (some (0, x1001, x1002, x1003, x1004)))
end
def rR_hex.f (k : Nat) (s0_0 : List Int) (s0_1 : Int) (s0_2 : Int) (s0_3 : Int) (s0_4 : Int) : Option (Int × Int × Int × Int × Int) := rR_hex.l0 k 0 0 s0_0 s0_1 s0_2 s0_3 s0_4
set_option maxHeartbeats 8000000 in
set_option maxRecDepth 100000 in
theorem rR_hex.calls (k : Nat) (g : Nat) (s0_0 : List Int) (s0_1 : Int) (s0_2 : Int) (s0_3 : Int) (s0_4 : Int) (r1 : Int) (r2 : Int) (r3 : Int) (r4 : Int) (r5 : Int) (w0 w : World) (hI : IsS96 w0 w g s0_0 s0_1 s0_2 s0_3 s0_4) (hB : Below w0.heap.size w0 w) (h : rR_hex.f k s0_0 s0_1 s0_2 s0_3 s0_4 = some (r1, r2, r3, r4, r5)) :
  Calls Tryd.prog 107 #[.pointer (some ⟨g, 0, none⟩)] w fun e w' => e = .returned (.int .i64 r1) ∧ IsS96 w0 w' g s0_0 r2 r3 r4 r5 ∧ Below w0.heap.size w0 w' ∧ KeepBut w w' g none := by
 have HI0 := Aside0.mk hI
 have HK := Aside0.mk (KeepBut.refl w g none)
 have HL := Aside0.mk hB.size
 clear hI
 have HW0 := Aside0.mk hB.size
 have HB := Aside0.mk hB
 clear hB
 have H : (rR_hex.l0 k 0 0 s0_0 s0_1 s0_2 s0_3 s0_4) = some (r1, r2, r3, r4, r5) := h
 clear h
 have H' := Aside0.mk H
 clear H
 go_enter Tryd.func107, Tryd.ntmps107
 go_wp2
 go_loopg [3, 4] k (fun kq v3 v4 w' => ∃ (x3_1 : Int) (x4_1 : Int) (x1001_1 : Int) (x1002_1 : Int) (x1003_1 : Int) (x1004_1 : Int), v3 = .int .i64 x3_1 ∧ v4 = .int .i64 x4_1 ∧ Aside0 (rR_hex.l0 kq x3_1 x4_1 s0_0 x1001_1 x1002_1 x1003_1 x1004_1 = some (r1, r2, r3, r4, r5)) ∧ Aside0 (kq ≤ k) ∧ Aside0 (IsS96 w0 w' g s0_0 x1001_1 x1002_1 x1003_1 x1004_1) ∧ Aside0 (KeepBut w w' g none) ∧ Aside0 (Below w0.heap.size w0 w'))
 case atStart => exact ⟨(0), (0), (s0_1), (s0_2), (s0_3), (s0_4), (by first | rfl | (simp; done) | (simp [*]; done)), (by first | rfl | (simp; done) | (simp [*]; done)), H', ⟨Nat.le_refl _⟩, ⟨by repeat (first | (with_reducible first | exact HI0.out | apply IsS96.alloc | apply IsS96.drewN | apply IsS96.drew | apply IsS96.set_1 | apply IsS96.set_2 | apply IsS96.set_3 | apply IsS96.set_4) | exact HI0.out)⟩, ⟨by repeat (first | (with_reducible first | exact HK.out | apply KeepBut.set_ | apply kdrN | apply keep_drew | apply kal) | exact HK.out)⟩, ⟨by repeat (first | (with_reducible first | exact HB.out | apply bal | apply pbdN | apply bdr1 | refine below_set ?_ (IsS96.ge HI0.out)) | exact HB.out)⟩⟩
 case round =>
  clear H'
  try clear c1
  obtain ⟨x3_1, x4_1, x1001_1, x1002_1, x1003_1, x1004_1, rfl, rfl, HA, HK1, HI0, HK, HB⟩ := hrel
  cases gk with
  | zero => exact absurd HA.out (by simp [rR_hex.l0])
  | succ k1 =>
   have H := HA.out
   clear HA
   simp only [rR_hex.l0] at H
   by_cases c2 : x4_1 < 4
   ·rw [if_pos c2] at H
    have c2b0 : decide (x4_1 < 4) = true := decide_eq_true c2
    clear c2
    replace H := Option.bind_eq_some_iff.mp H
    obtain ⟨⟨t571, t572, t573, t574, t575⟩, A30, H⟩ := H
    replace H : (if t571 ≥ 48 then (rR_hex.j1 k1 x3_1 x4_1 t571 (-1) (decide (t571 ≤ 57)) s0_0 t572 t573 t574 t575) else (rR_hex.j1 k1 x3_1 x4_1 t571 (-1) false s0_0 t572 t573 t574 t575)) = some (r1, r2, r3, r4, r5) := H
    have A3 := Aside0.mk A30
    clear A30
    have HC4 := Aside0.mk H
    clear H
    go_upto_region 7 with (first | ((with_reducible refine gate_callee (f := 65) rfl ?_); refine goesL_ (some 12) rfl rfl Tryd.func65 (by kernel_rfl) rfl #[.pointer (some ⟨g, 0, none⟩)] rfl (by (try simp only [List.map_toArray, List.map_cons, List.map_nil]); first | done | rfl | (simp only [List.length_drop, List.length_take]; rfl)) ?_; (with_reducible refine (rR_peek.calls g s0_0 x1001_1 x1002_1 x1003_1 x1004_1 t571 t572 t573 t574 t575 w0 _ ?side1 ?side2 A3.out).mono ?_); (case side1 => repeat (first | (with_reducible first | exact HI0.out | apply IsS96.alloc | apply IsS96.drewN | apply IsS96.drew | apply IsS96.set_1 | apply IsS96.set_2 | apply IsS96.set_3 | apply IsS96.set_4) | exact HI0.out)); (case side2 => repeat (first | (with_reducible first | exact HB.out | apply bal | apply pbdN | apply bdr1 | refine below_set ?_ (IsS96.ge HI0.out)) | exact HB.out)); rintro e w5 ⟨rfl, hi, hb, hk⟩; refine ⟨_, rfl, ?_⟩; have n0_ := Aside0.mk (KeepBut.trans (by repeat (first | (with_reducible first | exact HK.out | apply KeepBut.set_ | apply kdrN | apply keep_drew | apply kal) | exact HK.out)) hk (.inl rfl)); have n1_ := Aside0.mk (hb); have n2_ := Aside0.mk (hi); clear HK; clear HB; clear HI0; have HK := n0_; have HB := n1_; have HI0 := n2_; clear n0_ n1_ n2_; (try clear hb); (try clear hb2); (try clear hk); (try clear hi)))
    (try simp only [Act.put, List.setIfInBounds_toArray, List.set_cons_zero, List.set_cons_succ])
    go_cut [18] (fun v18 wc => ∃ (kq : Nat) (x18_3 : Bool), v18 = .bool x18_3 ∧ Aside0 (rR_hex.j1 kq x3_1 x4_1 t571 (-1) x18_3 s0_0 t572 t573 t574 t575 = some (r1, r2, r3, r4, r5)) ∧ Aside0 (kq ≤ k1) ∧ Aside0 (IsS96 w0 wc g s0_0 t572 t573 t574 t575) ∧ Aside0 (KeepBut w wc g none) ∧ Aside0 (Below w0.heap.size w0 wc))
    case first =>
     have H := HC4.out
     clear HC4
     by_cases c6 : t571 ≥ 48
     ·rw [if_pos c6] at H
      have c6b0 : decide (48 ≤ t571) = true := decide_eq_true c6
      clear c6
      (first | rw [c6b0] | (simp only [i64_w, i32_w]; rw [c6b0]) | skip)
      have H' := Aside0.mk H
      clear H
      go_wp2
      go_meet
      case rel => exact ⟨_, (decide (t571 ≤ 57)), (by first | rfl | (simp; done) | (simp [*]; done)), H', ⟨by have := HK1.out; first | omega | exact Nat.le_refl _⟩, ⟨by repeat (first | (with_reducible first | exact HI0.out | apply IsS96.alloc | apply IsS96.drewN | apply IsS96.drew | apply IsS96.set_1 | apply IsS96.set_2 | apply IsS96.set_3 | apply IsS96.set_4) | exact HI0.out)⟩, ⟨by repeat (first | (with_reducible first | exact HK.out | apply KeepBut.set_ | apply kdrN | apply keep_drew | apply kal) | exact HK.out)⟩, ⟨by repeat (first | (with_reducible first | exact HB.out | apply bal | apply pbdN | apply bdr1 | refine below_set ?_ (IsS96.ge HI0.out)) | exact HB.out)⟩⟩
     ·rw [if_neg c6] at H
      have c6b0 : decide (48 ≤ t571) = false := decide_eq_false c6
      clear c6
      (first | rw [c6b0] | (simp only [i64_w, i32_w]; rw [c6b0]) | skip)
      have H' := Aside0.mk H
      clear H
      go_wp2
      go_meet
      case rel => exact ⟨_, (false), (by first | rfl | (simp; done) | (simp [*]; done)), H', ⟨by have := HK1.out; first | omega | exact Nat.le_refl _⟩, ⟨by repeat (first | (with_reducible first | exact HI0.out | apply IsS96.alloc | apply IsS96.drewN | apply IsS96.drew | apply IsS96.set_1 | apply IsS96.set_2 | apply IsS96.set_3 | apply IsS96.set_4) | exact HI0.out)⟩, ⟨by repeat (first | (with_reducible first | exact HK.out | apply KeepBut.set_ | apply kdrN | apply keep_drew | apply kal) | exact HK.out)⟩, ⟨by repeat (first | (with_reducible first | exact HB.out | apply bal | apply pbdN | apply bdr1 | refine below_set ?_ (IsS96.ge HI0.out)) | exact HB.out)⟩⟩
    case rest =>
     clear HC4
     try clear c1; try clear c2; try clear c2b0; try clear p2; try clear c6; try clear c6b0
     obtain ⟨kq, x18_3, rfl, HA, HJ3, HI0, HK, HB⟩ := hcut
     cases kq with
     | zero => exact absurd HA.out (by simp [rR_hex.j1])
     | succ kj3 =>
      have H := HA.out
      clear HA
      simp only [rR_hex.j1] at H
      have HC7 := Aside0.mk H
      clear H
      go_upto_if 18 with (fail)
      go_cut [6] (fun v6 wc => ∃ (kq : Nat) (x6_6 : Int), v6 = .int .i64 x6_6 ∧ Aside0 (rR_hex.j2 kq x3_1 x4_1 t571 x6_6 s0_0 t572 t573 t574 t575 = some (r1, r2, r3, r4, r5)) ∧ Aside0 (kq ≤ kj3) ∧ Aside0 (IsS96 w0 wc g s0_0 t572 t573 t574 t575) ∧ Aside0 (KeepBut w wc g none) ∧ Aside0 (Below w0.heap.size w0 wc))
      case first =>
       have H := HC7.out
       clear HC7
       by_cases c8 : x18_3 = true
       ·subst c8
        have H1 : (rR_hex.j2 kj3 x3_1 x4_1 t571 (wrap64 (t571 - 48)) s0_0 t572 t573 t574 t575) = some (r1, r2, r3, r4, r5) := by rw [if_pos rfl] at H; exact H
        clear H
        have H := H1
        clear H1
        have H' := Aside0.mk H
        clear H
        go_wp2
        go_meet
        case rel => exact ⟨_, (wrap64 (t571 - 48)), (by first | rfl | (simp; done) | (simp [*]; done)), H', ⟨by have := HK1.out; have := HJ3.out; first | omega | exact Nat.le_refl _⟩, ⟨by repeat (first | (with_reducible first | exact HI0.out | apply IsS96.alloc | apply IsS96.drewN | apply IsS96.drew | apply IsS96.set_1 | apply IsS96.set_2 | apply IsS96.set_3 | apply IsS96.set_4) | exact HI0.out)⟩, ⟨by repeat (first | (with_reducible first | exact HK.out | apply KeepBut.set_ | apply kdrN | apply keep_drew | apply kal) | exact HK.out)⟩, ⟨by repeat (first | (with_reducible first | exact HB.out | apply bal | apply pbdN | apply bdr1 | refine below_set ?_ (IsS96.ge HI0.out)) | exact HB.out)⟩⟩
       ·replace c8 := Bool.eq_false_iff.mpr c8
        subst c8
        have H1 : (rR_hex.j2 kj3 x3_1 x4_1 t571 (-1) s0_0 t572 t573 t574 t575) = some (r1, r2, r3, r4, r5) := by rw [if_neg (show ¬ (false = true) by decide)] at H; exact H
        clear H
        have H := H1
        clear H1
        have H' := Aside0.mk H
        clear H
        go_wp2
        go_meet
        case rel => exact ⟨_, ((-1)), (by first | rfl | (simp; done) | (simp [*]; done)), H', ⟨by have := HK1.out; have := HJ3.out; first | omega | exact Nat.le_refl _⟩, ⟨by repeat (first | (with_reducible first | exact HI0.out | apply IsS96.alloc | apply IsS96.drewN | apply IsS96.drew | apply IsS96.set_1 | apply IsS96.set_2 | apply IsS96.set_3 | apply IsS96.set_4) | exact HI0.out)⟩, ⟨by repeat (first | (with_reducible first | exact HK.out | apply KeepBut.set_ | apply kdrN | apply keep_drew | apply kal) | exact HK.out)⟩, ⟨by repeat (first | (with_reducible first | exact HB.out | apply bal | apply pbdN | apply bdr1 | refine below_set ?_ (IsS96.ge HI0.out)) | exact HB.out)⟩⟩
      case rest =>
       clear HC7
       try clear c1; try clear c2; try clear c2b0; try clear p2; try clear c6; try clear c6b0; try clear p6; try clear c8; try clear p2
       obtain ⟨kq, x6_6, rfl, HA, HJ6, HI0, HK, HB⟩ := hcut
       cases kq with
       | zero => exact absurd HA.out (by simp [rR_hex.j2])
       | succ kj6 =>
        have H := HA.out
        clear HA
        simp only [rR_hex.j2] at H
        have HC9 := Aside0.mk H
        clear H
        go_upto_region 9 with (fail)
        go_cut [26] (fun v26 wc => ∃ (kq : Nat) (x26_8 : Bool), v26 = .bool x26_8 ∧ Aside0 (rR_hex.j3 kq x3_1 x4_1 t571 x6_6 x26_8 s0_0 t572 t573 t574 t575 = some (r1, r2, r3, r4, r5)) ∧ Aside0 (kq ≤ kj6) ∧ Aside0 (IsS96 w0 wc g s0_0 t572 t573 t574 t575) ∧ Aside0 (KeepBut w wc g none) ∧ Aside0 (Below w0.heap.size w0 wc))
        case first =>
         have H := HC9.out
         clear HC9
         by_cases c10 : t571 ≥ 97
         ·rw [if_pos c10] at H
          have c10b0 : decide (97 ≤ t571) = true := decide_eq_true c10
          clear c10
          (first | rw [c10b0] | (simp only [i64_w, i32_w]; rw [c10b0]) | skip)
          have H' := Aside0.mk H
          clear H
          go_wp2
          go_meet
          case rel => exact ⟨_, (decide (t571 ≤ 102)), (by first | rfl | (simp; done) | (simp [*]; done)), H', ⟨by have := HK1.out; have := HJ3.out; have := HJ6.out; first | omega | exact Nat.le_refl _⟩, ⟨by repeat (first | (with_reducible first | exact HI0.out | apply IsS96.alloc | apply IsS96.drewN | apply IsS96.drew | apply IsS96.set_1 | apply IsS96.set_2 | apply IsS96.set_3 | apply IsS96.set_4) | exact HI0.out)⟩, ⟨by repeat (first | (with_reducible first | exact HK.out | apply KeepBut.set_ | apply kdrN | apply keep_drew | apply kal) | exact HK.out)⟩, ⟨by repeat (first | (with_reducible first | exact HB.out | apply bal | apply pbdN | apply bdr1 | refine below_set ?_ (IsS96.ge HI0.out)) | exact HB.out)⟩⟩
         ·rw [if_neg c10] at H
          have c10b0 : decide (97 ≤ t571) = false := decide_eq_false c10
          clear c10
          (first | rw [c10b0] | (simp only [i64_w, i32_w]; rw [c10b0]) | skip)
          have H' := Aside0.mk H
          clear H
          go_wp2
          go_meet
          case rel => exact ⟨_, (false), (by first | rfl | (simp; done) | (simp [*]; done)), H', ⟨by have := HK1.out; have := HJ3.out; have := HJ6.out; first | omega | exact Nat.le_refl _⟩, ⟨by repeat (first | (with_reducible first | exact HI0.out | apply IsS96.alloc | apply IsS96.drewN | apply IsS96.drew | apply IsS96.set_1 | apply IsS96.set_2 | apply IsS96.set_3 | apply IsS96.set_4) | exact HI0.out)⟩, ⟨by repeat (first | (with_reducible first | exact HK.out | apply KeepBut.set_ | apply kdrN | apply keep_drew | apply kal) | exact HK.out)⟩, ⟨by repeat (first | (with_reducible first | exact HB.out | apply bal | apply pbdN | apply bdr1 | refine below_set ?_ (IsS96.ge HI0.out)) | exact HB.out)⟩⟩
        case rest =>
         clear HC9
         try clear c1; try clear c2; try clear c2b0; try clear p2; try clear c6; try clear c6b0; try clear p6; try clear c8; try clear c10; try clear c10b0; try clear p2; try clear p6
         obtain ⟨kq, x26_8, rfl, HA, HJ8, HI0, HK, HB⟩ := hcut
         cases kq with
         | zero => exact absurd HA.out (by simp [rR_hex.j3])
         | succ kj8 =>
          have H := HA.out
          clear HA
          simp only [rR_hex.j3] at H
          have HC11 := Aside0.mk H
          clear H
          go_upto_if 26 with (fail)
          go_cut [6] (fun v6 wc => ∃ (kq : Nat) (x6_10 : Int), v6 = .int .i64 x6_10 ∧ Aside0 (rR_hex.j4 kq x3_1 x4_1 t571 x6_10 s0_0 t572 t573 t574 t575 = some (r1, r2, r3, r4, r5)) ∧ Aside0 (kq ≤ kj8) ∧ Aside0 (IsS96 w0 wc g s0_0 t572 t573 t574 t575) ∧ Aside0 (KeepBut w wc g none) ∧ Aside0 (Below w0.heap.size w0 wc))
          case first =>
           have H := HC11.out
           clear HC11
           by_cases c12 : x26_8 = true
           ·subst c12
            have H1 : (rR_hex.j4 kj8 x3_1 x4_1 t571 (wrap64 ((wrap64 (t571 - 97)) + 10)) s0_0 t572 t573 t574 t575) = some (r1, r2, r3, r4, r5) := by rw [if_pos rfl] at H; exact H
            clear H
            have H := H1
            clear H1
            have H' := Aside0.mk H
            clear H
            go_wp2
            go_meet
            case rel => exact ⟨_, (wrap64 ((wrap64 (t571 - 97)) + 10)), (by first | rfl | (simp; done) | (simp [*]; done)), H', ⟨by have := HK1.out; have := HJ3.out; have := HJ6.out; have := HJ8.out; first | omega | exact Nat.le_refl _⟩, ⟨by repeat (first | (with_reducible first | exact HI0.out | apply IsS96.alloc | apply IsS96.drewN | apply IsS96.drew | apply IsS96.set_1 | apply IsS96.set_2 | apply IsS96.set_3 | apply IsS96.set_4) | exact HI0.out)⟩, ⟨by repeat (first | (with_reducible first | exact HK.out | apply KeepBut.set_ | apply kdrN | apply keep_drew | apply kal) | exact HK.out)⟩, ⟨by repeat (first | (with_reducible first | exact HB.out | apply bal | apply pbdN | apply bdr1 | refine below_set ?_ (IsS96.ge HI0.out)) | exact HB.out)⟩⟩
           ·replace c12 := Bool.eq_false_iff.mpr c12
            subst c12
            have H1 : (rR_hex.j4 kj8 x3_1 x4_1 t571 x6_6 s0_0 t572 t573 t574 t575) = some (r1, r2, r3, r4, r5) := by rw [if_neg (show ¬ (false = true) by decide)] at H; exact H
            clear H
            have H := H1
            clear H1
            have H' := Aside0.mk H
            clear H
            go_wp2
            go_meet
            case rel => exact ⟨_, (x6_6), (by first | rfl | (simp; done) | (simp [*]; done)), H', ⟨by have := HK1.out; have := HJ3.out; have := HJ6.out; have := HJ8.out; first | omega | exact Nat.le_refl _⟩, ⟨by repeat (first | (with_reducible first | exact HI0.out | apply IsS96.alloc | apply IsS96.drewN | apply IsS96.drew | apply IsS96.set_1 | apply IsS96.set_2 | apply IsS96.set_3 | apply IsS96.set_4) | exact HI0.out)⟩, ⟨by repeat (first | (with_reducible first | exact HK.out | apply KeepBut.set_ | apply kdrN | apply keep_drew | apply kal) | exact HK.out)⟩, ⟨by repeat (first | (with_reducible first | exact HB.out | apply bal | apply pbdN | apply bdr1 | refine below_set ?_ (IsS96.ge HI0.out)) | exact HB.out)⟩⟩
          case rest =>
           clear HC11
           try clear c1; try clear c2; try clear c2b0; try clear p2; try clear c6; try clear c6b0; try clear p6; try clear c8; try clear c10; try clear c10b0; try clear c12; try clear p2; try clear p6
           obtain ⟨kq, x6_10, rfl, HA, HJ10, HI0, HK, HB⟩ := hcut
           cases kq with
           | zero => exact absurd HA.out (by simp [rR_hex.j4])
           | succ kj10 =>
            have H := HA.out
            clear HA
            simp only [rR_hex.j4] at H
            have HC13 := Aside0.mk H
            clear H
            go_upto_region 11 with (fail)
            go_cut [35] (fun v35 wc => ∃ (kq : Nat) (x35_12 : Bool), v35 = .bool x35_12 ∧ Aside0 (rR_hex.j5 kq x3_1 x4_1 t571 x6_10 x35_12 s0_0 t572 t573 t574 t575 = some (r1, r2, r3, r4, r5)) ∧ Aside0 (kq ≤ kj10) ∧ Aside0 (IsS96 w0 wc g s0_0 t572 t573 t574 t575) ∧ Aside0 (KeepBut w wc g none) ∧ Aside0 (Below w0.heap.size w0 wc))
            case first =>
             have H := HC13.out
             clear HC13
             by_cases c14 : t571 ≥ 65
             ·rw [if_pos c14] at H
              have c14b0 : decide (65 ≤ t571) = true := decide_eq_true c14
              clear c14
              (first | rw [c14b0] | (simp only [i64_w, i32_w]; rw [c14b0]) | skip)
              have H' := Aside0.mk H
              clear H
              go_wp2
              go_meet
              case rel => exact ⟨_, (decide (t571 ≤ 70)), (by first | rfl | (simp; done) | (simp [*]; done)), H', ⟨by have := HK1.out; have := HJ3.out; have := HJ6.out; have := HJ8.out; have := HJ10.out; first | omega | exact Nat.le_refl _⟩, ⟨by repeat (first | (with_reducible first | exact HI0.out | apply IsS96.alloc | apply IsS96.drewN | apply IsS96.drew | apply IsS96.set_1 | apply IsS96.set_2 | apply IsS96.set_3 | apply IsS96.set_4) | exact HI0.out)⟩, ⟨by repeat (first | (with_reducible first | exact HK.out | apply KeepBut.set_ | apply kdrN | apply keep_drew | apply kal) | exact HK.out)⟩, ⟨by repeat (first | (with_reducible first | exact HB.out | apply bal | apply pbdN | apply bdr1 | refine below_set ?_ (IsS96.ge HI0.out)) | exact HB.out)⟩⟩
             ·rw [if_neg c14] at H
              have c14b0 : decide (65 ≤ t571) = false := decide_eq_false c14
              clear c14
              (first | rw [c14b0] | (simp only [i64_w, i32_w]; rw [c14b0]) | skip)
              have H' := Aside0.mk H
              clear H
              go_wp2
              go_meet
              case rel => exact ⟨_, (false), (by first | rfl | (simp; done) | (simp [*]; done)), H', ⟨by have := HK1.out; have := HJ3.out; have := HJ6.out; have := HJ8.out; have := HJ10.out; first | omega | exact Nat.le_refl _⟩, ⟨by repeat (first | (with_reducible first | exact HI0.out | apply IsS96.alloc | apply IsS96.drewN | apply IsS96.drew | apply IsS96.set_1 | apply IsS96.set_2 | apply IsS96.set_3 | apply IsS96.set_4) | exact HI0.out)⟩, ⟨by repeat (first | (with_reducible first | exact HK.out | apply KeepBut.set_ | apply kdrN | apply keep_drew | apply kal) | exact HK.out)⟩, ⟨by repeat (first | (with_reducible first | exact HB.out | apply bal | apply pbdN | apply bdr1 | refine below_set ?_ (IsS96.ge HI0.out)) | exact HB.out)⟩⟩
            case rest =>
             clear HC13
             try clear c1; try clear c2; try clear c2b0; try clear p2; try clear c6; try clear c6b0; try clear p6; try clear c8; try clear c10; try clear c10b0; try clear c12; try clear c14; try clear c14b0; try clear p2; try clear p6
             obtain ⟨kq, x35_12, rfl, HA, HJ12, HI0, HK, HB⟩ := hcut
             cases kq with
             | zero => exact absurd HA.out (by simp [rR_hex.j5])
             | succ kj12 =>
              have H := HA.out
              clear HA
              simp only [rR_hex.j5] at H
              have HC15 := Aside0.mk H
              clear H
              go_upto_if 35 with (fail)
              go_cut [6] (fun v6 wc => ∃ (kq : Nat) (x6_14 : Int), v6 = .int .i64 x6_14 ∧ Aside0 (rR_hex.j6 kq x3_1 x4_1 x6_14 s0_0 t572 t573 t574 t575 = some (r1, r2, r3, r4, r5)) ∧ Aside0 (kq ≤ kj12) ∧ Aside0 (IsS96 w0 wc g s0_0 t572 t573 t574 t575) ∧ Aside0 (KeepBut w wc g none) ∧ Aside0 (Below w0.heap.size w0 wc))
              case first =>
               have H := HC15.out
               clear HC15
               by_cases c16 : x35_12 = true
               ·subst c16
                have H1 : (rR_hex.j6 kj12 x3_1 x4_1 (wrap64 ((wrap64 (t571 - 65)) + 10)) s0_0 t572 t573 t574 t575) = some (r1, r2, r3, r4, r5) := by rw [if_pos rfl] at H; exact H
                clear H
                have H := H1
                clear H1
                have H' := Aside0.mk H
                clear H
                go_wp2
                go_meet
                case rel => exact ⟨_, (wrap64 ((wrap64 (t571 - 65)) + 10)), (by first | rfl | (simp; done) | (simp [*]; done)), H', ⟨by have := HK1.out; have := HJ3.out; have := HJ6.out; have := HJ8.out; have := HJ10.out; have := HJ12.out; first | omega | exact Nat.le_refl _⟩, ⟨by repeat (first | (with_reducible first | exact HI0.out | apply IsS96.alloc | apply IsS96.drewN | apply IsS96.drew | apply IsS96.set_1 | apply IsS96.set_2 | apply IsS96.set_3 | apply IsS96.set_4) | exact HI0.out)⟩, ⟨by repeat (first | (with_reducible first | exact HK.out | apply KeepBut.set_ | apply kdrN | apply keep_drew | apply kal) | exact HK.out)⟩, ⟨by repeat (first | (with_reducible first | exact HB.out | apply bal | apply pbdN | apply bdr1 | refine below_set ?_ (IsS96.ge HI0.out)) | exact HB.out)⟩⟩
               ·replace c16 := Bool.eq_false_iff.mpr c16
                subst c16
                have H1 : (rR_hex.j6 kj12 x3_1 x4_1 x6_10 s0_0 t572 t573 t574 t575) = some (r1, r2, r3, r4, r5) := by rw [if_neg (show ¬ (false = true) by decide)] at H; exact H
                clear H
                have H := H1
                clear H1
                have H' := Aside0.mk H
                clear H
                go_wp2
                go_meet
                case rel => exact ⟨_, (x6_10), (by first | rfl | (simp; done) | (simp [*]; done)), H', ⟨by have := HK1.out; have := HJ3.out; have := HJ6.out; have := HJ8.out; have := HJ10.out; have := HJ12.out; first | omega | exact Nat.le_refl _⟩, ⟨by repeat (first | (with_reducible first | exact HI0.out | apply IsS96.alloc | apply IsS96.drewN | apply IsS96.drew | apply IsS96.set_1 | apply IsS96.set_2 | apply IsS96.set_3 | apply IsS96.set_4) | exact HI0.out)⟩, ⟨by repeat (first | (with_reducible first | exact HK.out | apply KeepBut.set_ | apply kdrN | apply keep_drew | apply kal) | exact HK.out)⟩, ⟨by repeat (first | (with_reducible first | exact HB.out | apply bal | apply pbdN | apply bdr1 | refine below_set ?_ (IsS96.ge HI0.out)) | exact HB.out)⟩⟩
              case rest =>
               clear HC15
               try clear c1; try clear c2; try clear c2b0; try clear p2; try clear c6; try clear c6b0; try clear p6; try clear c8; try clear c10; try clear c10b0; try clear c12; try clear c14; try clear c14b0; try clear c16; try clear p2; try clear p6
               obtain ⟨kq, x6_14, rfl, HA, HJ14, HI0, HK, HB⟩ := hcut
               cases kq with
               | zero => exact absurd HA.out (by simp [rR_hex.j6])
               | succ kj14 =>
                have H := HA.out
                clear HA
                simp only [rR_hex.j6] at H
                have HC17 := Aside0.mk H
                clear H
                go_upto_region 13 with (fail)
                go_cut [47] (fun v47 wc => ∃ (kq : Nat) (x47_16 : Bool), v47 = .bool x47_16 ∧ Aside0 (rR_hex.j7 kq x3_1 x4_1 x6_14 x47_16 s0_0 t572 t573 t574 t575 = some (r1, r2, r3, r4, r5)) ∧ Aside0 (kq ≤ kj14) ∧ Aside0 (IsS96 w0 wc g s0_0 t572 t573 t574 t575) ∧ Aside0 (KeepBut w wc g none) ∧ Aside0 (Below w0.heap.size w0 wc))
                case first =>
                 have H := HC17.out
                 clear HC17
                 by_cases c18 : t574 = 0
                 ·rw [if_pos c18] at H
                  have c18b0 : (t574 == 0) = true := beq_iff_eq.mpr c18
                  have c18b1 : (t574 != 0) = false := bne_eq_false_iff_eq.mpr c18
                  clear c18
                  (first | rw [c18b0] | (simp only [i64_w, i32_w]; rw [c18b0]) | skip)
                  have H' := Aside0.mk H
                  clear H
                  obtain ⟨ASz19_0, cSz19_0, HGz19, hgz19, HSz19_0⟩ := HI0.out
                  have hcz19_0 := cellS96_0 HGz19
                  have hcz19_1 := cellS96_1 HGz19
                  have hcz19_2 := cellS96_2 HGz19
                  have hcz19_3 := cellS96_3 HGz19
                  have hcz19_4 := cellS96_4 HGz19
                  have hfz19_1 := bfz HGz19 1
                  have hfz19_2 := bfz HGz19 2
                  have hfz19_3 := bfz HGz19 3
                  have hfz19_4 := bfz HGz19 4
                  clear HGz19 hgz19
                  go_wp2
                  go_meet
                  case rel => exact ⟨_, (decide (x6_14 < 0)), (by first | rfl | (simp; done) | (simp [*]; done)), H', ⟨by have := HK1.out; have := HJ3.out; have := HJ6.out; have := HJ8.out; have := HJ10.out; have := HJ12.out; have := HJ14.out; first | omega | exact Nat.le_refl _⟩, ⟨by repeat (first | (with_reducible first | exact HI0.out | apply IsS96.alloc | apply IsS96.drewN | apply IsS96.drew | apply IsS96.set_1 | apply IsS96.set_2 | apply IsS96.set_3 | apply IsS96.set_4) | exact HI0.out)⟩, ⟨by repeat (first | (with_reducible first | exact HK.out | apply KeepBut.set_ | apply kdrN | apply keep_drew | apply kal) | exact HK.out)⟩, ⟨by repeat (first | (with_reducible first | exact HB.out | apply bal | apply pbdN | apply bdr1 | refine below_set ?_ (IsS96.ge HI0.out)) | exact HB.out)⟩⟩
                 ·rw [if_neg c18] at H
                  have c18b0 : (t574 == 0) = false := beq_eq_false_iff_ne.mpr c18
                  have c18b1 : (t574 != 0) = true := bne_iff_ne.mpr c18
                  (first | rw [c18b0] | (simp only [i64_w, i32_w]; rw [c18b0]) | skip)
                  have H' := Aside0.mk H
                  clear H
                  obtain ⟨ASz20_0, cSz20_0, HGz20, hgz20, HSz20_0⟩ := HI0.out
                  have hcz20_0 := cellS96_0 HGz20
                  have hcz20_1 := cellS96_1 HGz20
                  have hcz20_2 := cellS96_2 HGz20
                  have hcz20_3 := cellS96_3 HGz20
                  have hcz20_4 := cellS96_4 HGz20
                  have hfz20_1 := bfz HGz20 1
                  have hfz20_2 := bfz HGz20 2
                  have hfz20_3 := bfz HGz20 3
                  have hfz20_4 := bfz HGz20 4
                  clear HGz20 hgz20
                  go_wp2
                  go_meet
                  case rel => exact ⟨_, (false), (by first | rfl | (simp; done) | (simp [*]; done)), H', ⟨by have := HK1.out; have := HJ3.out; have := HJ6.out; have := HJ8.out; have := HJ10.out; have := HJ12.out; have := HJ14.out; first | omega | exact Nat.le_refl _⟩, ⟨by repeat (first | (with_reducible first | exact HI0.out | apply IsS96.alloc | apply IsS96.drewN | apply IsS96.drew | apply IsS96.set_1 | apply IsS96.set_2 | apply IsS96.set_3 | apply IsS96.set_4) | exact HI0.out)⟩, ⟨by repeat (first | (with_reducible first | exact HK.out | apply KeepBut.set_ | apply kdrN | apply keep_drew | apply kal) | exact HK.out)⟩, ⟨by repeat (first | (with_reducible first | exact HB.out | apply bal | apply pbdN | apply bdr1 | refine below_set ?_ (IsS96.ge HI0.out)) | exact HB.out)⟩⟩
                case rest =>
                 clear HC17
                 try clear c1; try clear c2; try clear c2b0; try clear p2; try clear c6; try clear c6b0; try clear p6; try clear c8; try clear c10; try clear c10b0; try clear c12; try clear c14; try clear c14b0; try clear c16; try clear c18; try clear c18b0; try clear c18b1; try clear hcz19_0; try clear hcz19_1; try clear hcz19_2; try clear hcz19_3; try clear hcz19_4; try clear hcz20_0; try clear hcz20_1; try clear hcz20_2; try clear hcz20_3; try clear hcz20_4; try clear hfz19_1; try clear hfz19_2; try clear hfz19_3; try clear hfz19_4; try clear hfz20_1; try clear hfz20_2; try clear hfz20_3; try clear hfz20_4; try clear p2; try clear p6
                 obtain ⟨kq, x47_16, rfl, HA, HJ16, HI0, HK, HB⟩ := hcut
                 cases kq with
                 | zero => exact absurd HA.out (by simp [rR_hex.j7])
                 | succ kj16 =>
                  have H := HA.out
                  clear HA
                  simp only [rR_hex.j7] at H
                  by_cases c21 : x47_16 = true
                  ·subst c21
                   have H1 : ((rR_fail.f s0_0 t572 t573 t574 t575 6 t572).bind fun bt576 => (if bt576.2.2.1 = 0 then (rR_hex.l0 kj16 (wrap64 ((wrap64 (x3_1 * 16)) + x6_14)) (wrap64 (x4_1 + 1)) s0_0 (wrap64 (bt576.1 + 1)) bt576.2.1 bt576.2.2.1 bt576.2.2.2) else (some (0, bt576.1, bt576.2.1, bt576.2.2.1, bt576.2.2.2)))) = some (r1, r2, r3, r4, r5) := by rw [if_pos rfl] at H; exact H
                   clear H
                   have H := H1
                   clear H1
                   replace H := Option.bind_eq_some_iff.mp H
                   obtain ⟨⟨t576, t577, t578, t579⟩, A220, H⟩ := H
                   replace H : (if t578 = 0 then (rR_hex.l0 kj16 (wrap64 ((wrap64 (x3_1 * 16)) + x6_14)) (wrap64 (x4_1 + 1)) s0_0 (wrap64 (t576 + 1)) t577 t578 t579) else (some (0, t576, t577, t578, t579))) = some (r1, r2, r3, r4, r5) := H
                   have A22 := Aside0.mk A220
                   clear A220
                   by_cases c23 : t578 = 0
                   ·rw [if_pos c23] at H
                    have c23b0 : (t578 == 0) = true := beq_iff_eq.mpr c23
                    have c23b1 : (t578 != 0) = false := bne_eq_false_iff_eq.mpr c23
                    clear c23
                    have H' := Aside0.mk H
                    clear H
                    obtain ⟨ASz24_0, cSz24_0, HGz24, hgz24, HSz24_0⟩ := HI0.out
                    have hcz24_0 := cellS96_0 HGz24
                    have hcz24_1 := cellS96_1 HGz24
                    have hcz24_2 := cellS96_2 HGz24
                    have hcz24_3 := cellS96_3 HGz24
                    have hcz24_4 := cellS96_4 HGz24
                    have hfz24_1 := bfz HGz24 1
                    have hfz24_2 := bfz HGz24 2
                    have hfz24_3 := bfz HGz24 3
                    have hfz24_4 := bfz HGz24 4
                    clear HGz24 hgz24
                    go_wp2_with (first | ((with_reducible refine gate_callee (f := 46) rfl ?_); refine goesL_ (some 53) rfl rfl Tryd.func46 (by kernel_rfl) rfl #[.pointer (some ⟨g, 0, none⟩), .int .i64 6, .int .i64 t572] rfl (by (try simp only [List.map_toArray, List.map_cons, List.map_nil]); first | done | rfl | (simp only [List.length_drop, List.length_take]; rfl)) ?_; (with_reducible refine (rR_fail.calls g s0_0 t572 t573 t574 t575 6 t572 t576 t577 t578 t579 w0 _ ?side1 ?side2 A22.out).mono ?_); (case side1 => repeat (first | (with_reducible first | exact HI0.out | apply IsS96.alloc | apply IsS96.drewN | apply IsS96.drew | apply IsS96.set_1 | apply IsS96.set_2 | apply IsS96.set_3 | apply IsS96.set_4) | exact HI0.out)); (case side2 => repeat (first | (with_reducible first | exact HB.out | apply bal | apply pbdN | apply bdr1 | refine below_set ?_ (IsS96.ge HI0.out)) | exact HB.out)); rintro e w25 ⟨rfl, hi, hb, hk⟩; refine ⟨_, rfl, ?_⟩; have n0_ := Aside0.mk (KeepBut.trans (by repeat (first | (with_reducible first | exact HK.out | apply KeepBut.set_ | apply kdrN | apply keep_drew | apply kal) | exact HK.out)) hk (.inl rfl)); have n1_ := Aside0.mk (hb); have n2_ := Aside0.mk (hi); clear HK; clear HB; clear HI0; have HK := n0_; have HB := n1_; have HI0 := n2_; clear n0_ n1_ n2_; (try clear hb); (try clear hb2); (try clear hk); (try clear hi); obtain ⟨ASz26_0, cSz26_0, HGz26, hgz26, HSz26_0⟩ := HI0.out; have hcz26_0 := cellS96_0 HGz26; have hcz26_1 := cellS96_1 HGz26; have hcz26_2 := cellS96_2 HGz26; have hcz26_3 := cellS96_3 HGz26; have hcz26_4 := cellS96_4 HGz26; have hfz26_1 := bfz HGz26 1; have hfz26_2 := bfz HGz26 2; have hfz26_3 := bfz HGz26 3; have hfz26_4 := bfz HGz26 4; clear HGz26 hgz26))
                    go_roundg kj16
                    case measure => have := HK1.out; have := HJ3.out; have := HJ6.out; have := HJ8.out; have := HJ10.out; have := HJ12.out; have := HJ14.out; have := HJ16.out; omega
                    case rel => exact ⟨(wrap64 ((wrap64 (x3_1 * 16)) + x6_14)), (wrap64 (x4_1 + 1)), (wrap64 (t576 + 1)), (t577), (t578), (t579), (by first | rfl | (simp; done) | (simp [*]; done)), (by first | rfl | (simp; done) | (simp [*]; done)), H', ⟨by have := HK1.out; have := HJ3.out; have := HJ6.out; have := HJ8.out; have := HJ10.out; have := HJ12.out; have := HJ14.out; have := HJ16.out; omega⟩, ⟨by repeat (first | (with_reducible first | exact HI0.out | apply IsS96.alloc | apply IsS96.drewN | apply IsS96.drew | apply IsS96.set_1 | apply IsS96.set_2 | apply IsS96.set_3 | apply IsS96.set_4) | exact HI0.out)⟩, ⟨by repeat (first | (with_reducible first | exact HK.out | apply KeepBut.set_ | apply kdrN | apply keep_drew | apply kal) | exact HK.out)⟩, ⟨by repeat (first | (with_reducible first | exact HB.out | apply bal | apply pbdN | apply bdr1 | refine below_set ?_ (IsS96.ge HI0.out)) | exact HB.out)⟩⟩
                   ·rw [if_neg c23] at H
                    have c23b0 : (t578 == 0) = false := beq_eq_false_iff_ne.mpr c23
                    have c23b1 : (t578 != 0) = true := bne_iff_ne.mpr c23
                    simp only [Option.some.injEq, Prod.mk.injEq] at H
                    obtain ⟨rfl, rfl, rfl, rfl, rfl⟩ := H
                    obtain ⟨ASz27_0, cSz27_0, HGz27, hgz27, HSz27_0⟩ := HI0.out
                    have hcz27_0 := cellS96_0 HGz27
                    have hcz27_1 := cellS96_1 HGz27
                    have hcz27_2 := cellS96_2 HGz27
                    have hcz27_3 := cellS96_3 HGz27
                    have hcz27_4 := cellS96_4 HGz27
                    have hfz27_1 := bfz HGz27 1
                    have hfz27_2 := bfz HGz27 2
                    have hfz27_3 := bfz HGz27 3
                    have hfz27_4 := bfz HGz27 4
                    clear HGz27 hgz27
                    go_wp2_with (first | ((with_reducible refine gate_callee (f := 46) rfl ?_); refine goesL_ (some 53) rfl rfl Tryd.func46 (by kernel_rfl) rfl #[.pointer (some ⟨g, 0, none⟩), .int .i64 6, .int .i64 t572] rfl (by (try simp only [List.map_toArray, List.map_cons, List.map_nil]); first | done | rfl | (simp only [List.length_drop, List.length_take]; rfl)) ?_; (with_reducible refine (rR_fail.calls g s0_0 t572 t573 t574 t575 6 t572 t576 t577 t578 t579 w0 _ ?side1 ?side2 A22.out).mono ?_); (case side1 => repeat (first | (with_reducible first | exact HI0.out | apply IsS96.alloc | apply IsS96.drewN | apply IsS96.drew | apply IsS96.set_1 | apply IsS96.set_2 | apply IsS96.set_3 | apply IsS96.set_4) | exact HI0.out)); (case side2 => repeat (first | (with_reducible first | exact HB.out | apply bal | apply pbdN | apply bdr1 | refine below_set ?_ (IsS96.ge HI0.out)) | exact HB.out)); rintro e w28 ⟨rfl, hi, hb, hk⟩; refine ⟨_, rfl, ?_⟩; have n0_ := Aside0.mk (KeepBut.trans (by repeat (first | (with_reducible first | exact HK.out | apply KeepBut.set_ | apply kdrN | apply keep_drew | apply kal) | exact HK.out)) hk (.inl rfl)); have n1_ := Aside0.mk (hb); have n2_ := Aside0.mk (hi); clear HK; clear HB; clear HI0; have HK := n0_; have HB := n1_; have HI0 := n2_; clear n0_ n1_ n2_; (try clear hb); (try clear hb2); (try clear hk); (try clear hi); obtain ⟨ASz29_0, cSz29_0, HGz29, hgz29, HSz29_0⟩ := HI0.out; have hcz29_0 := cellS96_0 HGz29; have hcz29_1 := cellS96_1 HGz29; have hcz29_2 := cellS96_2 HGz29; have hcz29_3 := cellS96_3 HGz29; have hcz29_4 := cellS96_4 HGz29; have hfz29_1 := bfz HGz29 1; have hfz29_2 := bfz HGz29 2; have hfz29_3 := bfz HGz29 3; have hfz29_4 := bfz HGz29 4; clear HGz29 hgz29))
                    go_ret
                    exact ⟨by first | rfl | (simp [errW_none, errW_some] <;> rfl) | (simp [*, errW_none, errW_some] <;> rfl), by repeat (first | (with_reducible first | exact HI0.out | apply IsS96.alloc | apply IsS96.drewN | apply IsS96.drew | apply IsS96.set_1 | apply IsS96.set_2 | apply IsS96.set_3 | apply IsS96.set_4) | exact HI0.out), by repeat (first | (with_reducible first | exact HB.out | apply bal | apply pbdN | apply bdr1 | refine below_set ?_ (IsS96.ge HI0.out)) | exact HB.out), by repeat (first | (with_reducible first | exact HK.out | apply KeepBut.set_ | apply kdrN | apply keep_drew | apply kal) | exact HK.out)⟩
                  ·replace c21 := Bool.eq_false_iff.mpr c21
                   subst c21
                   have H1 : (if t574 = 0 then (rR_hex.l0 kj16 (wrap64 ((wrap64 (x3_1 * 16)) + x6_14)) (wrap64 (x4_1 + 1)) s0_0 (wrap64 (t572 + 1)) t573 t574 t575) else (some (0, t572, t573, t574, t575))) = some (r1, r2, r3, r4, r5) := by rw [if_neg (show ¬ (false = true) by decide)] at H; exact H
                   clear H
                   have H := H1
                   clear H1
                   by_cases c30 : t574 = 0
                   ·rw [if_pos c30] at H
                    have c30b0 : (t574 == 0) = true := beq_iff_eq.mpr c30
                    have c30b1 : (t574 != 0) = false := bne_eq_false_iff_eq.mpr c30
                    clear c30
                    have H' := Aside0.mk H
                    clear H
                    obtain ⟨ASz31_0, cSz31_0, HGz31, hgz31, HSz31_0⟩ := HI0.out
                    have hcz31_0 := cellS96_0 HGz31
                    have hcz31_1 := cellS96_1 HGz31
                    have hcz31_2 := cellS96_2 HGz31
                    have hcz31_3 := cellS96_3 HGz31
                    have hcz31_4 := cellS96_4 HGz31
                    have hfz31_1 := bfz HGz31 1
                    have hfz31_2 := bfz HGz31 2
                    have hfz31_3 := bfz HGz31 3
                    have hfz31_4 := bfz HGz31 4
                    clear HGz31 hgz31
                    go_wp2
                    go_roundg kj16
                    case measure => have := HK1.out; have := HJ3.out; have := HJ6.out; have := HJ8.out; have := HJ10.out; have := HJ12.out; have := HJ14.out; have := HJ16.out; omega
                    case rel => exact ⟨(wrap64 ((wrap64 (x3_1 * 16)) + x6_14)), (wrap64 (x4_1 + 1)), (wrap64 (t572 + 1)), (t573), (t574), (t575), (by first | rfl | (simp; done) | (simp [*]; done)), (by first | rfl | (simp; done) | (simp [*]; done)), H', ⟨by have := HK1.out; have := HJ3.out; have := HJ6.out; have := HJ8.out; have := HJ10.out; have := HJ12.out; have := HJ14.out; have := HJ16.out; omega⟩, ⟨by repeat (first | (with_reducible first | exact HI0.out | apply IsS96.alloc | apply IsS96.drewN | apply IsS96.drew | apply IsS96.set_1 | apply IsS96.set_2 | apply IsS96.set_3 | apply IsS96.set_4) | exact HI0.out)⟩, ⟨by repeat (first | (with_reducible first | exact HK.out | apply KeepBut.set_ | apply kdrN | apply keep_drew | apply kal) | exact HK.out)⟩, ⟨by repeat (first | (with_reducible first | exact HB.out | apply bal | apply pbdN | apply bdr1 | refine below_set ?_ (IsS96.ge HI0.out)) | exact HB.out)⟩⟩
                   ·rw [if_neg c30] at H
                    have c30b0 : (t574 == 0) = false := beq_eq_false_iff_ne.mpr c30
                    have c30b1 : (t574 != 0) = true := bne_iff_ne.mpr c30
                    simp only [Option.some.injEq, Prod.mk.injEq] at H
                    obtain ⟨rfl, rfl, rfl, rfl, rfl⟩ := H
                    obtain ⟨ASz32_0, cSz32_0, HGz32, hgz32, HSz32_0⟩ := HI0.out
                    have hcz32_0 := cellS96_0 HGz32
                    have hcz32_1 := cellS96_1 HGz32
                    have hcz32_2 := cellS96_2 HGz32
                    have hcz32_3 := cellS96_3 HGz32
                    have hcz32_4 := cellS96_4 HGz32
                    have hfz32_1 := bfz HGz32 1
                    have hfz32_2 := bfz HGz32 2
                    have hfz32_3 := bfz HGz32 3
                    have hfz32_4 := bfz HGz32 4
                    clear HGz32 hgz32
                    go_wp2
                    go_ret
                    exact ⟨by first | rfl | (simp [errW_none, errW_some] <;> rfl) | (simp [*, errW_none, errW_some] <;> rfl), by repeat (first | (with_reducible first | exact HI0.out | apply IsS96.alloc | apply IsS96.drewN | apply IsS96.drew | apply IsS96.set_1 | apply IsS96.set_2 | apply IsS96.set_3 | apply IsS96.set_4) | exact HI0.out), by repeat (first | (with_reducible first | exact HB.out | apply bal | apply pbdN | apply bdr1 | refine below_set ?_ (IsS96.ge HI0.out)) | exact HB.out), by repeat (first | (with_reducible first | exact HK.out | apply KeepBut.set_ | apply kdrN | apply keep_drew | apply kal) | exact HK.out)⟩
   ·rw [if_neg c2] at H
    have c2b0 : decide (x4_1 < 4) = false := decide_eq_false c2
    clear c2
    simp only [Option.some.injEq, Prod.mk.injEq] at H
    obtain ⟨rfl, rfl, rfl, rfl, rfl⟩ := H
    go_wp2
    go_ret
    exact ⟨by first | rfl | (simp [errW_none, errW_some] <;> rfl) | (simp [*, errW_none, errW_some] <;> rfl), by repeat (first | (with_reducible first | exact HI0.out | apply IsS96.alloc | apply IsS96.drewN | apply IsS96.drew | apply IsS96.set_1 | apply IsS96.set_2 | apply IsS96.set_3 | apply IsS96.set_4) | exact HI0.out), by repeat (first | (with_reducible first | exact HB.out | apply bal | apply pbdN | apply bdr1 | refine below_set ?_ (IsS96.ge HI0.out)) | exact HB.out), by repeat (first | (with_reducible first | exact HK.out | apply KeepBut.set_ | apply kdrN | apply keep_drew | apply kal) | exact HK.out)⟩
end Go.Proofs.YteighppcdpaekaaDoor.P
end
