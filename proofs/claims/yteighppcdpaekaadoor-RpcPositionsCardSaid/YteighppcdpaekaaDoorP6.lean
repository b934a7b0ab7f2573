/- Walks and words of this session, put together by a program of this session (pack.py). Conditions: as each text says. -/
import Derived.Test.YteighppcdpaekaaDoorP2
import Derived.Test.YteighppcdpaekaaDoorP4
import Derived.Test.YteighppcdpaekaaDoorP5
set_option linter.unusedVariables false
set_option linter.unusedSimpArgs false
section
namespace Go.Proofs.YteighppcdpaekaaDoor.P
open Go.RowKit Go.Proofs.YteighppcdpaekaaDoorW.PrintWords Go.Proofs.YteighppcdpaekaaDoorW.PrintLast Go.Proofs.YteighppcdpaekaaDoorW.PrintMore
attribute [local go_sem] max2_int min2_int max_two min_two max_three min_three max_four min_four
set_option linter.unusedVariables false
set_option linter.unusedSimpArgs false
mutual
def rR_second.j0 : Nat → Int → Int → Bool → List Int → Int → Int → Int → Int → Option (Int × Int × Int × Int × Int)
 | 0, _, _, _, _, _, _, _, _ => none
 | k + 1, x1, x2, x32, x1000, x1001, x1002, x1003, x1004 => if x32 = true then ((rR_fail.f x1000 x1001 x1002 x1003 x1004 6 x1).bind fun bt594 => (rR_second.j1 k x1 x2 x1000 bt594.1 bt594.2.1 bt594.2.2.1 bt594.2.2.2)) else (rR_second.j1 k x1 x2 x1000 x1001 x1002 x1003 x1004)
def rR_second.j1 : Nat → Int → Int → List Int → Int → Int → Int → Int → Option (Int × Int × Int × Int × Int)
 | 0, _, _, _, _, _, _, _ => none
 | k + 1, x1, x2, x1000, x1001, x1002, x1003, x1004 => if x1003 = 0 then ((rR_hex.f k x1000 (wrap64 (x1001 + 1)) x1002 x1003 x1004).bind fun bt598 => (if bt598.2.2.2.1 = 0 then (if bt598.1 < 56320 then ((rR_fail.f x1000 bt598.2.1 bt598.2.2.1 bt598.2.2.2.1 bt598.2.2.2.2 6 x1).bind fun bt603 => (some (wrap64 ((wrap64 ((wrap64 (65536 + (wrap64 ((wrap64 (x2 - 55296)) * 1024)))) + bt598.1)) - 56320), bt603.1, bt603.2.1, bt603.2.2.1, bt603.2.2.2))) else (if bt598.1 > 57343 then ((rR_fail.f x1000 bt598.2.1 bt598.2.2.1 bt598.2.2.2.1 bt598.2.2.2.2 6 x1).bind fun bt607 => (some (wrap64 ((wrap64 ((wrap64 (65536 + (wrap64 ((wrap64 (x2 - 55296)) * 1024)))) + bt598.1)) - 56320), bt607.1, bt607.2.1, bt607.2.2.1, bt607.2.2.2))) else (some (wrap64 ((wrap64 ((wrap64 (65536 + (wrap64 ((wrap64 (x2 - 55296)) * 1024)))) + bt598.1)) - 56320), bt598.2.1, bt598.2.2.1, bt598.2.2.2.1, bt598.2.2.2.2)))) else (some (wrap64 ((wrap64 ((wrap64 (65536 + (wrap64 ((wrap64 (x2 - 55296)) * 1024)))) + bt598.1)) - 56320), bt598.2.1, bt598.2.2.1, bt598.2.2.2.1, bt598.2.2.2.2)))) else (some (0, x1001, x1002, x1003, x1004))
end
def rR_second.f (k : Nat) (s0_0 : List Int) (s0_1 : Int) (s0_2 : Int) (s0_3 : Int) (s0_4 : Int) (a1 : Int) (a2 : Int) : Option (Int × Int × Int × Int × Int) := (rR_see.f s0_0 s0_1 s0_2 s0_3 s0_4).bind fun bt580 => (if bt580.1 = 92 then ((rR_peek.f s0_0 (wrap64 (bt580.2.1 + 1)) bt580.2.2.1 bt580.2.2.2.1 bt580.2.2.2.2).bind fun bt589 => (if bt589.2.2.2.1 = 0 then (rR_second.j0 k a1 a2 (bt589.1 != 117) s0_0 bt589.2.1 bt589.2.2.1 bt589.2.2.2.1 bt589.2.2.2.2) else (rR_second.j0 k a1 a2 false s0_0 bt589.2.1 bt589.2.2.1 bt589.2.2.2.1 bt589.2.2.2.2))) else ((rR_fail.f s0_0 bt580.2.1 bt580.2.2.1 bt580.2.2.2.1 bt580.2.2.2.2 6 a1).bind fun bt585 => (some (0, bt585.1, bt585.2.1, bt585.2.2.1, bt585.2.2.2))))
set_option maxHeartbeats 8000000 in
set_option maxRecDepth 100000 in
theorem rR_second.calls (k : Nat) (g : Nat) (s0_0 : List Int) (s0_1 : Int) (s0_2 : Int) (s0_3 : Int) (s0_4 : Int) (a1 : Int) (a2 : Int) (r1 : Int) (r2 : Int) (r3 : Int) (r4 : Int) (r5 : Int) (w0 w : World) (hI : IsS96 w0 w g s0_0 s0_1 s0_2 s0_3 s0_4) (hB : Below w0.heap.size w0 w) (h : rR_second.f k s0_0 s0_1 s0_2 s0_3 s0_4 a1 a2 = some (r1, r2, r3, r4, r5)) :
  Calls Tryd.prog 108 #[.pointer (some ⟨g, 0, none⟩), .int .i64 a1, .int .i64 a2] w fun e w' => e = .returned (.int .i64 r1) ∧ IsS96 w0 w' g s0_0 r2 r3 r4 r5 ∧ Below w0.heap.size w0 w' ∧ KeepBut w w' g none := by
 have HI0 := Aside0.mk hI
 have HK := Aside0.mk (KeepBut.refl w g none)
 have HL := Aside0.mk hB.size
 clear hI
 have HW0 := Aside0.mk hB.size
 have HB := Aside0.mk hB
 clear hB
 have H : ((rR_see.f s0_0 s0_1 s0_2 s0_3 s0_4).bind fun bt580 => (if bt580.1 = 92 then ((rR_peek.f s0_0 (wrap64 (bt580.2.1 + 1)) bt580.2.2.1 bt580.2.2.2.1 bt580.2.2.2.2).bind fun bt589 => (if bt589.2.2.2.1 = 0 then (rR_second.j0 k a1 a2 (bt589.1 != 117) s0_0 bt589.2.1 bt589.2.2.1 bt589.2.2.2.1 bt589.2.2.2.2) else (rR_second.j0 k a1 a2 false s0_0 bt589.2.1 bt589.2.2.1 bt589.2.2.2.1 bt589.2.2.2.2))) else ((rR_fail.f s0_0 bt580.2.1 bt580.2.2.1 bt580.2.2.2.1 bt580.2.2.2.2 6 a1).bind fun bt585 => (some (0, bt585.1, bt585.2.1, bt585.2.2.1, bt585.2.2.2))))) = some (r1, r2, r3, r4, r5) := h
 clear h
 replace H := Option.bind_eq_some_iff.mp H
 obtain ⟨⟨t580, t581, t582, t583, t584⟩, A40, H⟩ := H
 replace H : (if t580 = 92 then ((rR_peek.f s0_0 (wrap64 (t581 + 1)) t582 t583 t584).bind fun bt589 => (if bt589.2.2.2.1 = 0 then (rR_second.j0 k a1 a2 (bt589.1 != 117) s0_0 bt589.2.1 bt589.2.2.1 bt589.2.2.2.1 bt589.2.2.2.2) else (rR_second.j0 k a1 a2 false s0_0 bt589.2.1 bt589.2.2.1 bt589.2.2.2.1 bt589.2.2.2.2))) else ((rR_fail.f s0_0 t581 t582 t583 t584 6 a1).bind fun bt585 => (some (0, bt585.1, bt585.2.1, bt585.2.2.1, bt585.2.2.2)))) = some (r1, r2, r3, r4, r5) := H
 have A4 := Aside0.mk A40
 clear A40
 by_cases c5 : t580 = 92
 ·rw [if_pos c5] at H
  have c5b0 : (t580 == 92) = true := beq_iff_eq.mpr c5
  have c5b1 : (t580 != 92) = false := bne_eq_false_iff_eq.mpr c5
  clear c5
  replace H := Option.bind_eq_some_iff.mp H
  obtain ⟨⟨t589, t590, t591, t592, t593⟩, A60, H⟩ := H
  replace H : (if t592 = 0 then (rR_second.j0 k a1 a2 (t589 != 117) s0_0 t590 t591 t592 t593) else (rR_second.j0 k a1 a2 false s0_0 t590 t591 t592 t593)) = some (r1, r2, r3, r4, r5) := H
  have A6 := Aside0.mk A60
  clear A60
  have HC7 := Aside0.mk H
  clear H
  go_enter Tryd.func108, Tryd.ntmps108
  go_upto_region 6 with (first | ((with_reducible refine gate_callee (f := 64) rfl ?_); refine goesL_ (some 10) rfl rfl Tryd.func64 (by kernel_rfl) rfl #[.pointer (some ⟨g, 0, none⟩)] rfl (by (try simp only [List.map_toArray, List.map_cons, List.map_nil]); first | done | rfl | (simp only [List.length_drop, List.length_take]; rfl)) ?_; (with_reducible refine (rR_see.calls g s0_0 s0_1 s0_2 s0_3 s0_4 t580 t581 t582 t583 t584 w0 _ ?side1 ?side2 A4.out).mono ?_); (case side1 => repeat (first | (with_reducible first | exact HI0.out | apply IsS96.alloc | apply IsS96.drewN | apply IsS96.drew | apply IsS96.set_1 | apply IsS96.set_2 | apply IsS96.set_3 | apply IsS96.set_4) | exact HI0.out)); (case side2 => repeat (first | (with_reducible first | exact HB.out | apply bal | apply pbdN | apply bdr1 | refine below_set ?_ (IsS96.ge HI0.out)) | exact HB.out)); rintro e w8 ⟨rfl, hi, hb, hk⟩; refine ⟨_, rfl, ?_⟩; have n0_ := Aside0.mk (KeepBut.trans (by repeat (first | (with_reducible first | exact HK.out | apply KeepBut.set_ | apply kdrN | apply keep_drew | apply kal) | exact HK.out)) hk (.inl rfl)); have n1_ := Aside0.mk (hb); have n2_ := Aside0.mk (hi); clear HK; clear HB; clear HI0; have HK := n0_; have HB := n1_; have HI0 := n2_; clear n0_ n1_ n2_; (try clear hb); (try clear hb2); (try clear hk); (try clear hi); obtain ⟨ASz9_0, cSz9_0, HGz9, hgz9, HSz9_0⟩ := HI0.out; have hcz9_0 := cellS96_0 HGz9; have hcz9_1 := cellS96_1 HGz9; have hcz9_2 := cellS96_2 HGz9; have hcz9_3 := cellS96_3 HGz9; have hcz9_4 := cellS96_4 HGz9; have hfz9_1 := bfz HGz9 1; have hfz9_2 := bfz HGz9 2; have hfz9_3 := bfz HGz9 3; have hfz9_4 := bfz HGz9 4; clear HGz9 hgz9) | ((with_reducible refine gate_callee (f := 65) rfl ?_); refine goesL_ (some 23) rfl rfl Tryd.func65 (by kernel_rfl) rfl #[.pointer (some ⟨g, 0, none⟩)] rfl (by (try simp only [List.map_toArray, List.map_cons, List.map_nil]); first | done | rfl | (simp only [List.length_drop, List.length_take]; rfl)) ?_; (with_reducible refine (rR_peek.calls g s0_0 (wrap64 (t581 + 1)) t582 t583 t584 t589 t590 t591 t592 t593 w0 _ ?side1 ?side2 A6.out).mono ?_); (case side1 => repeat (first | (with_reducible first | exact HI0.out | apply IsS96.alloc | apply IsS96.drewN | apply IsS96.drew | apply IsS96.set_1 | apply IsS96.set_2 | apply IsS96.set_3 | apply IsS96.set_4) | exact HI0.out)); (case side2 => repeat (first | (with_reducible first | exact HB.out | apply bal | apply pbdN | apply bdr1 | refine below_set ?_ (IsS96.ge HI0.out)) | exact HB.out)); rintro e w10 ⟨rfl, hi, hb, hk⟩; refine ⟨_, rfl, ?_⟩; have n0_ := Aside0.mk (KeepBut.trans (by repeat (first | (with_reducible first | exact HK.out | apply KeepBut.set_ | apply kdrN | apply keep_drew | apply kal) | exact HK.out)) hk (.inl rfl)); have n1_ := Aside0.mk (hb); have n2_ := Aside0.mk (hi); clear HK; clear HB; clear HI0; have HK := n0_; have HB := n1_; have HI0 := n2_; clear n0_ n1_ n2_; (try clear hb); (try clear hb2); (try clear hk); (try clear hi)))
  (try simp only [Act.put, List.setIfInBounds_toArray, List.set_cons_zero, List.set_cons_succ])
  go_cut [32] (fun v32 wc => ∃ (kq : Nat) (x32_6 : Bool), v32 = .bool x32_6 ∧ Aside0 (rR_second.j0 kq a1 a2 x32_6 s0_0 t590 t591 t592 t593 = some (r1, r2, r3, r4, r5)) ∧ Aside0 (kq ≤ k) ∧ Aside0 (IsS96 w0 wc g s0_0 t590 t591 t592 t593) ∧ Aside0 (KeepBut w wc g none) ∧ Aside0 (Below w0.heap.size w0 wc))
  case first =>
   have H := HC7.out
   clear HC7
   by_cases c11 : t592 = 0
   ·rw [if_pos c11] at H
    have c11b0 : (t592 == 0) = true := beq_iff_eq.mpr c11
    have c11b1 : (t592 != 0) = false := bne_eq_false_iff_eq.mpr c11
    clear c11
    (first | rw [c11b0] | (simp only [i64_w, i32_w]; rw [c11b0]) | skip)
    have H' := Aside0.mk H
    clear H
    obtain ⟨ASz12_0, cSz12_0, HGz12, hgz12, HSz12_0⟩ := HI0.out
    have hcz12_0 := cellS96_0 HGz12
    have hcz12_1 := cellS96_1 HGz12
    have hcz12_2 := cellS96_2 HGz12
    have hcz12_3 := cellS96_3 HGz12
    have hcz12_4 := cellS96_4 HGz12
    have hfz12_1 := bfz HGz12 1
    have hfz12_2 := bfz HGz12 2
    have hfz12_3 := bfz HGz12 3
    have hfz12_4 := bfz HGz12 4
    clear HGz12 hgz12
    go_wp2
    go_meet
    case rel => exact ⟨_, ((t589 != 117)), (by first | rfl | (simp; done) | (simp [*]; done)), H', ⟨by first | omega | exact Nat.le_refl _⟩, ⟨by repeat (first | (with_reducible first | exact HI0.out | apply IsS96.alloc | apply IsS96.drewN | apply IsS96.drew | apply IsS96.set_1 | apply IsS96.set_2 | apply IsS96.set_3 | apply IsS96.set_4) | exact HI0.out)⟩, ⟨by repeat (first | (with_reducible first | exact HK.out | apply KeepBut.set_ | apply kdrN | apply keep_drew | apply kal) | exact HK.out)⟩, ⟨by repeat (first | (with_reducible first | exact HB.out | apply bal | apply pbdN | apply bdr1 | refine below_set ?_ (IsS96.ge HI0.out)) | exact HB.out)⟩⟩
   ·rw [if_neg c11] at H
    have c11b0 : (t592 == 0) = false := beq_eq_false_iff_ne.mpr c11
    have c11b1 : (t592 != 0) = true := bne_iff_ne.mpr c11
    (first | rw [c11b0] | (simp only [i64_w, i32_w]; rw [c11b0]) | skip)
    have H' := Aside0.mk H
    clear H
    obtain ⟨ASz13_0, cSz13_0, HGz13, hgz13, HSz13_0⟩ := HI0.out
    have hcz13_0 := cellS96_0 HGz13
    have hcz13_1 := cellS96_1 HGz13
    have hcz13_2 := cellS96_2 HGz13
    have hcz13_3 := cellS96_3 HGz13
    have hcz13_4 := cellS96_4 HGz13
    have hfz13_1 := bfz HGz13 1
    have hfz13_2 := bfz HGz13 2
    have hfz13_3 := bfz HGz13 3
    have hfz13_4 := bfz HGz13 4
    clear HGz13 hgz13
    go_wp2
    go_meet
    case rel => exact ⟨_, (false), (by first | rfl | (simp; done) | (simp [*]; done)), H', ⟨by first | omega | exact Nat.le_refl _⟩, ⟨by repeat (first | (with_reducible first | exact HI0.out | apply IsS96.alloc | apply IsS96.drewN | apply IsS96.drew | apply IsS96.set_1 | apply IsS96.set_2 | apply IsS96.set_3 | apply IsS96.set_4) | exact HI0.out)⟩, ⟨by repeat (first | (with_reducible first | exact HK.out | apply KeepBut.set_ | apply kdrN | apply keep_drew | apply kal) | exact HK.out)⟩, ⟨by repeat (first | (with_reducible first | exact HB.out | apply bal | apply pbdN | apply bdr1 | refine below_set ?_ (IsS96.ge HI0.out)) | exact HB.out)⟩⟩
  case rest =>
   clear HC7
   try clear c1; try clear p2; try clear c5; try clear c5b0; try clear c5b1; try clear c6; try clear p6; try clear c10; try clear c11; try clear c11b0; try clear c11b1; try clear hcz12_0; try clear hcz12_1; try clear hcz12_2; try clear hcz12_3; try clear hcz12_4; try clear hcz13_0; try clear hcz13_1; try clear hcz13_2; try clear hcz13_3; try clear hcz13_4; try clear hcz9_0; try clear hcz9_1; try clear hcz9_2; try clear hcz9_3; try clear hcz9_4; try clear hfz12_1; try clear hfz12_2; try clear hfz12_3; try clear hfz12_4; try clear hfz13_1; try clear hfz13_2; try clear hfz13_3; try clear hfz13_4; try clear hfz9_1; try clear hfz9_2; try clear hfz9_3; try clear hfz9_4
   obtain ⟨kq, x32_6, rfl, HA, HJ6, HI0, HK, HB⟩ := hcut
   cases kq with
   | zero => exact absurd HA.out (by simp [rR_second.j0])
   | succ kj6 =>
    have H := HA.out
    clear HA
    simp only [rR_second.j0] at H
    have HC14 := Aside0.mk H
    clear H
    go_upto_if 32 with (fail)
    go_cut [] (fun wc => ∃ (kq : Nat) (x1001_13 : Int) (x1002_13 : Int) (x1003_13 : Int) (x1004_13 : Int), Aside0 (rR_second.j1 kq a1 a2 s0_0 x1001_13 x1002_13 x1003_13 x1004_13 = some (r1, r2, r3, r4, r5)) ∧ Aside0 (kq ≤ kj6) ∧ Aside0 (IsS96 w0 wc g s0_0 x1001_13 x1002_13 x1003_13 x1004_13) ∧ Aside0 (KeepBut w wc g none) ∧ Aside0 (Below w0.heap.size w0 wc))
    case first =>
     have H := HC14.out
     clear HC14
     by_cases c15 : x32_6 = true
     ·subst c15
      have H1 : ((rR_fail.f s0_0 t590 t591 t592 t593 6 a1).bind fun bt594 => (rR_second.j1 kj6 a1 a2 s0_0 bt594.1 bt594.2.1 bt594.2.2.1 bt594.2.2.2)) = some (r1, r2, r3, r4, r5) := by rw [if_pos rfl] at H; exact H
      clear H
      have H := H1
      clear H1
      replace H := Option.bind_eq_some_iff.mp H
      obtain ⟨⟨t594, t595, t596, t597⟩, A160, H⟩ := H
      replace H : (rR_second.j1 kj6 a1 a2 s0_0 t594 t595 t596 t597) = some (r1, r2, r3, r4, r5) := H
      have A16 := Aside0.mk A160
      clear A160
      have H' := Aside0.mk H
      clear H
      go_wp2_with (first | ((with_reducible refine gate_callee (f := 46) rfl ?_); refine goesL_ (some 35) rfl rfl Tryd.func46 (by kernel_rfl) rfl #[.pointer (some ⟨g, 0, none⟩), .int .i64 6, .int .i64 a1] rfl (by (try simp only [List.map_toArray, List.map_cons, List.map_nil]); first | done | rfl | (simp only [List.length_drop, List.length_take]; rfl)) ?_; (with_reducible refine (rR_fail.calls g s0_0 t590 t591 t592 t593 6 a1 t594 t595 t596 t597 w0 _ ?side1 ?side2 A16.out).mono ?_); (case side1 => repeat (first | (with_reducible first | exact HI0.out | apply IsS96.alloc | apply IsS96.drewN | apply IsS96.drew | apply IsS96.set_1 | apply IsS96.set_2 | apply IsS96.set_3 | apply IsS96.set_4) | exact HI0.out)); (case side2 => repeat (first | (with_reducible first | exact HB.out | apply bal | apply pbdN | apply bdr1 | refine below_set ?_ (IsS96.ge HI0.out)) | exact HB.out)); rintro e w17 ⟨rfl, hi, hb, hk⟩; refine ⟨_, rfl, ?_⟩; have n0_ := Aside0.mk (KeepBut.trans (by repeat (first | (with_reducible first | exact HK.out | apply KeepBut.set_ | apply kdrN | apply keep_drew | apply kal) | exact HK.out)) hk (.inl rfl)); have n1_ := Aside0.mk (hb); have n2_ := Aside0.mk (hi); clear HK; clear HB; clear HI0; have HK := n0_; have HB := n1_; have HI0 := n2_; clear n0_ n1_ n2_; (try clear hb); (try clear hb2); (try clear hk); (try clear hi)))
      go_meet
      case rel => exact ⟨_, (t594), (t595), (t596), (t597), H', ⟨by have := HJ6.out; first | omega | exact Nat.le_refl _⟩, ⟨by repeat (first | (with_reducible first | exact HI0.out | apply IsS96.alloc | apply IsS96.drewN | apply IsS96.drew | apply IsS96.set_1 | apply IsS96.set_2 | apply IsS96.set_3 | apply IsS96.set_4) | exact HI0.out)⟩, ⟨by repeat (first | (with_reducible first | exact HK.out | apply KeepBut.set_ | apply kdrN | apply keep_drew | apply kal) | exact HK.out)⟩, ⟨by repeat (first | (with_reducible first | exact HB.out | apply bal | apply pbdN | apply bdr1 | refine below_set ?_ (IsS96.ge HI0.out)) | exact HB.out)⟩⟩
     ·replace c15 := Bool.eq_false_iff.mpr c15
      subst c15
      have H1 : (rR_second.j1 kj6 a1 a2 s0_0 t590 t591 t592 t593) = some (r1, r2, r3, r4, r5) := by rw [if_neg (show ¬ (false = true) by decide)] at H; exact H
      clear H
      have H := H1
      clear H1
      have H' := Aside0.mk H
      clear H
      go_wp2
      go_meet
      case rel => exact ⟨_, (t590), (t591), (t592), (t593), H', ⟨by have := HJ6.out; first | omega | exact Nat.le_refl _⟩, ⟨by repeat (first | (with_reducible first | exact HI0.out | apply IsS96.alloc | apply IsS96.drewN | apply IsS96.drew | apply IsS96.set_1 | apply IsS96.set_2 | apply IsS96.set_3 | apply IsS96.set_4) | exact HI0.out)⟩, ⟨by repeat (first | (with_reducible first | exact HK.out | apply KeepBut.set_ | apply kdrN | apply keep_drew | apply kal) | exact HK.out)⟩, ⟨by repeat (first | (with_reducible first | exact HB.out | apply bal | apply pbdN | apply bdr1 | refine below_set ?_ (IsS96.ge HI0.out)) | exact HB.out)⟩⟩
    case rest =>
     clear HC14
     try clear c1; try clear p2; try clear c4; try clear c5; try clear c5b0; try clear c5b1; try clear c6; try clear p6; try clear c10; try clear c11; try clear c11b0; try clear c11b1; try clear c15; try clear hcz12_0; try clear hcz12_1; try clear hcz12_2; try clear hcz12_3; try clear hcz12_4; try clear hcz13_0; try clear hcz13_1; try clear hcz13_2; try clear hcz13_3; try clear hcz13_4; try clear hcz9_0; try clear hcz9_1; try clear hcz9_2; try clear hcz9_3; try clear hcz9_4; try clear hfz12_1; try clear hfz12_2; try clear hfz12_3; try clear hfz12_4; try clear hfz13_1; try clear hfz13_2; try clear hfz13_3; try clear hfz13_4; try clear hfz9_1; try clear hfz9_2; try clear hfz9_3; try clear hfz9_4; try clear p2; try clear p6
     obtain ⟨kq, x1001_13, x1002_13, x1003_13, x1004_13, HA, HJ13, HI0, HK, HB⟩ := hcut
     cases kq with
     | zero => exact absurd HA.out (by simp [rR_second.j1])
     | succ kj13 =>
      have H := HA.out
      clear HA
      simp only [rR_second.j1] at H
      by_cases c18 : x1003_13 = 0
      ·rw [if_pos c18] at H
       have c18b0 : (x1003_13 == 0) = true := beq_iff_eq.mpr c18
       have c18b1 : (x1003_13 != 0) = false := bne_eq_false_iff_eq.mpr c18
       clear c18
       replace H := Option.bind_eq_some_iff.mp H
       obtain ⟨⟨t598, t599, t600, t601, t602⟩, A190, H⟩ := H
       replace H : (if t601 = 0 then (if t598 < 56320 then ((rR_fail.f s0_0 t599 t600 t601 t602 6 a1).bind fun bt603 => (some (wrap64 ((wrap64 ((wrap64 (65536 + (wrap64 ((wrap64 (a2 - 55296)) * 1024)))) + t598)) - 56320), bt603.1, bt603.2.1, bt603.2.2.1, bt603.2.2.2))) else (if t598 > 57343 then ((rR_fail.f s0_0 t599 t600 t601 t602 6 a1).bind fun bt607 => (some (wrap64 ((wrap64 ((wrap64 (65536 + (wrap64 ((wrap64 (a2 - 55296)) * 1024)))) + t598)) - 56320), bt607.1, bt607.2.1, bt607.2.2.1, bt607.2.2.2))) else (some (wrap64 ((wrap64 ((wrap64 (65536 + (wrap64 ((wrap64 (a2 - 55296)) * 1024)))) + t598)) - 56320), t599, t600, t601, t602)))) else (some (wrap64 ((wrap64 ((wrap64 (65536 + (wrap64 ((wrap64 (a2 - 55296)) * 1024)))) + t598)) - 56320), t599, t600, t601, t602))) = some (r1, r2, r3, r4, r5) := H
       have A19 := Aside0.mk A190
       clear A190
       by_cases c20 : t601 = 0
       ·rw [if_pos c20] at H
        have c20b0 : (t601 == 0) = true := beq_iff_eq.mpr c20
        have c20b1 : (t601 != 0) = false := bne_eq_false_iff_eq.mpr c20
        clear c20
        by_cases c21 : t598 < 56320
        ·rw [if_pos c21] at H
         have c21b0 : decide (t598 < 56320) = true := decide_eq_true c21
         clear c21
         replace H := Option.bind_eq_some_iff.mp H
         obtain ⟨⟨t603, t604, t605, t606⟩, A220, H⟩ := H
         replace H : (some (wrap64 ((wrap64 ((wrap64 (65536 + (wrap64 ((wrap64 (a2 - 55296)) * 1024)))) + t598)) - 56320), t603, t604, t605, t606)) = some (r1, r2, r3, r4, r5) := H
         have A22 := Aside0.mk A220
         clear A220
         simp only [Option.some.injEq, Prod.mk.injEq] at H
         obtain ⟨rfl, rfl, rfl, rfl, rfl⟩ := H
         obtain ⟨ASz23_0, cSz23_0, HGz23, hgz23, HSz23_0⟩ := HI0.out
         have hcz23_0 := cellS96_0 HGz23
         have hcz23_1 := cellS96_1 HGz23
         have hcz23_2 := cellS96_2 HGz23
         have hcz23_3 := cellS96_3 HGz23
         have hcz23_4 := cellS96_4 HGz23
         have hfz23_1 := bfz HGz23 1
         have hfz23_2 := bfz HGz23 2
         have hfz23_3 := bfz HGz23 3
         have hfz23_4 := bfz HGz23 4
         clear HGz23 hgz23
         go_wp2_with (first | ((with_reducible refine gate_callee (f := 107) rfl ?_); refine goesL_ (some 49) rfl rfl Tryd.func107 (by kernel_rfl) rfl #[.pointer (some ⟨g, 0, none⟩)] rfl (by (try simp only [List.map_toArray, List.map_cons, List.map_nil]); first | done | rfl | (simp only [List.length_drop, List.length_take]; rfl)) ?_; (with_reducible refine (rR_hex.calls kj13 g s0_0 (wrap64 (x1001_13 + 1)) x1002_13 x1003_13 x1004_13 t598 t599 t600 t601 t602 w0 _ ?side1 ?side2 A19.out).mono ?_); (case side1 => repeat (first | (with_reducible first | exact HI0.out | apply IsS96.alloc | apply IsS96.drewN | apply IsS96.drew | apply IsS96.set_1 | apply IsS96.set_2 | apply IsS96.set_3 | apply IsS96.set_4) | exact HI0.out)); (case side2 => repeat (first | (with_reducible first | exact HB.out | apply bal | apply pbdN | apply bdr1 | refine below_set ?_ (IsS96.ge HI0.out)) | exact HB.out)); rintro e w24 ⟨rfl, hi, hb, hk⟩; refine ⟨_, rfl, ?_⟩; have n0_ := Aside0.mk (KeepBut.trans (by repeat (first | (with_reducible first | exact HK.out | apply KeepBut.set_ | apply kdrN | apply keep_drew | apply kal) | exact HK.out)) hk (.inl rfl)); have n1_ := Aside0.mk (hb); have n2_ := Aside0.mk (hi); clear HK; clear HB; clear HI0; have HK := n0_; have HB := n1_; have HI0 := n2_; clear n0_ n1_ n2_; (try clear hb); (try clear hb2); (try clear hk); (try clear hi); obtain ⟨ASz25_0, cSz25_0, HGz25, hgz25, HSz25_0⟩ := HI0.out; have hcz25_0 := cellS96_0 HGz25; have hcz25_1 := cellS96_1 HGz25; have hcz25_2 := cellS96_2 HGz25; have hcz25_3 := cellS96_3 HGz25; have hcz25_4 := cellS96_4 HGz25; have hfz25_1 := bfz HGz25 1; have hfz25_2 := bfz HGz25 2; have hfz25_3 := bfz HGz25 3; have hfz25_4 := bfz HGz25 4; clear HGz25 hgz25) | ((with_reducible refine gate_callee (f := 46) rfl ?_); refine goesL_ (some 65) rfl rfl Tryd.func46 (by kernel_rfl) rfl #[.pointer (some ⟨g, 0, none⟩), .int .i64 6, .int .i64 a1] rfl (by (try simp only [List.map_toArray, List.map_cons, List.map_nil]); first | done | rfl | (simp only [List.length_drop, List.length_take]; rfl)) ?_; (with_reducible refine (rR_fail.calls g s0_0 t599 t600 t601 t602 6 a1 t603 t604 t605 t606 w0 _ ?side1 ?side2 A22.out).mono ?_); (case side1 => repeat (first | (with_reducible first | exact HI0.out | apply IsS96.alloc | apply IsS96.drewN | apply IsS96.drew | apply IsS96.set_1 | apply IsS96.set_2 | apply IsS96.set_3 | apply IsS96.set_4) | exact HI0.out)); (case side2 => repeat (first | (with_reducible first | exact HB.out | apply bal | apply pbdN | apply bdr1 | refine below_set ?_ (IsS96.ge HI0.out)) | exact HB.out)); rintro e w26 ⟨rfl, hi, hb, hk⟩; refine ⟨_, rfl, ?_⟩; have n0_ := Aside0.mk (KeepBut.trans (by repeat (first | (with_reducible first | exact HK.out | apply KeepBut.set_ | apply kdrN | apply keep_drew | apply kal) | exact HK.out)) hk (.inl rfl)); have n1_ := Aside0.mk (hb); have n2_ := Aside0.mk (hi); clear HK; clear HB; clear HI0; have HK := n0_; have HB := n1_; have HI0 := n2_; clear n0_ n1_ n2_; (try clear hb); (try clear hb2); (try clear hk); (try clear hi)))
         go_ret
         exact ⟨by first | rfl | (simp [errW_none, errW_some] <;> rfl) | (simp [*, errW_none, errW_some] <;> rfl), by repeat (first | (with_reducible first | exact HI0.out | apply IsS96.alloc | apply IsS96.drewN | apply IsS96.drew | apply IsS96.set_1 | apply IsS96.set_2 | apply IsS96.set_3 | apply IsS96.set_4) | exact HI0.out), by repeat (first | (with_reducible first | exact HB.out | apply bal | apply pbdN | apply bdr1 | refine below_set ?_ (IsS96.ge HI0.out)) | exact HB.out), by repeat (first | (with_reducible first | exact HK.out | apply KeepBut.set_ | apply kdrN | apply keep_drew | apply kal) | exact HK.out)⟩
        ·rw [if_neg c21] at H
         have c21b0 : decide (t598 < 56320) = false := decide_eq_false c21
         clear c21
         by_cases c27 : t598 > 57343
         ·rw [if_pos c27] at H
          have c27b0 : decide (57343 < t598) = true := decide_eq_true c27
          clear c27
          replace H := Option.bind_eq_some_iff.mp H
          obtain ⟨⟨t607, t608, t609, t610⟩, A280, H⟩ := H
          replace H : (some (wrap64 ((wrap64 ((wrap64 (65536 + (wrap64 ((wrap64 (a2 - 55296)) * 1024)))) + t598)) - 56320), t607, t608, t609, t610)) = some (r1, r2, r3, r4, r5) := H
          have A28 := Aside0.mk A280
          clear A280
          simp only [Option.some.injEq, Prod.mk.injEq] at H
          obtain ⟨rfl, rfl, rfl, rfl, rfl⟩ := H
          obtain ⟨ASz29_0, cSz29_0, HGz29, hgz29, HSz29_0⟩ := HI0.out
          have hcz29_0 := cellS96_0 HGz29
          have hcz29_1 := cellS96_1 HGz29
          have hcz29_2 := cellS96_2 HGz29
          have hcz29_3 := cellS96_3 HGz29
          have hcz29_4 := cellS96_4 HGz29
          have hfz29_1 := bfz HGz29 1
          have hfz29_2 := bfz HGz29 2
          have hfz29_3 := bfz HGz29 3
          have hfz29_4 := bfz HGz29 4
          clear HGz29 hgz29
          go_wp2_with (first | ((with_reducible refine gate_callee (f := 107) rfl ?_); refine goesL_ (some 49) rfl rfl Tryd.func107 (by kernel_rfl) rfl #[.pointer (some ⟨g, 0, none⟩)] rfl (by (try simp only [List.map_toArray, List.map_cons, List.map_nil]); first | done | rfl | (simp only [List.length_drop, List.length_take]; rfl)) ?_; (with_reducible refine (rR_hex.calls kj13 g s0_0 (wrap64 (x1001_13 + 1)) x1002_13 x1003_13 x1004_13 t598 t599 t600 t601 t602 w0 _ ?side1 ?side2 A19.out).mono ?_); (case side1 => repeat (first | (with_reducible first | exact HI0.out | apply IsS96.alloc | apply IsS96.drewN | apply IsS96.drew | apply IsS96.set_1 | apply IsS96.set_2 | apply IsS96.set_3 | apply IsS96.set_4) | exact HI0.out)); (case side2 => repeat (first | (with_reducible first | exact HB.out | apply bal | apply pbdN | apply bdr1 | refine below_set ?_ (IsS96.ge HI0.out)) | exact HB.out)); rintro e w30 ⟨rfl, hi, hb, hk⟩; refine ⟨_, rfl, ?_⟩; have n0_ := Aside0.mk (KeepBut.trans (by repeat (first | (with_reducible first | exact HK.out | apply KeepBut.set_ | apply kdrN | apply keep_drew | apply kal) | exact HK.out)) hk (.inl rfl)); have n1_ := Aside0.mk (hb); have n2_ := Aside0.mk (hi); clear HK; clear HB; clear HI0; have HK := n0_; have HB := n1_; have HI0 := n2_; clear n0_ n1_ n2_; (try clear hb); (try clear hb2); (try clear hk); (try clear hi); obtain ⟨ASz31_0, cSz31_0, HGz31, hgz31, HSz31_0⟩ := HI0.out; have hcz31_0 := cellS96_0 HGz31; have hcz31_1 := cellS96_1 HGz31; have hcz31_2 := cellS96_2 HGz31; have hcz31_3 := cellS96_3 HGz31; have hcz31_4 := cellS96_4 HGz31; have hfz31_1 := bfz HGz31 1; have hfz31_2 := bfz HGz31 2; have hfz31_3 := bfz HGz31 3; have hfz31_4 := bfz HGz31 4; clear HGz31 hgz31) | ((with_reducible refine gate_callee (f := 46) rfl ?_); refine goesL_ (some 65) rfl rfl Tryd.func46 (by kernel_rfl) rfl #[.pointer (some ⟨g, 0, none⟩), .int .i64 6, .int .i64 a1] rfl (by (try simp only [List.map_toArray, List.map_cons, List.map_nil]); first | done | rfl | (simp only [List.length_drop, List.length_take]; rfl)) ?_; (with_reducible refine (rR_fail.calls g s0_0 t599 t600 t601 t602 6 a1 t607 t608 t609 t610 w0 _ ?side1 ?side2 A28.out).mono ?_); (case side1 => repeat (first | (with_reducible first | exact HI0.out | apply IsS96.alloc | apply IsS96.drewN | apply IsS96.drew | apply IsS96.set_1 | apply IsS96.set_2 | apply IsS96.set_3 | apply IsS96.set_4) | exact HI0.out)); (case side2 => repeat (first | (with_reducible first | exact HB.out | apply bal | apply pbdN | apply bdr1 | refine below_set ?_ (IsS96.ge HI0.out)) | exact HB.out)); rintro e w32 ⟨rfl, hi, hb, hk⟩; refine ⟨_, rfl, ?_⟩; have n0_ := Aside0.mk (KeepBut.trans (by repeat (first | (with_reducible first | exact HK.out | apply KeepBut.set_ | apply kdrN | apply keep_drew | apply kal) | exact HK.out)) hk (.inl rfl)); have n1_ := Aside0.mk (hb); have n2_ := Aside0.mk (hi); clear HK; clear HB; clear HI0; have HK := n0_; have HB := n1_; have HI0 := n2_; clear n0_ n1_ n2_; (try clear hb); (try clear hb2); (try clear hk); (try clear hi)))
          go_ret
          exact ⟨by first | rfl | (simp [errW_none, errW_some] <;> rfl) | (simp [*, errW_none, errW_some] <;> rfl), by repeat (first | (with_reducible first | exact HI0.out | apply IsS96.alloc | apply IsS96.drewN | apply IsS96.drew | apply IsS96.set_1 | apply IsS96.set_2 | apply IsS96.set_3 | apply IsS96.set_4) | exact HI0.out), by repeat (first | (with_reducible first | exact HB.out | apply bal | apply pbdN | apply bdr1 | refine below_set ?_ (IsS96.ge HI0.out)) | exact HB.out), by repeat (first | (with_reducible first | exact HK.out | apply KeepBut.set_ | apply kdrN | apply keep_drew | apply kal) | exact HK.out)⟩
         ·rw [if_neg c27] at H
          have c27b0 : decide (57343 < t598) = false := decide_eq_false c27
          clear c27
          simp only [Option.some.injEq, Prod.mk.injEq] at H
          obtain ⟨rfl, rfl, rfl, rfl, rfl⟩ := H
          obtain ⟨ASz33_0, cSz33_0, HGz33, hgz33, HSz33_0⟩ := HI0.out
          have hcz33_0 := cellS96_0 HGz33
          have hcz33_1 := cellS96_1 HGz33
          have hcz33_2 := cellS96_2 HGz33
          have hcz33_3 := cellS96_3 HGz33
          have hcz33_4 := cellS96_4 HGz33
          have hfz33_1 := bfz HGz33 1
          have hfz33_2 := bfz HGz33 2
          have hfz33_3 := bfz HGz33 3
          have hfz33_4 := bfz HGz33 4
          clear HGz33 hgz33
          go_wp2_with (first | ((with_reducible refine gate_callee (f := 107) rfl ?_); refine goesL_ (some 49) rfl rfl Tryd.func107 (by kernel_rfl) rfl #[.pointer (some ⟨g, 0, none⟩)] rfl (by (try simp only [List.map_toArray, List.map_cons, List.map_nil]); first | done | rfl | (simp only [List.length_drop, List.length_take]; rfl)) ?_; (with_reducible refine (rR_hex.calls kj13 g s0_0 (wrap64 (x1001_13 + 1)) x1002_13 x1003_13 x1004_13 t598 t599 t600 t601 t602 w0 _ ?side1 ?side2 A19.out).mono ?_); (case side1 => repeat (first | (with_reducible first | exact HI0.out | apply IsS96.alloc | apply IsS96.drewN | apply IsS96.drew | apply IsS96.set_1 | apply IsS96.set_2 | apply IsS96.set_3 | apply IsS96.set_4) | exact HI0.out)); (case side2 => repeat (first | (with_reducible first | exact HB.out | apply bal | apply pbdN | apply bdr1 | refine below_set ?_ (IsS96.ge HI0.out)) | exact HB.out)); rintro e w34 ⟨rfl, hi, hb, hk⟩; refine ⟨_, rfl, ?_⟩; have n0_ := Aside0.mk (KeepBut.trans (by repeat (first | (with_reducible first | exact HK.out | apply KeepBut.set_ | apply kdrN | apply keep_drew | apply kal) | exact HK.out)) hk (.inl rfl)); have n1_ := Aside0.mk (hb); have n2_ := Aside0.mk (hi); clear HK; clear HB; clear HI0; have HK := n0_; have HB := n1_; have HI0 := n2_; clear n0_ n1_ n2_; (try clear hb); (try clear hb2); (try clear hk); (try clear hi); obtain ⟨ASz35_0, cSz35_0, HGz35, hgz35, HSz35_0⟩ := HI0.out; have hcz35_0 := cellS96_0 HGz35; have hcz35_1 := cellS96_1 HGz35; have hcz35_2 := cellS96_2 HGz35; have hcz35_3 := cellS96_3 HGz35; have hcz35_4 := cellS96_4 HGz35; have hfz35_1 := bfz HGz35 1; have hfz35_2 := bfz HGz35 2; have hfz35_3 := bfz HGz35 3; have hfz35_4 := bfz HGz35 4; clear HGz35 hgz35))
          go_ret
          exact ⟨by first | rfl | (simp [errW_none, errW_some] <;> rfl) | (simp [*, errW_none, errW_some] <;> rfl), by repeat (first | (with_reducible first | exact HI0.out | apply IsS96.alloc | apply IsS96.drewN | apply IsS96.drew | apply IsS96.set_1 | apply IsS96.set_2 | apply IsS96.set_3 | apply IsS96.set_4) | exact HI0.out), by repeat (first | (with_reducible first | exact HB.out | apply bal | apply pbdN | apply bdr1 | refine below_set ?_ (IsS96.ge HI0.out)) | exact HB.out), by repeat (first | (with_reducible first | exact HK.out | apply KeepBut.set_ | apply kdrN | apply keep_drew | apply kal) | exact HK.out)⟩
       ·rw [if_neg c20] at H
        have c20b0 : (t601 == 0) = false := beq_eq_false_iff_ne.mpr c20
        have c20b1 : (t601 != 0) = true := bne_iff_ne.mpr c20
        simp only [Option.some.injEq, Prod.mk.injEq] at H
        obtain ⟨rfl, rfl, rfl, rfl, rfl⟩ := H
        obtain ⟨ASz36_0, cSz36_0, HGz36, hgz36, HSz36_0⟩ := HI0.out
        have hcz36_0 := cellS96_0 HGz36
        have hcz36_1 := cellS96_1 HGz36
        have hcz36_2 := cellS96_2 HGz36
        have hcz36_3 := cellS96_3 HGz36
        have hcz36_4 := cellS96_4 HGz36
        have hfz36_1 := bfz HGz36 1
        have hfz36_2 := bfz HGz36 2
        have hfz36_3 := bfz HGz36 3
        have hfz36_4 := bfz HGz36 4
        clear HGz36 hgz36
        go_wp2_with (first | ((with_reducible refine gate_callee (f := 107) rfl ?_); refine goesL_ (some 49) rfl rfl Tryd.func107 (by kernel_rfl) rfl #[.pointer (some ⟨g, 0, none⟩)] rfl (by (try simp only [List.map_toArray, List.map_cons, List.map_nil]); first | done | rfl | (simp only [List.length_drop, List.length_take]; rfl)) ?_; (with_reducible refine (rR_hex.calls kj13 g s0_0 (wrap64 (x1001_13 + 1)) x1002_13 x1003_13 x1004_13 t598 t599 t600 t601 t602 w0 _ ?side1 ?side2 A19.out).mono ?_); (case side1 => repeat (first | (with_reducible first | exact HI0.out | apply IsS96.alloc | apply IsS96.drewN | apply IsS96.drew | apply IsS96.set_1 | apply IsS96.set_2 | apply IsS96.set_3 | apply IsS96.set_4) | exact HI0.out)); (case side2 => repeat (first | (with_reducible first | exact HB.out | apply bal | apply pbdN | apply bdr1 | refine below_set ?_ (IsS96.ge HI0.out)) | exact HB.out)); rintro e w37 ⟨rfl, hi, hb, hk⟩; refine ⟨_, rfl, ?_⟩; have n0_ := Aside0.mk (KeepBut.trans (by repeat (first | (with_reducible first | exact HK.out | apply KeepBut.set_ | apply kdrN | apply keep_drew | apply kal) | exact HK.out)) hk (.inl rfl)); have n1_ := Aside0.mk (hb); have n2_ := Aside0.mk (hi); clear HK; clear HB; clear HI0; have HK := n0_; have HB := n1_; have HI0 := n2_; clear n0_ n1_ n2_; (try clear hb); (try clear hb2); (try clear hk); (try clear hi); obtain ⟨ASz38_0, cSz38_0, HGz38, hgz38, HSz38_0⟩ := HI0.out; have hcz38_0 := cellS96_0 HGz38; have hcz38_1 := cellS96_1 HGz38; have hcz38_2 := cellS96_2 HGz38; have hcz38_3 := cellS96_3 HGz38; have hcz38_4 := cellS96_4 HGz38; have hfz38_1 := bfz HGz38 1; have hfz38_2 := bfz HGz38 2; have hfz38_3 := bfz HGz38 3; have hfz38_4 := bfz HGz38 4; clear HGz38 hgz38))
        go_ret
        exact ⟨by first | rfl | (simp [errW_none, errW_some] <;> rfl) | (simp [*, errW_none, errW_some] <;> rfl), by repeat (first | (with_reducible first | exact HI0.out | apply IsS96.alloc | apply IsS96.drewN | apply IsS96.drew | apply IsS96.set_1 | apply IsS96.set_2 | apply IsS96.set_3 | apply IsS96.set_4) | exact HI0.out), by repeat (first | (with_reducible first | exact HB.out | apply bal | apply pbdN | apply bdr1 | refine below_set ?_ (IsS96.ge HI0.out)) | exact HB.out), by repeat (first | (with_reducible first | exact HK.out | apply KeepBut.set_ | apply kdrN | apply keep_drew | apply kal) | exact HK.out)⟩
      ·rw [if_neg c18] at H
       have c18b0 : (x1003_13 == 0) = false := beq_eq_false_iff_ne.mpr c18
       have c18b1 : (x1003_13 != 0) = true := bne_iff_ne.mpr c18
       simp only [Option.some.injEq, Prod.mk.injEq] at H
       obtain ⟨rfl, rfl, rfl, rfl, rfl⟩ := H
       obtain ⟨ASz39_0, cSz39_0, HGz39, hgz39, HSz39_0⟩ := HI0.out
       have hcz39_0 := cellS96_0 HGz39
       have hcz39_1 := cellS96_1 HGz39
       have hcz39_2 := cellS96_2 HGz39
       have hcz39_3 := cellS96_3 HGz39
       have hcz39_4 := cellS96_4 HGz39
       have hfz39_1 := bfz HGz39 1
       have hfz39_2 := bfz HGz39 2
       have hfz39_3 := bfz HGz39 3
       have hfz39_4 := bfz HGz39 4
       clear HGz39 hgz39
       go_wp2
       go_ret
       exact ⟨by first | rfl | (simp [errW_none, errW_some] <;> rfl) | (simp [*, errW_none, errW_some] <;> rfl), by repeat (first | (with_reducible first | exact HI0.out | apply IsS96.alloc | apply IsS96.drewN | apply IsS96.drew | apply IsS96.set_1 | apply IsS96.set_2 | apply IsS96.set_3 | apply IsS96.set_4) | exact HI0.out), by repeat (first | (with_reducible first | exact HB.out | apply bal | apply pbdN | apply bdr1 | refine below_set ?_ (IsS96.ge HI0.out)) | exact HB.out), by repeat (first | (with_reducible first | exact HK.out | apply KeepBut.set_ | apply kdrN | apply keep_drew | apply kal) | exact HK.out)⟩
 ·rw [if_neg c5] at H
  have c5b0 : (t580 == 92) = false := beq_eq_false_iff_ne.mpr c5
  have c5b1 : (t580 != 92) = true := bne_iff_ne.mpr c5
  replace H := Option.bind_eq_some_iff.mp H
  obtain ⟨⟨t585, t586, t587, t588⟩, A400, H⟩ := H
  replace H : (some (0, t585, t586, t587, t588)) = some (r1, r2, r3, r4, r5) := H
  have A40 := Aside0.mk A400
  clear A400
  simp only [Option.some.injEq, Prod.mk.injEq] at H
  obtain ⟨rfl, rfl, rfl, rfl, rfl⟩ := H
  go_enter Tryd.func108, Tryd.ntmps108
  go_wp2_with (first | ((with_reducible refine gate_callee (f := 64) rfl ?_); refine goesL_ (some 10) rfl rfl Tryd.func64 (by kernel_rfl) rfl #[.pointer (some ⟨g, 0, none⟩)] rfl (by (try simp only [List.map_toArray, List.map_cons, List.map_nil]); first | done | rfl | (simp only [List.length_drop, List.length_take]; rfl)) ?_; (with_reducible refine (rR_see.calls g s0_0 s0_1 s0_2 s0_3 s0_4 t580 t581 t582 t583 t584 w0 _ ?side1 ?side2 A4.out).mono ?_); (case side1 => repeat (first | (with_reducible first | exact HI0.out | apply IsS96.alloc | apply IsS96.drewN | apply IsS96.drew | apply IsS96.set_1 | apply IsS96.set_2 | apply IsS96.set_3 | apply IsS96.set_4) | exact HI0.out)); (case side2 => repeat (first | (with_reducible first | exact HB.out | apply bal | apply pbdN | apply bdr1 | refine below_set ?_ (IsS96.ge HI0.out)) | exact HB.out)); rintro e w41 ⟨rfl, hi, hb, hk⟩; refine ⟨_, rfl, ?_⟩; have n0_ := Aside0.mk (KeepBut.trans (by repeat (first | (with_reducible first | exact HK.out | apply KeepBut.set_ | apply kdrN | apply keep_drew | apply kal) | exact HK.out)) hk (.inl rfl)); have n1_ := Aside0.mk (hb); have n2_ := Aside0.mk (hi); clear HK; clear HB; clear HI0; have HK := n0_; have HB := n1_; have HI0 := n2_; clear n0_ n1_ n2_; (try clear hb); (try clear hb2); (try clear hk); (try clear hi)) | ((with_reducible refine gate_callee (f := 46) rfl ?_); refine goesL_ (some 14) rfl rfl Tryd.func46 (by kernel_rfl) rfl #[.pointer (some ⟨g, 0, none⟩), .int .i64 6, .int .i64 a1] rfl (by (try simp only [List.map_toArray, List.map_cons, List.map_nil]); first | done | rfl | (simp only [List.length_drop, List.length_take]; rfl)) ?_; (with_reducible refine (rR_fail.calls g s0_0 t581 t582 t583 t584 6 a1 t585 t586 t587 t588 w0 _ ?side1 ?side2 A40.out).mono ?_); (case side1 => repeat (first | (with_reducible first | exact HI0.out | apply IsS96.alloc | apply IsS96.drewN | apply IsS96.drew | apply IsS96.set_1 | apply IsS96.set_2 | apply IsS96.set_3 | apply IsS96.set_4) | exact HI0.out)); (case side2 => repeat (first | (with_reducible first | exact HB.out | apply bal | apply pbdN | apply bdr1 | refine below_set ?_ (IsS96.ge HI0.out)) | exact HB.out)); rintro e w42 ⟨rfl, hi, hb, hk⟩; refine ⟨_, rfl, ?_⟩; have n0_ := Aside0.mk (KeepBut.trans (by repeat (first | (with_reducible first | exact HK.out | apply KeepBut.set_ | apply kdrN | apply keep_drew | apply kal) | exact HK.out)) hk (.inl rfl)); have n1_ := Aside0.mk (hb); have n2_ := Aside0.mk (hi); clear HK; clear HB; clear HI0; have HK := n0_; have HB := n1_; have HI0 := n2_; clear n0_ n1_ n2_; (try clear hb); (try clear hb2); (try clear hk); (try clear hi)))
  go_ret
  exact ⟨by first | rfl | (simp [errW_none, errW_some] <;> rfl) | (simp [*, errW_none, errW_some] <;> rfl), by repeat (first | (with_reducible first | exact HI0.out | apply IsS96.alloc | apply IsS96.drewN | apply IsS96.drew | apply IsS96.set_1 | apply IsS96.set_2 | apply IsS96.set_3 | apply IsS96.set_4) | exact HI0.out), by repeat (first | (with_reducible first | exact HB.out | apply bal | apply pbdN | apply bdr1 | refine below_set ?_ (IsS96.ge HI0.out)) | exact HB.out), by repeat (first | (with_reducible first | exact HK.out | apply KeepBut.set_ | apply kdrN | apply keep_drew | apply kal) | exact HK.out)⟩
end Go.Proofs.YteighppcdpaekaaDoor.P
end
section
namespace Go.Proofs.YteighppcdpaekaaDoor.P
open Go.RowKit Go.Proofs.YteighppcdpaekaaDoorW.PrintWords Go.Proofs.YteighppcdpaekaaDoorW.PrintLast Go.Proofs.YteighppcdpaekaaDoorW.PrintMore
attribute [local go_sem] max2_int min2_int max_two min_two max_three min_three max_four min_four
set_option linter.unusedVariables false
set_option linter.unusedSimpArgs false
mutual
def rR_escape.l0 : Nat → Int → Int → ByteArray → List Int → Int → List Int → Int → Int → Int → Int → Option (List Int × Int × Int × Int × Int)
 | 0, _, _, _, _, _, _, _, _, _, _ => none
 | k + 1, x3, x4, x5, x6, x7, x1000, x1001, x1002, x1003, x1004 => if x7 < (x5.size : Int) then (if 0 ≤ x7 then (if x4 = (wrap64 (bt x5 x7)) then (if x7 < (x6.length : Int) then (some ((([rd x6 x7] : List Int)), wrap64 (x1001 + 1), x1002, x1003, x1004)) else (none)) else (rR_escape.l0 k x3 x4 x5 x6 (wrap64 (x7 + 1)) x1000 x1001 x1002 x1003 x1004)) else (none)) else (if x4 = 117 then ((rR_hex.f k x1000 (wrap64 (x1001 + 1)) x1002 x1003 x1004).bind fun bt627 => (if bt627.2.2.2.1 = 0 then (if bt627.1 ≥ 55296 then (rR_escape.j1 k x3 bt627.1 (decide (bt627.1 ≤ 56319)) x1000 bt627.2.1 bt627.2.2.1 bt627.2.2.2.1 bt627.2.2.2.2) else (rR_escape.j1 k x3 bt627.1 false x1000 bt627.2.1 bt627.2.2.1 bt627.2.2.2.1 bt627.2.2.2.2)) else (rR_escape.j1 k x3 bt627.1 false x1000 bt627.2.1 bt627.2.2.1 bt627.2.2.2.1 bt627.2.2.2.2))) else ((rR_fail.f x1000 x1001 x1002 x1003 x1004 6 x1001).bind fun bt623 => (some (([] : List Int), bt623.1, bt623.2.1, bt623.2.2.1, bt623.2.2.2))))
def rR_escape.j1 : Nat → Int → Int → Bool → List Int → Int → Int → Int → Int → Option (List Int × Int × Int × Int × Int)
 | 0, _, _, _, _, _, _, _, _ => none
 | k + 1, x3, x8, x83, x1000, x1001, x1002, x1003, x1004 => if x83 = true then ((rR_second.f k x1000 x1001 x1002 x1003 x1004 x3 x8).bind fun bt632 => (rR_escape.j2 k x3 bt632.1 x1000 bt632.2.1 bt632.2.2.1 bt632.2.2.2.1 bt632.2.2.2.2)) else (rR_escape.j2 k x3 x8 x1000 x1001 x1002 x1003 x1004)
def rR_escape.j2 : Nat → Int → Int → List Int → Int → Int → Int → Int → Option (List Int × Int × Int × Int × Int)
 | 0, _, _, _, _, _, _, _ => none
 | k + 1, x3, x8, x1000, x1001, x1002, x1003, x1004 => if x1003 = 0 then ((r3_Encode.f k x8).bind fun bt637 => (if bt637.2 = 0 then (some (bt637.1, x1001, x1002, x1003, x1004)) else ((rR_fail.f x1000 x1001 x1002 x1003 x1004 6 x3).bind fun bt641 => (some (bt637.1, bt641.1, bt641.2.1, bt641.2.2.1, bt641.2.2.2))))) else (some (([] : List Int), x1001, x1002, x1003, x1004))
end
def rR_escape.f (k : Nat) (s0_0 : List Int) (s0_1 : Int) (s0_2 : Int) (s0_3 : Int) (s0_4 : Int) : Option (List Int × Int × Int × Int × Int) := (rR_peek.f s0_0 (wrap64 (s0_1 + 1)) s0_2 s0_3 s0_4).bind fun bt611 => (if bt611.2.2.2.1 = 0 then (rR_escape.l0 k s0_1 bt611.1 (⟨#[34, 92, 47, 98, 102, 110, 114, 116]⟩ : ByteArray) (([34, 92, 47, 8, 12, 10, 13, 9] : List Int)) 0 s0_0 bt611.2.1 bt611.2.2.1 bt611.2.2.2.1 bt611.2.2.2.2) else (some (([] : List Int), bt611.2.1, bt611.2.2.1, bt611.2.2.2.1, bt611.2.2.2.2)))
set_option maxHeartbeats 8000000 in
set_option maxRecDepth 100000 in
theorem rR_escape.calls (k : Nat) (g : Nat) (s0_0 : List Int) (s0_1 : Int) (s0_2 : Int) (s0_3 : Int) (s0_4 : Int) (r1 : List Int) (r2 : Int) (r3 : Int) (r4 : Int) (r5 : Int) (w0 w : World) (hI : IsS96 w0 w g s0_0 s0_1 s0_2 s0_3 s0_4) (hB : Below w0.heap.size w0 w) (h : rR_escape.f k s0_0 s0_1 s0_2 s0_3 s0_4 = some (r1, r2, r3, r4, r5)) :
  Calls Tryd.prog 89 #[.pointer (some ⟨g, 0, none⟩)] w fun e w' => ∃ v0_ : Value, e = .returned (v0_) ∧ Kd.R (Kd.int .u8) 5 w' w.heap.size (fun _ => True) v0_ r1 ∧ IsS96 w0 w' g s0_0 r2 r3 r4 r5 ∧ Below w0.heap.size w0 w' ∧ KeepBut w w' g none := by
 have HI0 := Aside0.mk hI
 have HK := Aside0.mk (KeepBut.refl w g none)
 have HL := Aside0.mk hB.size
 clear hI
 have HW0 := Aside0.mk hB.size
 have HB := Aside0.mk hB
 clear hB
 have H : ((rR_peek.f s0_0 (wrap64 (s0_1 + 1)) s0_2 s0_3 s0_4).bind fun bt611 => (if bt611.2.2.2.1 = 0 then (rR_escape.l0 k s0_1 bt611.1 (⟨#[34, 92, 47, 98, 102, 110, 114, 116]⟩ : ByteArray) (([34, 92, 47, 8, 12, 10, 13, 9] : List Int)) 0 s0_0 bt611.2.1 bt611.2.2.1 bt611.2.2.2.1 bt611.2.2.2.2) else (some (([] : List Int), bt611.2.1, bt611.2.2.1, bt611.2.2.2.1, bt611.2.2.2.2)))) = some (r1, r2, r3, r4, r5) := h
 clear h
 replace H := Option.bind_eq_some_iff.mp H
 obtain ⟨⟨t611, t612, t613, t614, t615⟩, A20, H⟩ := H
 replace H : (if t614 = 0 then (rR_escape.l0 k s0_1 t611 (⟨#[34, 92, 47, 98, 102, 110, 114, 116]⟩ : ByteArray) (([34, 92, 47, 8, 12, 10, 13, 9] : List Int)) 0 s0_0 t612 t613 t614 t615) else (some (([] : List Int), t612, t613, t614, t615))) = some (r1, r2, r3, r4, r5) := H
 have A2 := Aside0.mk A20
 clear A20
 by_cases c3 : t614 = 0
 ·rw [if_pos c3] at H
  have c3b0 : (t614 == 0) = true := beq_iff_eq.mpr c3
  have c3b1 : (t614 != 0) = false := bne_eq_false_iff_eq.mpr c3
  clear c3
  obtain ⟨y616, hy616⟩ : ∃ y_ : List Int, y_ = (([34, 92, 47, 8, 12, 10, 13, 9] : List Int)) := ⟨_, rfl⟩
  replace H : (rR_escape.l0 k s0_1 t611 (⟨#[34, 92, 47, 98, 102, 110, 114, 116]⟩ : ByteArray) y616 0 s0_0 t612 t613 t614 t615) = some (r1, r2, r3, r4, r5) := by first | (rw [hy616]; with_reducible exact H) | (have H2_ := (Option.bind_some _ _).symm.trans H; rw [hy616]; with_reducible exact H2_) | (have H2_ := (Option.bind_some _ _).symm.trans H; with_reducible exact H2_) | with_reducible exact H | (rw [hy616]; exact H) | exact H
  have Ny616 := Aside0.mk hy616
  clear hy616
  have H' := Aside0.mk H
  clear H
  obtain ⟨ASz4_0, cSz4_0, HGz4, hgz4, HSz4_0⟩ := HI0.out
  have hcz4_0 := cellS96_0 HGz4
  have hcz4_1 := cellS96_1 HGz4
  have hcz4_2 := cellS96_2 HGz4
  have hcz4_3 := cellS96_3 HGz4
  have hcz4_4 := cellS96_4 HGz4
  have hfz4_1 := bfz HGz4 1
  have hfz4_2 := bfz HGz4 2
  have hfz4_3 := bfz HGz4 3
  have hfz4_4 := bfz HGz4 4
  clear HGz4 hgz4
  go_enter Tryd.func89, Tryd.ntmps89
  go_wp2_with (first | ((with_reducible refine gate_callee (f := 65) rfl ?_); refine goesL_ (some 23) rfl rfl Tryd.func65 (by kernel_rfl) rfl #[.pointer (some ⟨g, 0, none⟩)] rfl (by (try simp only [List.map_toArray, List.map_cons, List.map_nil]); first | done | rfl | (simp only [List.length_drop, List.length_take]; rfl)) ?_; (with_reducible refine (rR_peek.calls g s0_0 (wrap64 (s0_1 + 1)) s0_2 s0_3 s0_4 t611 t612 t613 t614 t615 w0 _ ?side1 ?side2 A2.out).mono ?_); (case side1 => repeat (first | (with_reducible first | exact HI0.out | apply IsS96.alloc | apply IsS96.drewN | apply IsS96.drew | apply IsS96.set_1 | apply IsS96.set_2 | apply IsS96.set_3 | apply IsS96.set_4) | exact HI0.out)); (case side2 => repeat (first | (with_reducible first | exact HB.out | apply bal | apply pbdN | apply bdr1 | refine below_set ?_ (IsS96.ge HI0.out)) | exact HB.out)); rintro e w5 ⟨rfl, hi, hb, hk⟩; refine ⟨_, rfl, ?_⟩; have n0_ := Aside0.mk (KeepBut.trans (by repeat (first | (with_reducible first | exact HK.out | apply KeepBut.set_ | apply kdrN | apply keep_drew | apply kal) | exact HK.out)) hk (.inl rfl)); have n1_ := Aside0.mk (hb); have n2_ := Aside0.mk (hi); clear HK; clear HB; clear HI0; have HK := n0_; have HB := n1_; have HI0 := n2_; clear n0_ n1_ n2_; (try clear hb); (try clear hb2); (try clear hk); (try clear hi); obtain ⟨ASz6_0, cSz6_0, HGz6, hgz6, HSz6_0⟩ := HI0.out; have hcz6_0 := cellS96_0 HGz6; have hcz6_1 := cellS96_1 HGz6; have hcz6_2 := cellS96_2 HGz6; have hcz6_3 := cellS96_3 HGz6; have hcz6_4 := cellS96_4 HGz6; have hfz6_1 := bfz HGz6 1; have hfz6_2 := bfz HGz6 2; have hfz6_3 := bfz HGz6 3; have hfz6_4 := bfz HGz6 4; clear HGz6 hgz6) | ((with_reducible refine gate_dst (N := 29) rfl ?_); refine Kd.R_lit (Kd.int .u8) _ 5 ?hg (N := 29) ?hd (xs := ([34, 92, 47, 8, 12, 10, 13, 9] : List Int)) (inner := [.int .u8 34, .int .u8 92, .int .u8 47, .int .u8 8, .int .u8 12, .int .u8 10, .int .u8 13, .int .u8 9]) (ok := fun _ => True) (okp := fun _ => True) ?hr ?hp (fun _ hk => hk) trivial (Below.refl _ _) (Nat.le_refl _) (by simp) ?_; (case hd => rfl); (case hg => rfl); (case hr => first | (go_simp; done) | (go_simp; rfl)); (case hp => exact (Reps.one (show Kd.M (Kd.int .u8) _ _ _ 34 [.int .u8 34] from rfl) (Reps.one (show Kd.M (Kd.int .u8) _ _ _ 92 [.int .u8 92] from rfl) (Reps.one (show Kd.M (Kd.int .u8) _ _ _ 47 [.int .u8 47] from rfl) (Reps.one (show Kd.M (Kd.int .u8) _ _ _ 8 [.int .u8 8] from rfl) (Reps.one (show Kd.M (Kd.int .u8) _ _ _ 12 [.int .u8 12] from rfl) (Reps.one (show Kd.M (Kd.int .u8) _ _ _ 10 [.int .u8 10] from rfl) (Reps.one (show Kd.M (Kd.int .u8) _ _ _ 13 [.int .u8 13] from rfl) (Reps.one (show Kd.M (Kd.int .u8) _ _ _ 9 [.int .u8 9] from rfl) (Reps.none _ _)))))))))); intro v617 w7 ho8 hb hg_ hnew_; clear hg_ hnew_; (first | rw [← Ny616.out] at ho8 | (simp only [Int.reduceToNat] at ho8; rw [← Ny616.out] at ho8)); have n0_ := Aside0.mk (Kd.R_lower ho8 (keep_size (w := w) (g := g) (row := none) (by repeat (first | (with_reducible first | exact HK.out | apply KeepBut.set_ | apply kdrN | apply keep_drew | apply kal) | exact HK.out)))); have n1_ := Aside0.mk (IsS96.below (by repeat (first | (with_reducible first | exact HI0.out | apply IsS96.alloc | apply IsS96.drewN | apply IsS96.drew | apply IsS96.set_1 | apply IsS96.set_2 | apply IsS96.set_3 | apply IsS96.set_4) | exact HI0.out)) hb); have n2_ := Aside0.mk (KeepBut.trans (by repeat (first | (with_reducible first | exact HK.out | apply KeepBut.set_ | apply kdrN | apply keep_drew | apply kal) | exact HK.out)) (KeepBut.of_below hb g none) (.inl rfl)); have n3_ := Aside0.mk (below_step (by repeat (first | (with_reducible first | exact HB.out | apply bal | apply pbdN | apply bdr1 | refine below_set ?_ (IsS96.ge HI0.out)) | exact HB.out)) hb); clear HI0; clear HK; clear HB; have HO618 := n0_; have HI0 := n1_; have HK := n2_; have HB := n3_; clear n0_ n1_ n2_ n3_; clear hb ho8))
  go_loopg [7] k (fun kq v7 w' => ∃ (x7_1 : Int) (x1001_1 : Int), v7 = .int .i64 x7_1 ∧ Aside0 (rR_escape.l0 kq s0_1 t611 (⟨#[34, 92, 47, 98, 102, 110, 114, 116]⟩ : ByteArray) y616 x7_1 s0_0 x1001_1 t613 t614 t615 = some (r1, r2, r3, r4, r5)) ∧ Aside0 (kq ≤ k) ∧ Aside0 (Kd.R (Kd.int .u8) 5 w' w.heap.size (fun _ => True) v617 y616) ∧ Aside0 (IsS96 w0 w' g s0_0 x1001_1 t613 t614 t615) ∧ Aside0 (KeepBut w w' g none) ∧ Aside0 (Below w0.heap.size w0 w'))
  case atStart => exact ⟨(0), (t612), (by first | rfl | (simp; done) | (simp [*]; done)), H', ⟨Nat.le_refl _⟩, ⟨by (with_reducible repeat (first | apply Kd.R_alloc | apply Kd.R_drewN | apply Kd.R_drew)); exact HO618.out⟩, ⟨by repeat (first | (with_reducible first | exact HI0.out | apply IsS96.alloc | apply IsS96.drewN | apply IsS96.drew | apply IsS96.set_1 | apply IsS96.set_2 | apply IsS96.set_3 | apply IsS96.set_4) | exact HI0.out)⟩, ⟨by repeat (first | (with_reducible first | exact HK.out | apply KeepBut.set_ | apply kdrN | apply keep_drew | apply kal) | exact HK.out)⟩, ⟨by repeat (first | (with_reducible first | exact HB.out | apply bal | apply pbdN | apply bdr1 | refine below_set ?_ (IsS96.ge HI0.out)) | exact HB.out)⟩⟩
  case round =>
   clear H'
   try clear p2; try clear c3; try clear c3b0; try clear c3b1; try clear c6; try clear p6; try clear c8; try clear hcz4_0; try clear hcz4_1; try clear hcz4_2; try clear hcz4_3; try clear hcz4_4; try clear hcz6_0; try clear hcz6_1; try clear hcz6_2; try clear hcz6_3; try clear hcz6_4; try clear hfz4_1; try clear hfz4_2; try clear hfz4_3; try clear hfz4_4; try clear hfz6_1; try clear hfz6_2; try clear hfz6_3; try clear hfz6_4
   obtain ⟨x7_1, x1001_1, rfl, HA, HK1, HO_6, HI0, HK, HB⟩ := hrel
   cases gk with
   | zero => exact absurd HA.out (by simp [rR_escape.l0])
   | succ k1 =>
    have H := HA.out
    clear HA
    simp only [rR_escape.l0] at H
    by_cases c9 : x7_1 < ((⟨#[34, 92, 47, 98, 102, 110, 114, 116]⟩ : ByteArray).size : Int)
    ·rw [if_pos c9] at H
     have c9b0 : decide (x7_1 < ((⟨#[34, 92, 47, 98, 102, 110, 114, 116]⟩ : ByteArray).size : Int)) = true := decide_eq_true c9
     have c9b0_8 : decide (x7_1 < 8) = true := c9b0
     clear c9
     by_cases c10 : 0 ≤ x7_1
     ·rw [if_pos c10] at H
      have c10b0 : decide (0 ≤ x7_1) = true := decide_eq_true c10
      clear c10
      by_cases c12 : t611 = (wrap64 (bt (⟨#[34, 92, 47, 98, 102, 110, 114, 116]⟩ : ByteArray) x7_1))
      ·rw [if_pos c12] at H
       have c12b0 : (t611 == (wrap64 (bt (⟨#[34, 92, 47, 98, 102, 110, 114, 116]⟩ : ByteArray) x7_1))) = true := beq_iff_eq.mpr c12
       have c12b1 : (t611 != (wrap64 (bt (⟨#[34, 92, 47, 98, 102, 110, 114, 116]⟩ : ByteArray) x7_1))) = false := bne_eq_false_iff_eq.mpr c12
       clear c12
       by_cases c13 : x7_1 < (y616.length : Int)
       ·rw [if_pos c13] at H
        have c13b0 : decide (x7_1 < (y616.length : Int)) = true := decide_eq_true c13
        clear c13
        obtain ⟨y620, hy620⟩ : ∃ y_ : List Int, y_ = (([rd y616 x7_1] : List Int)) := ⟨_, rfl⟩
        replace H : (some (y620, wrap64 (x1001_1 + 1), t613, t614, t615)) = some (r1, r2, r3, r4, r5) := by first | (rw [hy620]; with_reducible exact H) | (have H2_ := (Option.bind_some _ _).symm.trans H; rw [hy620]; with_reducible exact H2_) | (have H2_ := (Option.bind_some _ _).symm.trans H; with_reducible exact H2_) | with_reducible exact H | (rw [hy620]; exact H) | exact H
        have Ny620 := Aside0.mk hy620
        clear hy620
        simp only [Option.some.injEq, Prod.mk.injEq] at H
        obtain ⟨rfl, rfl, rfl, rfl, rfl⟩ := H
        have p11 : 0 ≤ (x7_1 : Int) := of_decide_eq_true (by first | (with_reducible assumption) | assumption)
        have q11 : x7_1 < (8 : Int) := of_decide_eq_true (by first | (with_reducible assumption) | assumption)
        have hx11 := bt_at (⟨#[34, 92, 47, 98, 102, 110, 114, 116]⟩ : ByteArray) x7_1
        replace p11 := eq_true p11
        replace q11 := eq_true q11
        obtain ⟨ASz14_0, cSz14_0, HGz14, hgz14, HSz14_0⟩ := HI0.out
        have hcz14_0 := cellS96_0 HGz14
        have hcz14_1 := cellS96_1 HGz14
        have hcz14_2 := cellS96_2 HGz14
        have hcz14_3 := cellS96_3 HGz14
        have hcz14_4 := cellS96_4 HGz14
        have hfz14_1 := bfz HGz14 1
        have hfz14_2 := bfz HGz14 2
        have hfz14_3 := bfz HGz14 3
        have hfz14_4 := bfz HGz14 4
        clear HGz14 hgz14
        obtain ⟨Ao15, co15, eo15⟩ := Kd.R_slice HO_6.out
        subst eo15
        have p619 : 0 ≤ (x7_1 : Int) := of_decide_eq_true (by first | (with_reducible assumption) | assumption)
        have q619 : x7_1 < (y616.length : Int) := of_decide_eq_true (by first | (with_reducible assumption) | assumption)
        obtain ⟨ad619, e619, hx619_0⟩ := Kd.at_int (Kd.R_reads' HO_6.out).2.2 x7_1 p619 q619
        cases e619
        have hn619_0 : ad619.block ≠ g := Kd.own_blk (IsS96.own_ne HI0.out HO_6.out (by decide))
        replace hx619_0 := (cell_far (p := ⟨g, 1, none⟩) (by first | (rw [add_block]; exact hn619_0) | (show (Addr.add _ _).block ≠ _; rw [add_block]; exact hn619_0) | exact hn619_0) (.int .i64 (wrap64 (x1001_1 + 1)))).trans hx619_0
        clear hn619_0
        replace p619 := eq_true p619
        replace q619 := eq_true q619
        go_wp2_with (first | ((with_reducible refine gate_dst (N := 53) rfl ?_); refine Kd.R_lit (Kd.int .u8) _ 5 ?hg (N := 53) ?hd (xs := ([rd y616 x7_1] : List Int)) (inner := [.int .u8 (rd y616 x7_1)]) (ok := fun _ => True) (okp := fun _ => True) ?hr ?hp (fun _ hk => hk) trivial (Below.refl _ _) (Nat.le_refl _) (by simp) ?_; (case hd => rfl); (case hg => rfl); (case hr => first | (go_simp; done) | (go_simp; rfl)); (case hp => exact (Reps.one (show Kd.M (Kd.int .u8) _ _ _ (rd y616 x7_1) [.int .u8 (rd y616 x7_1)] from rfl) (Reps.none _ _))); intro v621 w16 ho17 hb hg_ hnew_; clear hg_ hnew_; (first | rw [← Ny620.out] at ho17 | (simp only [Int.reduceToNat] at ho17; rw [← Ny620.out] at ho17)); have n0_ := Aside0.mk (Kd.R_elder' (by (with_reducible repeat (first | apply Kd.R_alloc | apply Kd.R_drewN | apply Kd.R_drew)); exact (Kd.R_mono (Kd.R_far (p := ⟨g, 1, none⟩) (IsS96.apart HI0.out HO_6.out (by decide)) (fun _ hk => hk.2) (.int .i64 (wrap64 (x1001_1 + 1)))) (fun _ h_ => h_.1))) (Kd.R_base ho17) hb); have n1_ := Aside0.mk (Kd.R_lower (Kd.R_new' ho17 (Kd.R_lt (by (with_reducible repeat (first | apply Kd.R_alloc | apply Kd.R_drewN | apply Kd.R_drew)); exact (Kd.R_mono (Kd.R_far (p := ⟨g, 1, none⟩) (IsS96.apart HI0.out HO_6.out (by decide)) (fun _ hk => hk.2) (.int .i64 (wrap64 (x1001_1 + 1)))) (fun _ h_ => h_.1))))) (keep_size (w := w) (g := g) (row := none) (by repeat (first | (with_reducible first | exact HK.out | apply KeepBut.set_ | apply kdrN | apply keep_drew | apply kal) | exact HK.out)))); have n2_ := Aside0.mk (IsS96.below (show IsS96 w0 (wr.setCell ⟨g, 1, none⟩ (.int .i64 (wrap64 (x1001_1 + 1)))) g s0_0 (wrap64 (x1001_1 + 1)) t613 t614 t615 from by repeat (first | (with_reducible first | exact HI0.out | apply IsS96.alloc | apply IsS96.drewN | apply IsS96.drew | apply IsS96.set_1 | apply IsS96.set_2 | apply IsS96.set_3 | apply IsS96.set_4) | exact HI0.out)) hb); have n3_ := Aside0.mk (KeepBut.trans (by repeat (first | (with_reducible first | exact HK.out | apply KeepBut.set_ | apply kdrN | apply keep_drew | apply kal) | exact HK.out)) (KeepBut.of_below hb g none) (.inl rfl)); have n4_ := Aside0.mk (below_step (by repeat (first | (with_reducible first | exact HB.out | apply bal | apply pbdN | apply bdr1 | refine below_set ?_ (IsS96.ge HI0.out)) | exact HB.out)) hb); clear HO_6; clear HI0; clear HK; clear HB; have HO_6 := n0_; have HO622 := n1_; have HI0 := n2_; have HK := n3_; have HB := n4_; clear n0_ n1_ n2_ n3_ n4_; clear hb ho17))
        go_ret
        exact ⟨_, by first | rfl | (simp [errW_none, errW_some] <;> rfl) | (simp [*, errW_none, errW_some] <;> rfl), by (with_reducible repeat (first | apply Kd.R_alloc | apply Kd.R_drewN | apply Kd.R_drew)); exact Kd.R_mono HO622.out (fun _ hk => trivial), by repeat (first | (with_reducible first | exact HI0.out | apply IsS96.alloc | apply IsS96.drewN | apply IsS96.drew | apply IsS96.set_1 | apply IsS96.set_2 | apply IsS96.set_3 | apply IsS96.set_4) | exact HI0.out), by repeat (first | (with_reducible first | exact HB.out | apply bal | apply pbdN | apply bdr1 | refine below_set ?_ (IsS96.ge HI0.out)) | exact HB.out), by repeat (first | (with_reducible first | exact HK.out | apply KeepBut.set_ | apply kdrN | apply keep_drew | apply kal) | exact HK.out)⟩
       ·rw [if_neg c13] at H
        exact absurd H (by simp)
      ·rw [if_neg c12] at H
       have c12b0 : (t611 == (wrap64 (bt (⟨#[34, 92, 47, 98, 102, 110, 114, 116]⟩ : ByteArray) x7_1))) = false := beq_eq_false_iff_ne.mpr c12
       have c12b1 : (t611 != (wrap64 (bt (⟨#[34, 92, 47, 98, 102, 110, 114, 116]⟩ : ByteArray) x7_1))) = true := bne_iff_ne.mpr c12
       have H' := Aside0.mk H
       clear H
       have p11 : 0 ≤ (x7_1 : Int) := of_decide_eq_true (by first | (with_reducible assumption) | assumption)
       have q11 : x7_1 < (8 : Int) := of_decide_eq_true (by first | (with_reducible assumption) | assumption)
       have hx11 := bt_at (⟨#[34, 92, 47, 98, 102, 110, 114, 116]⟩ : ByteArray) x7_1
       replace p11 := eq_true p11
       replace q11 := eq_true q11
       go_wp2
       go_roundg k1
       case measure => have := HK1.out; omega
       case rel => exact ⟨(wrap64 (x7_1 + 1)), (x1001_1), (by first | rfl | (simp; done) | (simp [*]; done)), H', ⟨by have := HK1.out; omega⟩, ⟨by (with_reducible repeat (first | apply Kd.R_alloc | apply Kd.R_drewN | apply Kd.R_drew)); exact HO_6.out⟩, ⟨by repeat (first | (with_reducible first | exact HI0.out | apply IsS96.alloc | apply IsS96.drewN | apply IsS96.drew | apply IsS96.set_1 | apply IsS96.set_2 | apply IsS96.set_3 | apply IsS96.set_4) | exact HI0.out)⟩, ⟨by repeat (first | (with_reducible first | exact HK.out | apply KeepBut.set_ | apply kdrN | apply keep_drew | apply kal) | exact HK.out)⟩, ⟨by repeat (first | (with_reducible first | exact HB.out | apply bal | apply pbdN | apply bdr1 | refine below_set ?_ (IsS96.ge HI0.out)) | exact HB.out)⟩⟩
     ·rw [if_neg c10] at H
      exact absurd H (by simp)
    ·rw [if_neg c9] at H
     have c9b0 : decide (x7_1 < ((⟨#[34, 92, 47, 98, 102, 110, 114, 116]⟩ : ByteArray).size : Int)) = false := decide_eq_false c9
     have c9b0_8 : decide (x7_1 < 8) = false := c9b0
     clear c9
     by_cases c18 : t611 = 117
     ·rw [if_pos c18] at H
      have c18b0 : (t611 == 117) = true := beq_iff_eq.mpr c18
      have c18b1 : (t611 != 117) = false := bne_eq_false_iff_eq.mpr c18
      clear c18
      replace H := Option.bind_eq_some_iff.mp H
      obtain ⟨⟨t627, t628, t629, t630, t631⟩, A190, H⟩ := H
      replace H : (if t630 = 0 then (if t627 ≥ 55296 then (rR_escape.j1 k1 s0_1 t627 (decide (t627 ≤ 56319)) s0_0 t628 t629 t630 t631) else (rR_escape.j1 k1 s0_1 t627 false s0_0 t628 t629 t630 t631)) else (rR_escape.j1 k1 s0_1 t627 false s0_0 t628 t629 t630 t631)) = some (r1, r2, r3, r4, r5) := H
      have A19 := Aside0.mk A190
      clear A190
      have HC20 := Aside0.mk H
      clear H
      obtain ⟨ASz21_0, cSz21_0, HGz21, hgz21, HSz21_0⟩ := HI0.out
      have hcz21_0 := cellS96_0 HGz21
      have hcz21_1 := cellS96_1 HGz21
      have hcz21_2 := cellS96_2 HGz21
      have hcz21_3 := cellS96_3 HGz21
      have hcz21_4 := cellS96_4 HGz21
      have hfz21_1 := bfz HGz21 1
      have hfz21_2 := bfz HGz21 2
      have hfz21_3 := bfz HGz21 3
      have hfz21_4 := bfz HGz21 4
      clear HGz21 hgz21
      go_upto_region 19 with (first | ((with_reducible refine gate_callee (f := 107) rfl ?_); refine goesL_ (some 70) rfl rfl Tryd.func107 (by kernel_rfl) rfl #[.pointer (some ⟨g, 0, none⟩)] rfl (by (try simp only [List.map_toArray, List.map_cons, List.map_nil]); first | done | rfl | (simp only [List.length_drop, List.length_take]; rfl)) ?_; (with_reducible refine (rR_hex.calls k1 g s0_0 (wrap64 (x1001_1 + 1)) t613 t614 t615 t627 t628 t629 t630 t631 w0 _ ?side1 ?side2 A19.out).mono ?_); (case side1 => repeat (first | (with_reducible first | exact HI0.out | apply IsS96.alloc | apply IsS96.drewN | apply IsS96.drew | apply IsS96.set_1 | apply IsS96.set_2 | apply IsS96.set_3 | apply IsS96.set_4) | exact HI0.out)); (case side2 => repeat (first | (with_reducible first | exact HB.out | apply bal | apply pbdN | apply bdr1 | refine below_set ?_ (IsS96.ge HI0.out)) | exact HB.out)); rintro e w22 ⟨rfl, hi, hb, hk⟩; refine ⟨_, rfl, ?_⟩; have n0_ := Aside0.mk (Kd.R_mono (Kd.R_keep (IsS96.apart (show IsS96 w0 _ g s0_0 (wrap64 (x1001_1 + 1)) t613 t614 t615 from by repeat (first | (with_reducible first | exact HI0.out | apply IsS96.alloc | apply IsS96.drewN | apply IsS96.drew | apply IsS96.set_1 | apply IsS96.set_2 | apply IsS96.set_3 | apply IsS96.set_4) | exact HI0.out)) (by (with_reducible repeat (first | apply Kd.R_alloc | apply Kd.R_drewN | apply Kd.R_drew)); exact (Kd.R_mono (Kd.R_far (p := ⟨g, 1, none⟩) (IsS96.apart HI0.out HO_6.out (by decide)) (fun _ hk => hk.2) (.int .i64 (wrap64 (x1001_1 + 1)))) (fun _ h_ => h_.1))) (by decide)) hk (fun _ h => h.2)) (fun _ h => h.1)); have n1_ := Aside0.mk (KeepBut.trans (by repeat (first | (with_reducible first | exact HK.out | apply KeepBut.set_ | apply kdrN | apply keep_drew | apply kal) | exact HK.out)) hk (.inl rfl)); have n2_ := Aside0.mk (hb); have n3_ := Aside0.mk (hi); clear HO_6; clear HK; clear HB; clear HI0; have HO_6 := n0_; have HK := n1_; have HB := n2_; have HI0 := n3_; clear n0_ n1_ n2_ n3_; (try clear hb); (try clear hb2); (try clear hk); (try clear hi)))
      (try simp only [Act.put, List.setIfInBounds_toArray, List.set_cons_zero, List.set_cons_succ])
      go_cut [83] (fun v83 wc => ∃ (kq : Nat) (x83_19 : Bool), v83 = .bool x83_19 ∧ Aside0 (rR_escape.j1 kq s0_1 t627 x83_19 s0_0 t628 t629 t630 t631 = some (r1, r2, r3, r4, r5)) ∧ Aside0 (kq ≤ k1) ∧ Aside0 (IsS96 w0 wc g s0_0 t628 t629 t630 t631) ∧ Aside0 (KeepBut w wc g none) ∧ Aside0 (Below w0.heap.size w0 wc))
      case first =>
       have H := HC20.out
       clear HC20
       by_cases c23 : t630 = 0
       ·rw [if_pos c23] at H
        have c23b0 : (t630 == 0) = true := beq_iff_eq.mpr c23
        have c23b1 : (t630 != 0) = false := bne_eq_false_iff_eq.mpr c23
        clear c23
        (first | rw [c23b0] | (simp only [i64_w, i32_w]; rw [c23b0]) | skip)
        by_cases c24 : t627 ≥ 55296
        ·rw [if_pos c24] at H
         have c24b0 : decide (55296 ≤ t627) = true := decide_eq_true c24
         clear c24
         have H' := Aside0.mk H
         clear H
         obtain ⟨ASz25_0, cSz25_0, HGz25, hgz25, HSz25_0⟩ := HI0.out
         have hcz25_0 := cellS96_0 HGz25
         have hcz25_1 := cellS96_1 HGz25
         have hcz25_2 := cellS96_2 HGz25
         have hcz25_3 := cellS96_3 HGz25
         have hcz25_4 := cellS96_4 HGz25
         have hfz25_1 := bfz HGz25 1
         have hfz25_2 := bfz HGz25 2
         have hfz25_3 := bfz HGz25 3
         have hfz25_4 := bfz HGz25 4
         clear HGz25 hgz25
         go_wp2
         go_meet
         case rel => exact ⟨_, (decide (t627 ≤ 56319)), (by first | rfl | (simp; done) | (simp [*]; done)), H', ⟨by have := HK1.out; first | omega | exact Nat.le_refl _⟩, ⟨by repeat (first | (with_reducible first | exact HI0.out | apply IsS96.alloc | apply IsS96.drewN | apply IsS96.drew | apply IsS96.set_1 | apply IsS96.set_2 | apply IsS96.set_3 | apply IsS96.set_4) | exact HI0.out)⟩, ⟨by repeat (first | (with_reducible first | exact HK.out | apply KeepBut.set_ | apply kdrN | apply keep_drew | apply kal) | exact HK.out)⟩, ⟨by repeat (first | (with_reducible first | exact HB.out | apply bal | apply pbdN | apply bdr1 | refine below_set ?_ (IsS96.ge HI0.out)) | exact HB.out)⟩⟩
        ·rw [if_neg c24] at H
         have c24b0 : decide (55296 ≤ t627) = false := decide_eq_false c24
         clear c24
         have H' := Aside0.mk H
         clear H
         obtain ⟨ASz26_0, cSz26_0, HGz26, hgz26, HSz26_0⟩ := HI0.out
         have hcz26_0 := cellS96_0 HGz26
         have hcz26_1 := cellS96_1 HGz26
         have hcz26_2 := cellS96_2 HGz26
         have hcz26_3 := cellS96_3 HGz26
         have hcz26_4 := cellS96_4 HGz26
         have hfz26_1 := bfz HGz26 1
         have hfz26_2 := bfz HGz26 2
         have hfz26_3 := bfz HGz26 3
         have hfz26_4 := bfz HGz26 4
         clear HGz26 hgz26
         go_wp2
         go_meet
         case rel => exact ⟨_, (false), (by first | rfl | (simp; done) | (simp [*]; done)), H', ⟨by have := HK1.out; first | omega | exact Nat.le_refl _⟩, ⟨by repeat (first | (with_reducible first | exact HI0.out | apply IsS96.alloc | apply IsS96.drewN | apply IsS96.drew | apply IsS96.set_1 | apply IsS96.set_2 | apply IsS96.set_3 | apply IsS96.set_4) | exact HI0.out)⟩, ⟨by repeat (first | (with_reducible first | exact HK.out | apply KeepBut.set_ | apply kdrN | apply keep_drew | apply kal) | exact HK.out)⟩, ⟨by repeat (first | (with_reducible first | exact HB.out | apply bal | apply pbdN | apply bdr1 | refine below_set ?_ (IsS96.ge HI0.out)) | exact HB.out)⟩⟩
       ·rw [if_neg c23] at H
        have c23b0 : (t630 == 0) = false := beq_eq_false_iff_ne.mpr c23
        have c23b1 : (t630 != 0) = true := bne_iff_ne.mpr c23
        (first | rw [c23b0] | (simp only [i64_w, i32_w]; rw [c23b0]) | skip)
        have H' := Aside0.mk H
        clear H
        obtain ⟨ASz27_0, cSz27_0, HGz27, hgz27, HSz27_0⟩ := HI0.out
        have hcz27_0 := cellS96_0 HGz27
        have hcz27_1 := cellS96_1 HGz27
        have hcz27_2 := cellS96_2 HGz27
        have hcz27_3 := cellS96_3 HGz27
        have hcz27_4 := cellS96_4 HGz27
        have hfz27_1 := bfz HGz27 1
        have hfz27_2 := bfz HGz27 2
        have hfz27_3 := bfz HGz27 3
        have hfz27_4 := bfz HGz27 4
        clear HGz27 hgz27
        go_wp2
        go_meet
        case rel => exact ⟨_, (false), (by first | rfl | (simp; done) | (simp [*]; done)), H', ⟨by have := HK1.out; first | omega | exact Nat.le_refl _⟩, ⟨by repeat (first | (with_reducible first | exact HI0.out | apply IsS96.alloc | apply IsS96.drewN | apply IsS96.drew | apply IsS96.set_1 | apply IsS96.set_2 | apply IsS96.set_3 | apply IsS96.set_4) | exact HI0.out)⟩, ⟨by repeat (first | (with_reducible first | exact HK.out | apply KeepBut.set_ | apply kdrN | apply keep_drew | apply kal) | exact HK.out)⟩, ⟨by repeat (first | (with_reducible first | exact HB.out | apply bal | apply pbdN | apply bdr1 | refine below_set ?_ (IsS96.ge HI0.out)) | exact HB.out)⟩⟩
      case rest =>
       clear HC20
       try clear c1; try clear p1; try clear q1; try clear hx1; try clear c2; try clear p2; try clear c3; try clear c3b0; try clear c3b1; try clear c6; try clear p6; try clear q6; try clear hx6; try clear c8; try clear c9; try clear c9b0; try clear c10; try clear c10b0; try clear p11; try clear q11; try clear hx11; try clear c12; try clear c12b0; try clear c12b1; try clear c13; try clear c13b0; try clear c18; try clear c18b0; try clear c18b1; try clear c23; try clear c23b0; try clear c23b1; try clear c24; try clear c24b0; try clear hcz14_0; try clear hcz14_1; try clear hcz14_2; try clear hcz14_3; try clear hcz14_4; try clear hcz21_0; try clear hcz21_1; try clear hcz21_2; try clear hcz21_3; try clear hcz21_4; try clear hcz25_0; try clear hcz25_1; try clear hcz25_2; try clear hcz25_3; try clear hcz25_4; try clear hcz26_0; try clear hcz26_1; try clear hcz26_2; try clear hcz26_3; try clear hcz26_4; try clear hcz27_0; try clear hcz27_1; try clear hcz27_2; try clear hcz27_3; try clear hcz27_4; try clear hcz4_0; try clear hcz4_1; try clear hcz4_2; try clear hcz4_3; try clear hcz4_4; try clear hcz6_0; try clear hcz6_1; try clear hcz6_2; try clear hcz6_3; try clear hcz6_4; try clear hfz14_1; try clear hfz14_2; try clear hfz14_3; try clear hfz14_4; try clear hfz21_1; try clear hfz21_2; try clear hfz21_3; try clear hfz21_4; try clear hfz25_1; try clear hfz25_2; try clear hfz25_3; try clear hfz25_4; try clear hfz26_1; try clear hfz26_2; try clear hfz26_3; try clear hfz26_4; try clear hfz27_1; try clear hfz27_2; try clear hfz27_3; try clear hfz27_4; try clear hfz4_1; try clear hfz4_2; try clear hfz4_3; try clear hfz4_4; try clear hfz6_1; try clear hfz6_2; try clear hfz6_3; try clear hfz6_4; try clear hx619_0; try clear p11; try clear p2; try clear p6; try clear p619; try clear q11; try clear q619
       obtain ⟨kq, x83_19, rfl, HA, HJ19, HI0, HK, HB⟩ := hcut
       cases kq with
       | zero => exact absurd HA.out (by simp [rR_escape.j1])
       | succ kj19 =>
        have H := HA.out
        clear HA
        simp only [rR_escape.j1] at H
        have HC28 := Aside0.mk H
        clear H
        go_upto_if 83 with (fail)
        go_cut [8] (fun v8 wc => ∃ (kq : Nat) (x8_27 : Int) (x1001_27 : Int) (x1002_27 : Int) (x1003_27 : Int) (x1004_27 : Int), v8 = .int .i64 x8_27 ∧ Aside0 (rR_escape.j2 kq s0_1 x8_27 s0_0 x1001_27 x1002_27 x1003_27 x1004_27 = some (r1, r2, r3, r4, r5)) ∧ Aside0 (kq ≤ kj19) ∧ Aside0 (IsS96 w0 wc g s0_0 x1001_27 x1002_27 x1003_27 x1004_27) ∧ Aside0 (KeepBut w wc g none) ∧ Aside0 (Below w0.heap.size w0 wc))
        case first =>
         have H := HC28.out
         clear HC28
         by_cases c29 : x83_19 = true
         ·subst c29
          have H1 : ((rR_second.f kj19 s0_0 t628 t629 t630 t631 s0_1 t627).bind fun bt632 => (rR_escape.j2 kj19 s0_1 bt632.1 s0_0 bt632.2.1 bt632.2.2.1 bt632.2.2.2.1 bt632.2.2.2.2)) = some (r1, r2, r3, r4, r5) := by rw [if_pos rfl] at H; exact H
          clear H
          have H := H1
          clear H1
          replace H := Option.bind_eq_some_iff.mp H
          obtain ⟨⟨t632, t633, t634, t635, t636⟩, A300, H⟩ := H
          replace H : (rR_escape.j2 kj19 s0_1 t632 s0_0 t633 t634 t635 t636) = some (r1, r2, r3, r4, r5) := H
          have A30 := Aside0.mk A300
          clear A300
          have H' := Aside0.mk H
          clear H
          go_wp2_with (first | ((with_reducible refine gate_callee (f := 108) rfl ?_); refine goesL_ (some 87) rfl rfl Tryd.func108 (by kernel_rfl) rfl #[.pointer (some ⟨g, 0, none⟩), .int .i64 s0_1, .int .i64 t627] rfl (by (try simp only [List.map_toArray, List.map_cons, List.map_nil]); first | done | rfl | (simp only [List.length_drop, List.length_take]; rfl)) ?_; (with_reducible refine (rR_second.calls kj19 g s0_0 t628 t629 t630 t631 s0_1 t627 t632 t633 t634 t635 t636 w0 _ ?side1 ?side2 A30.out).mono ?_); (case side1 => repeat (first | (with_reducible first | exact HI0.out | apply IsS96.alloc | apply IsS96.drewN | apply IsS96.drew | apply IsS96.set_1 | apply IsS96.set_2 | apply IsS96.set_3 | apply IsS96.set_4) | exact HI0.out)); (case side2 => repeat (first | (with_reducible first | exact HB.out | apply bal | apply pbdN | apply bdr1 | refine below_set ?_ (IsS96.ge HI0.out)) | exact HB.out)); rintro e w31 ⟨rfl, hi, hb, hk⟩; refine ⟨_, rfl, ?_⟩; have n0_ := Aside0.mk (KeepBut.trans (by repeat (first | (with_reducible first | exact HK.out | apply KeepBut.set_ | apply kdrN | apply keep_drew | apply kal) | exact HK.out)) hk (.inl rfl)); have n1_ := Aside0.mk (hb); have n2_ := Aside0.mk (hi); clear HK; clear HB; clear HI0; have HK := n0_; have HB := n1_; have HI0 := n2_; clear n0_ n1_ n2_; (try clear hb); (try clear hb2); (try clear hk); (try clear hi)))
          go_meet
          case rel => exact ⟨_, (t632), (t633), (t634), (t635), (t636), (by first | rfl | (simp; done) | (simp [*]; done)), H', ⟨by have := HK1.out; have := HJ19.out; first | omega | exact Nat.le_refl _⟩, ⟨by repeat (first | (with_reducible first | exact HI0.out | apply IsS96.alloc | apply IsS96.drewN | apply IsS96.drew | apply IsS96.set_1 | apply IsS96.set_2 | apply IsS96.set_3 | apply IsS96.set_4) | exact HI0.out)⟩, ⟨by repeat (first | (with_reducible first | exact HK.out | apply KeepBut.set_ | apply kdrN | apply keep_drew | apply kal) | exact HK.out)⟩, ⟨by repeat (first | (with_reducible first | exact HB.out | apply bal | apply pbdN | apply bdr1 | refine below_set ?_ (IsS96.ge HI0.out)) | exact HB.out)⟩⟩
         ·replace c29 := Bool.eq_false_iff.mpr c29
          subst c29
          have H1 : (rR_escape.j2 kj19 s0_1 t627 s0_0 t628 t629 t630 t631) = some (r1, r2, r3, r4, r5) := by rw [if_neg (show ¬ (false = true) by decide)] at H; exact H
          clear H
          have H := H1
          clear H1
          have H' := Aside0.mk H
          clear H
          go_wp2
          go_meet
          case rel => exact ⟨_, (t627), (t628), (t629), (t630), (t631), (by first | rfl | (simp; done) | (simp [*]; done)), H', ⟨by have := HK1.out; have := HJ19.out; first | omega | exact Nat.le_refl _⟩, ⟨by repeat (first | (with_reducible first | exact HI0.out | apply IsS96.alloc | apply IsS96.drewN | apply IsS96.drew | apply IsS96.set_1 | apply IsS96.set_2 | apply IsS96.set_3 | apply IsS96.set_4) | exact HI0.out)⟩, ⟨by repeat (first | (with_reducible first | exact HK.out | apply KeepBut.set_ | apply kdrN | apply keep_drew | apply kal) | exact HK.out)⟩, ⟨by repeat (first | (with_reducible first | exact HB.out | apply bal | apply pbdN | apply bdr1 | refine below_set ?_ (IsS96.ge HI0.out)) | exact HB.out)⟩⟩
        case rest =>
         clear HC28
         try clear c1; try clear p1; try clear q1; try clear hx1; try clear c2; try clear p2; try clear c3; try clear c3b0; try clear c3b1; try clear c6; try clear p6; try clear q6; try clear hx6; try clear c8; try clear c9; try clear c9b0; try clear c10; try clear c10b0; try clear p11; try clear q11; try clear hx11; try clear c12; try clear c12b0; try clear c12b1; try clear c13; try clear c13b0; try clear c18; try clear c18b0; try clear c18b1; try clear c23; try clear c23b0; try clear c23b1; try clear c24; try clear c24b0; try clear c29; try clear hcz14_0; try clear hcz14_1; try clear hcz14_2; try clear hcz14_3; try clear hcz14_4; try clear hcz21_0; try clear hcz21_1; try clear hcz21_2; try clear hcz21_3; try clear hcz21_4; try clear hcz25_0; try clear hcz25_1; try clear hcz25_2; try clear hcz25_3; try clear hcz25_4; try clear hcz26_0; try clear hcz26_1; try clear hcz26_2; try clear hcz26_3; try clear hcz26_4; try clear hcz27_0; try clear hcz27_1; try clear hcz27_2; try clear hcz27_3; try clear hcz27_4; try clear hcz4_0; try clear hcz4_1; try clear hcz4_2; try clear hcz4_3; try clear hcz4_4; try clear hcz6_0; try clear hcz6_1; try clear hcz6_2; try clear hcz6_3; try clear hcz6_4; try clear hfz14_1; try clear hfz14_2; try clear hfz14_3; try clear hfz14_4; try clear hfz21_1; try clear hfz21_2; try clear hfz21_3; try clear hfz21_4; try clear hfz25_1; try clear hfz25_2; try clear hfz25_3; try clear hfz25_4; try clear hfz26_1; try clear hfz26_2; try clear hfz26_3; try clear hfz26_4; try clear hfz27_1; try clear hfz27_2; try clear hfz27_3; try clear hfz27_4; try clear hfz4_1; try clear hfz4_2; try clear hfz4_3; try clear hfz4_4; try clear hfz6_1; try clear hfz6_2; try clear hfz6_3; try clear hfz6_4; try clear hx619_0; try clear p1; try clear p11; try clear p2; try clear p6; try clear p619; try clear q1; try clear q11; try clear q6; try clear q619
         obtain ⟨kq, x8_27, x1001_27, x1002_27, x1003_27, x1004_27, rfl, HA, HJ27, HI0, HK, HB⟩ := hcut
         cases kq with
         | zero => exact absurd HA.out (by simp [rR_escape.j2])
         | succ kj27 =>
          have H := HA.out
          clear HA
          simp only [rR_escape.j2] at H
          by_cases c32 : x1003_27 = 0
          ·rw [if_pos c32] at H
           have c32b0 : (x1003_27 == 0) = true := beq_iff_eq.mpr c32
           have c32b1 : (x1003_27 != 0) = false := bne_eq_false_iff_eq.mpr c32
           clear c32
           replace H := Option.bind_eq_some_iff.mp H
           obtain ⟨⟨t637, t638⟩, A330, H⟩ := H
           replace H : (if t638 = 0 then (some (t637, x1001_27, x1002_27, x1003_27, x1004_27)) else ((rR_fail.f s0_0 x1001_27 x1002_27 x1003_27 x1004_27 6 s0_1).bind fun bt641 => (some (t637, bt641.1, bt641.2.1, bt641.2.2.1, bt641.2.2.2)))) = some (r1, r2, r3, r4, r5) := H
           have A33 := Aside0.mk A330
           clear A330
           by_cases c34 : t638 = 0
           ·rw [if_pos c34] at H
            have c34b0 : (t638 == 0) = true := beq_iff_eq.mpr c34
            have c34b1 : (t638 != 0) = false := bne_eq_false_iff_eq.mpr c34
            clear c34
            simp only [Option.some.injEq, Prod.mk.injEq] at H
            obtain ⟨rfl, rfl, rfl, rfl, rfl⟩ := H
            obtain ⟨ASz35_0, cSz35_0, HGz35, hgz35, HSz35_0⟩ := HI0.out
            have hcz35_0 := cellS96_0 HGz35
            have hcz35_1 := cellS96_1 HGz35
            have hcz35_2 := cellS96_2 HGz35
            have hcz35_3 := cellS96_3 HGz35
            have hcz35_4 := cellS96_4 HGz35
            have hfz35_1 := bfz HGz35 1
            have hfz35_2 := bfz HGz35 2
            have hfz35_3 := bfz HGz35 3
            have hfz35_4 := bfz HGz35 4
            clear HGz35 hgz35
            go_wp2_with (first | ((with_reducible refine gate_callee (f := 106) rfl ?_); refine goesL_ (some 95) rfl rfl Tryd.func106 (by kernel_rfl) rfl #[.int .i64 x8_27] rfl (by (try simp only [List.map_toArray, List.map_cons, List.map_nil]); first | done | rfl | (simp only [List.length_drop, List.length_take]; rfl)) ?_; (with_reducible refine (r3_Encode.calls kj27 x8_27 t637 t638 _ A33.out).mono ?_); rintro e w36 ⟨v639, rfl, ho0, hb⟩; refine ⟨_, rfl, ?_⟩; have n0_ := Aside0.mk (Kd.R_lower ho0 (keep_size (w := w) (g := g) (row := none) (by repeat (first | (with_reducible first | exact HK.out | apply KeepBut.set_ | apply kdrN | apply keep_drew | apply kal) | exact HK.out)))); have n1_ := Aside0.mk (IsS96.below (by repeat (first | (with_reducible first | exact HI0.out | apply IsS96.alloc | apply IsS96.drewN | apply IsS96.drew | apply IsS96.set_1 | apply IsS96.set_2 | apply IsS96.set_3 | apply IsS96.set_4) | exact HI0.out)) hb); have n2_ := Aside0.mk (KeepBut.trans (by repeat (first | (with_reducible first | exact HK.out | apply KeepBut.set_ | apply kdrN | apply keep_drew | apply kal) | exact HK.out)) (KeepBut.of_below hb g none) (.inl rfl)); have n3_ := Aside0.mk (below_step (by repeat (first | (with_reducible first | exact HB.out | apply bal | apply pbdN | apply bdr1 | refine below_set ?_ (IsS96.ge HI0.out)) | exact HB.out)) hb); clear HI0; clear HK; clear HB; have HO640 := n0_; have HI0 := n1_; have HK := n2_; have HB := n3_; clear n0_ n1_ n2_ n3_; (try clear hb); (try clear hb2); (try clear hk); (try clear hi); (try clear ho0)))
            go_ret
            exact ⟨_, by first | rfl | (simp [errW_none, errW_some] <;> rfl) | (simp [*, errW_none, errW_some] <;> rfl), by (with_reducible repeat (first | apply Kd.R_alloc | apply Kd.R_drewN | apply Kd.R_drew)); exact HO640.out, by repeat (first | (with_reducible first | exact HI0.out | apply IsS96.alloc | apply IsS96.drewN | apply IsS96.drew | apply IsS96.set_1 | apply IsS96.set_2 | apply IsS96.set_3 | apply IsS96.set_4) | exact HI0.out), by repeat (first | (with_reducible first | exact HB.out | apply bal | apply pbdN | apply bdr1 | refine below_set ?_ (IsS96.ge HI0.out)) | exact HB.out), by repeat (first | (with_reducible first | exact HK.out | apply KeepBut.set_ | apply kdrN | apply keep_drew | apply kal) | exact HK.out)⟩
           ·rw [if_neg c34] at H
            have c34b0 : (t638 == 0) = false := beq_eq_false_iff_ne.mpr c34
            have c34b1 : (t638 != 0) = true := bne_iff_ne.mpr c34
            replace H := Option.bind_eq_some_iff.mp H
            obtain ⟨⟨t641, t642, t643, t644⟩, A370, H⟩ := H
            replace H : (some (t637, t641, t642, t643, t644)) = some (r1, r2, r3, r4, r5) := H
            have A37 := Aside0.mk A370
            clear A370
            simp only [Option.some.injEq, Prod.mk.injEq] at H
            obtain ⟨rfl, rfl, rfl, rfl, rfl⟩ := H
            obtain ⟨ASz38_0, cSz38_0, HGz38, hgz38, HSz38_0⟩ := HI0.out
            have hcz38_0 := cellS96_0 HGz38
            have hcz38_1 := cellS96_1 HGz38
            have hcz38_2 := cellS96_2 HGz38
            have hcz38_3 := cellS96_3 HGz38
            have hcz38_4 := cellS96_4 HGz38
            have hfz38_1 := bfz HGz38 1
            have hfz38_2 := bfz HGz38 2
            have hfz38_3 := bfz HGz38 3
            have hfz38_4 := bfz HGz38 4
            clear HGz38 hgz38
            go_wp2_with (first | ((with_reducible refine gate_callee (f := 106) rfl ?_); refine goesL_ (some 95) rfl rfl Tryd.func106 (by kernel_rfl) rfl #[.int .i64 x8_27] rfl (by (try simp only [List.map_toArray, List.map_cons, List.map_nil]); first | done | rfl | (simp only [List.length_drop, List.length_take]; rfl)) ?_; (with_reducible refine (r3_Encode.calls kj27 x8_27 t637 t638 _ A33.out).mono ?_); rintro e w39 ⟨v639, rfl, ho0, hb⟩; refine ⟨_, rfl, ?_⟩; have n0_ := Aside0.mk (Kd.R_lower ho0 (keep_size (w := w) (g := g) (row := none) (by repeat (first | (with_reducible first | exact HK.out | apply KeepBut.set_ | apply kdrN | apply keep_drew | apply kal) | exact HK.out)))); have n1_ := Aside0.mk (IsS96.below (by repeat (first | (with_reducible first | exact HI0.out | apply IsS96.alloc | apply IsS96.drewN | apply IsS96.drew | apply IsS96.set_1 | apply IsS96.set_2 | apply IsS96.set_3 | apply IsS96.set_4) | exact HI0.out)) hb); have n2_ := Aside0.mk (KeepBut.trans (by repeat (first | (with_reducible first | exact HK.out | apply KeepBut.set_ | apply kdrN | apply keep_drew | apply kal) | exact HK.out)) (KeepBut.of_below hb g none) (.inl rfl)); have n3_ := Aside0.mk (below_step (by repeat (first | (with_reducible first | exact HB.out | apply bal | apply pbdN | apply bdr1 | refine below_set ?_ (IsS96.ge HI0.out)) | exact HB.out)) hb); clear HI0; clear HK; clear HB; have HO640 := n0_; have HI0 := n1_; have HK := n2_; have HB := n3_; clear n0_ n1_ n2_ n3_; (try clear hb); (try clear hb2); (try clear hk); (try clear hi); (try clear ho0)) | ((with_reducible refine gate_callee (f := 46) rfl ?_); refine goesL_ (some 102) rfl rfl Tryd.func46 (by kernel_rfl) rfl #[.pointer (some ⟨g, 0, none⟩), .int .i64 6, .int .i64 s0_1] rfl (by (try simp only [List.map_toArray, List.map_cons, List.map_nil]); first | done | rfl | (simp only [List.length_drop, List.length_take]; rfl)) ?_; (with_reducible refine (rR_fail.calls g s0_0 x1001_27 x1002_27 x1003_27 x1004_27 6 s0_1 t641 t642 t643 t644 w0 _ ?side1 ?side2 A37.out).mono ?_); (case side1 => repeat (first | (with_reducible first | exact HI0.out | apply IsS96.alloc | apply IsS96.drewN | apply IsS96.drew | apply IsS96.set_1 | apply IsS96.set_2 | apply IsS96.set_3 | apply IsS96.set_4) | exact HI0.out)); (case side2 => repeat (first | (with_reducible first | exact HB.out | apply bal | apply pbdN | apply bdr1 | refine below_set ?_ (IsS96.ge HI0.out)) | exact HB.out)); rintro e w40 ⟨rfl, hi, hb, hk⟩; refine ⟨_, rfl, ?_⟩; have n0_ := Aside0.mk (Kd.R_mono (Kd.R_keep (IsS96.apart (show IsS96 w0 _ g s0_0 x1001_27 x1002_27 x1003_27 x1004_27 from by repeat (first | (with_reducible first | exact HI0.out | apply IsS96.alloc | apply IsS96.drewN | apply IsS96.drew | apply IsS96.set_1 | apply IsS96.set_2 | apply IsS96.set_3 | apply IsS96.set_4) | exact HI0.out)) (by (with_reducible repeat (first | apply Kd.R_alloc | apply Kd.R_drewN | apply Kd.R_drew)); exact HO640.out) (by decide)) hk (fun _ h => h.2)) (fun _ h => h.1)); have n1_ := Aside0.mk (KeepBut.trans (by repeat (first | (with_reducible first | exact HK.out | apply KeepBut.set_ | apply kdrN | apply keep_drew | apply kal) | exact HK.out)) hk (.inl rfl)); have n2_ := Aside0.mk (hb); have n3_ := Aside0.mk (hi); clear HO640; clear HK; clear HB; clear HI0; have HO640 := n0_; have HK := n1_; have HB := n2_; have HI0 := n3_; clear n0_ n1_ n2_ n3_; (try clear hb); (try clear hb2); (try clear hk); (try clear hi)))
            go_ret
            exact ⟨_, by first | rfl | (simp [errW_none, errW_some] <;> rfl) | (simp [*, errW_none, errW_some] <;> rfl), by (with_reducible repeat (first | apply Kd.R_alloc | apply Kd.R_drewN | apply Kd.R_drew)); exact HO640.out, by repeat (first | (with_reducible first | exact HI0.out | apply IsS96.alloc | apply IsS96.drewN | apply IsS96.drew | apply IsS96.set_1 | apply IsS96.set_2 | apply IsS96.set_3 | apply IsS96.set_4) | exact HI0.out), by repeat (first | (with_reducible first | exact HB.out | apply bal | apply pbdN | apply bdr1 | refine below_set ?_ (IsS96.ge HI0.out)) | exact HB.out), by repeat (first | (with_reducible first | exact HK.out | apply KeepBut.set_ | apply kdrN | apply keep_drew | apply kal) | exact HK.out)⟩
          ·rw [if_neg c32] at H
           have c32b0 : (x1003_27 == 0) = false := beq_eq_false_iff_ne.mpr c32
           have c32b1 : (x1003_27 != 0) = true := bne_iff_ne.mpr c32
           simp only [Option.some.injEq, Prod.mk.injEq] at H
           obtain ⟨rfl, rfl, rfl, rfl, rfl⟩ := H
           obtain ⟨ASz41_0, cSz41_0, HGz41, hgz41, HSz41_0⟩ := HI0.out
           have hcz41_0 := cellS96_0 HGz41
           have hcz41_1 := cellS96_1 HGz41
           have hcz41_2 := cellS96_2 HGz41
           have hcz41_3 := cellS96_3 HGz41
           have hcz41_4 := cellS96_4 HGz41
           have hfz41_1 := bfz HGz41 1
           have hfz41_2 := bfz HGz41 2
           have hfz41_3 := bfz HGz41 3
           have hfz41_4 := bfz HGz41 4
           clear HGz41 hgz41
           go_wp2
           go_ret
           exact ⟨_, by first | rfl | (simp [errW_none, errW_some] <;> rfl) | (simp [*, errW_none, errW_some] <;> rfl), by first | exact Kd.R_nil _ _ _ _ _ | exact Kd.N_nil _ _ _ _ _ | exact Kd.V_nil _ _ _ _ _ | exact Kd.Q_nil _ _ _ _ _ | exact Kd.S_nil _ _ _ _ _, by repeat (first | (with_reducible first | exact HI0.out | apply IsS96.alloc | apply IsS96.drewN | apply IsS96.drew | apply IsS96.set_1 | apply IsS96.set_2 | apply IsS96.set_3 | apply IsS96.set_4) | exact HI0.out), by repeat (first | (with_reducible first | exact HB.out | apply bal | apply pbdN | apply bdr1 | refine below_set ?_ (IsS96.ge HI0.out)) | exact HB.out), by repeat (first | (with_reducible first | exact HK.out | apply KeepBut.set_ | apply kdrN | apply keep_drew | apply kal) | exact HK.out)⟩
     ·rw [if_neg c18] at H
      have c18b0 : (t611 == 117) = false := beq_eq_false_iff_ne.mpr c18
      have c18b1 : (t611 != 117) = true := bne_iff_ne.mpr c18
      replace H := Option.bind_eq_some_iff.mp H
      obtain ⟨⟨t623, t624, t625, t626⟩, A420, H⟩ := H
      replace H : (some (([] : List Int), t623, t624, t625, t626)) = some (r1, r2, r3, r4, r5) := H
      have A42 := Aside0.mk A420
      clear A420
      simp only [Option.some.injEq, Prod.mk.injEq] at H
      obtain ⟨rfl, rfl, rfl, rfl, rfl⟩ := H
      obtain ⟨ASz43_0, cSz43_0, HGz43, hgz43, HSz43_0⟩ := HI0.out
      have hcz43_0 := cellS96_0 HGz43
      have hcz43_1 := cellS96_1 HGz43
      have hcz43_2 := cellS96_2 HGz43
      have hcz43_3 := cellS96_3 HGz43
      have hcz43_4 := cellS96_4 HGz43
      have hfz43_1 := bfz HGz43 1
      have hfz43_2 := bfz HGz43 2
      have hfz43_3 := bfz HGz43 3
      have hfz43_4 := bfz HGz43 4
      clear HGz43 hgz43
      go_wp2_with (first | ((with_reducible refine gate_callee (f := 46) rfl ?_); refine goesL_ (some 61) rfl rfl Tryd.func46 (by kernel_rfl) rfl #[.pointer (some ⟨g, 0, none⟩), .int .i64 6, .int .i64 x1001_1] rfl (by (try simp only [List.map_toArray, List.map_cons, List.map_nil]); first | done | rfl | (simp only [List.length_drop, List.length_take]; rfl)) ?_; (with_reducible refine (rR_fail.calls g s0_0 x1001_1 t613 t614 t615 6 x1001_1 t623 t624 t625 t626 w0 _ ?side1 ?side2 A42.out).mono ?_); (case side1 => repeat (first | (with_reducible first | exact HI0.out | apply IsS96.alloc | apply IsS96.drewN | apply IsS96.drew | apply IsS96.set_1 | apply IsS96.set_2 | apply IsS96.set_3 | apply IsS96.set_4) | exact HI0.out)); (case side2 => repeat (first | (with_reducible first | exact HB.out | apply bal | apply pbdN | apply bdr1 | refine below_set ?_ (IsS96.ge HI0.out)) | exact HB.out)); rintro e w44 ⟨rfl, hi, hb, hk⟩; refine ⟨_, rfl, ?_⟩; have n0_ := Aside0.mk (Kd.R_mono (Kd.R_keep (IsS96.apart (show IsS96 w0 _ g s0_0 x1001_1 t613 t614 t615 from by repeat (first | (with_reducible first | exact HI0.out | apply IsS96.alloc | apply IsS96.drewN | apply IsS96.drew | apply IsS96.set_1 | apply IsS96.set_2 | apply IsS96.set_3 | apply IsS96.set_4) | exact HI0.out)) (by (with_reducible repeat (first | apply Kd.R_alloc | apply Kd.R_drewN | apply Kd.R_drew)); exact HO_6.out) (by decide)) hk (fun _ h => h.2)) (fun _ h => h.1)); have n1_ := Aside0.mk (KeepBut.trans (by repeat (first | (with_reducible first | exact HK.out | apply KeepBut.set_ | apply kdrN | apply keep_drew | apply kal) | exact HK.out)) hk (.inl rfl)); have n2_ := Aside0.mk (hb); have n3_ := Aside0.mk (hi); clear HO_6; clear HK; clear HB; clear HI0; have HO_6 := n0_; have HK := n1_; have HB := n2_; have HI0 := n3_; clear n0_ n1_ n2_ n3_; (try clear hb); (try clear hb2); (try clear hk); (try clear hi)))
      go_ret
      exact ⟨_, by first | rfl | (simp [errW_none, errW_some] <;> rfl) | (simp [*, errW_none, errW_some] <;> rfl), by first | exact Kd.R_nil _ _ _ _ _ | exact Kd.N_nil _ _ _ _ _ | exact Kd.V_nil _ _ _ _ _ | exact Kd.Q_nil _ _ _ _ _ | exact Kd.S_nil _ _ _ _ _, by repeat (first | (with_reducible first | exact HI0.out | apply IsS96.alloc | apply IsS96.drewN | apply IsS96.drew | apply IsS96.set_1 | apply IsS96.set_2 | apply IsS96.set_3 | apply IsS96.set_4) | exact HI0.out), by repeat (first | (with_reducible first | exact HB.out | apply bal | apply pbdN | apply bdr1 | refine below_set ?_ (IsS96.ge HI0.out)) | exact HB.out), by repeat (first | (with_reducible first | exact HK.out | apply KeepBut.set_ | apply kdrN | apply keep_drew | apply kal) | exact HK.out)⟩
 ·rw [if_neg c3] at H
  have c3b0 : (t614 == 0) = false := beq_eq_false_iff_ne.mpr c3
  have c3b1 : (t614 != 0) = true := bne_iff_ne.mpr c3
  simp only [Option.some.injEq, Prod.mk.injEq] at H
  obtain ⟨rfl, rfl, rfl, rfl, rfl⟩ := H
  obtain ⟨ASz45_0, cSz45_0, HGz45, hgz45, HSz45_0⟩ := HI0.out
  have hcz45_0 := cellS96_0 HGz45
  have hcz45_1 := cellS96_1 HGz45
  have hcz45_2 := cellS96_2 HGz45
  have hcz45_3 := cellS96_3 HGz45
  have hcz45_4 := cellS96_4 HGz45
  have hfz45_1 := bfz HGz45 1
  have hfz45_2 := bfz HGz45 2
  have hfz45_3 := bfz HGz45 3
  have hfz45_4 := bfz HGz45 4
  clear HGz45 hgz45
  go_enter Tryd.func89, Tryd.ntmps89
  go_wp2_with (first | ((with_reducible refine gate_callee (f := 65) rfl ?_); refine goesL_ (some 23) rfl rfl Tryd.func65 (by kernel_rfl) rfl #[.pointer (some ⟨g, 0, none⟩)] rfl (by (try simp only [List.map_toArray, List.map_cons, List.map_nil]); first | done | rfl | (simp only [List.length_drop, List.length_take]; rfl)) ?_; (with_reducible refine (rR_peek.calls g s0_0 (wrap64 (s0_1 + 1)) s0_2 s0_3 s0_4 t611 t612 t613 t614 t615 w0 _ ?side1 ?side2 A2.out).mono ?_); (case side1 => repeat (first | (with_reducible first | exact HI0.out | apply IsS96.alloc | apply IsS96.drewN | apply IsS96.drew | apply IsS96.set_1 | apply IsS96.set_2 | apply IsS96.set_3 | apply IsS96.set_4) | exact HI0.out)); (case side2 => repeat (first | (with_reducible first | exact HB.out | apply bal | apply pbdN | apply bdr1 | refine below_set ?_ (IsS96.ge HI0.out)) | exact HB.out)); rintro e w46 ⟨rfl, hi, hb, hk⟩; refine ⟨_, rfl, ?_⟩; have n0_ := Aside0.mk (KeepBut.trans (by repeat (first | (with_reducible first | exact HK.out | apply KeepBut.set_ | apply kdrN | apply keep_drew | apply kal) | exact HK.out)) hk (.inl rfl)); have n1_ := Aside0.mk (hb); have n2_ := Aside0.mk (hi); clear HK; clear HB; clear HI0; have HK := n0_; have HB := n1_; have HI0 := n2_; clear n0_ n1_ n2_; (try clear hb); (try clear hb2); (try clear hk); (try clear hi); obtain ⟨ASz47_0, cSz47_0, HGz47, hgz47, HSz47_0⟩ := HI0.out; have hcz47_0 := cellS96_0 HGz47; have hcz47_1 := cellS96_1 HGz47; have hcz47_2 := cellS96_2 HGz47; have hcz47_3 := cellS96_3 HGz47; have hcz47_4 := cellS96_4 HGz47; have hfz47_1 := bfz HGz47 1; have hfz47_2 := bfz HGz47 2; have hfz47_3 := bfz HGz47 3; have hfz47_4 := bfz HGz47 4; clear HGz47 hgz47))
  go_ret
  exact ⟨_, by first | rfl | (simp [errW_none, errW_some] <;> rfl) | (simp [*, errW_none, errW_some] <;> rfl), by first | exact Kd.R_nil _ _ _ _ _ | exact Kd.N_nil _ _ _ _ _ | exact Kd.V_nil _ _ _ _ _ | exact Kd.Q_nil _ _ _ _ _ | exact Kd.S_nil _ _ _ _ _, by repeat (first | (with_reducible first | exact HI0.out | apply IsS96.alloc | apply IsS96.drewN | apply IsS96.drew | apply IsS96.set_1 | apply IsS96.set_2 | apply IsS96.set_3 | apply IsS96.set_4) | exact HI0.out), by repeat (first | (with_reducible first | exact HB.out | apply bal | apply pbdN | apply bdr1 | refine below_set ?_ (IsS96.ge HI0.out)) | exact HB.out), by repeat (first | (with_reducible first | exact HK.out | apply KeepBut.set_ | apply kdrN | apply keep_drew | apply kal) | exact HK.out)⟩
end Go.Proofs.YteighppcdpaekaaDoor.P
end
