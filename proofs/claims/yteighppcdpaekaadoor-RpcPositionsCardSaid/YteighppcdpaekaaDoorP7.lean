/- Walks and words of this session, put together by a program of this session (pack.py). Conditions: as each text says. -/
import Derived.Test.YteighppcdpaekaaDoorP2
import Derived.Test.YteighppcdpaekaaDoorP4
import Derived.Test.YteighppcdpaekaaDoorP5
import Derived.Test.YteighppcdpaekaaDoorP6
set_option linter.unusedVariables false
set_option linter.unusedSimpArgs false
section
namespace Go.Proofs.YteighppcdpaekaaDoor.P
open Go.RowKit Go.Proofs.YteighppcdpaekaaDoorW.PrintWords Go.Proofs.YteighppcdpaekaaDoorW.PrintLast Go.Proofs.YteighppcdpaekaaDoorW.PrintMore
attribute [local go_sem] max2_int min2_int max_two min_two max_three min_three max_four min_four
set_option linter.unusedVariables false
set_option linter.unusedSimpArgs false
def rR_text.l0 : Nat → List Int → List Int → Int → Int → Int → Int → Option (ByteArray × Int × Int × Int × Int)
 | 0, _, _, _, _, _, _ => none
 | k + 1, x3, x1000, x1001, x1002, x1003, x1004 => if x1003 = 0 then ((rR_peek.f x1000 x1001 x1002 x1003 x1004).bind fun bt649 => (if bt649.2.2.2.1 = 0 then (if bt649.1 = 34 then (some (strOfNums x3, wrap64 (bt649.2.1 + 1), bt649.2.2.1, bt649.2.2.2.1, bt649.2.2.2.2)) else (if bt649.1 < 32 then ((rR_fail.f x1000 bt649.2.1 bt649.2.2.1 bt649.2.2.2.1 bt649.2.2.2.2 6 bt649.2.1).bind fun bt654 => (rR_text.l0 k x3 x1000 bt654.1 bt654.2.1 bt654.2.2.1 bt654.2.2.2)) else (if bt649.1 = 92 then ((rR_escape.f k x1000 bt649.2.1 bt649.2.2.1 bt649.2.2.2.1 bt649.2.2.2.2).bind fun bt658 => (if x3.length + bt658.1.length < 140737488355328 then (rR_text.l0 k (x3 ++ bt658.1) x1000 bt658.2.1 bt658.2.2.1 bt658.2.2.2.1 bt658.2.2.2.2) else (none))) else (if x3.length < 140737488355328 then (rR_text.l0 k (x3 ++ [(bt649.1) % 256]) x1000 (wrap64 (bt649.2.1 + 1)) bt649.2.2.1 bt649.2.2.2.1 bt649.2.2.2.2) else (none))))) else (some ((⟨#[]⟩ : ByteArray), bt649.2.1, bt649.2.2.1, bt649.2.2.2.1, bt649.2.2.2.2)))) else (some ((⟨#[]⟩ : ByteArray), x1001, x1002, x1003, x1004))
def rR_text.f (k : Nat) (s0_0 : List Int) (s0_1 : Int) (s0_2 : Int) (s0_3 : Int) (s0_4 : Int) : Option (ByteArray × Int × Int × Int × Int) := (rR_must.f k s0_0 s0_1 s0_2 s0_3 s0_4 34).bind fun bt645 => (rR_text.l0 k ([] : List Int) s0_0 bt645.1 bt645.2.1 bt645.2.2.1 bt645.2.2.2)
set_option maxHeartbeats 8000000 in
set_option maxRecDepth 100000 in
theorem rR_text.calls (k : Nat) (g : Nat) (s0_0 : List Int) (s0_1 : Int) (s0_2 : Int) (s0_3 : Int) (s0_4 : Int) (r1 : ByteArray) (r2 : Int) (r3 : Int) (r4 : Int) (r5 : Int) (w0 w : World) (hI : IsS96 w0 w g s0_0 s0_1 s0_2 s0_3 s0_4) (hB : Below w0.heap.size w0 w) (h : rR_text.f k s0_0 s0_1 s0_2 s0_3 s0_4 = some (r1, r2, r3, r4, r5)) :
  Calls Tryd.prog 68 #[.pointer (some ⟨g, 0, none⟩)] w fun e w' => e = .returned (.string r1) ∧ IsS96 w0 w' g s0_0 r2 r3 r4 r5 ∧ Below w0.heap.size w0 w' ∧ KeepBut w w' g none := by
 have HI0 := Aside0.mk hI
 have HK := Aside0.mk (KeepBut.refl w g none)
 have HL := Aside0.mk hB.size
 clear hI
 have HW0 := Aside0.mk hB.size
 have HB := Aside0.mk hB
 clear hB
 have H : ((rR_must.f k s0_0 s0_1 s0_2 s0_3 s0_4 34).bind fun bt645 => (rR_text.l0 k ([] : List Int) s0_0 bt645.1 bt645.2.1 bt645.2.2.1 bt645.2.2.2)) = some (r1, r2, r3, r4, r5) := h
 clear h
 replace H := Option.bind_eq_some_iff.mp H
 obtain ⟨⟨t645, t646, t647, t648⟩, A20, H⟩ := H
 replace H : (rR_text.l0 k ([] : List Int) s0_0 t645 t646 t647 t648) = some (r1, r2, r3, r4, r5) := H
 have A2 := Aside0.mk A20
 clear A20
 have H' := Aside0.mk H
 clear H
 go_enter Tryd.func68, Tryd.ntmps68
 go_wp2_with (first | ((with_reducible refine gate_callee (f := 87) rfl ?_); refine goesL_ (some 6) rfl rfl Tryd.func87 (by kernel_rfl) rfl #[.pointer (some ⟨g, 0, none⟩), .int .i64 34] rfl (by (try simp only [List.map_toArray, List.map_cons, List.map_nil]); first | done | rfl | (simp only [List.length_drop, List.length_take]; rfl)) ?_; (with_reducible refine (rR_must.calls k g s0_0 s0_1 s0_2 s0_3 s0_4 34 t645 t646 t647 t648 w0 _ ?side1 ?side2 A2.out).mono ?_); (case side1 => repeat (first | (with_reducible first | exact HI0.out | apply IsS96.alloc | apply IsS96.drewN | apply IsS96.drew | apply IsS96.set_1 | apply IsS96.set_2 | apply IsS96.set_3 | apply IsS96.set_4) | exact HI0.out)); (case side2 => repeat (first | (with_reducible first | exact HB.out | apply bal | apply pbdN | apply bdr1 | refine below_set ?_ (IsS96.ge HI0.out)) | exact HB.out)); rintro e w3 ⟨rfl, hi, hb, hk⟩; refine ⟨_, rfl, ?_⟩; have n0_ := Aside0.mk (KeepBut.trans (by repeat (first | (with_reducible first | exact HK.out | apply KeepBut.set_ | apply kdrN | apply keep_drew | apply kal) | exact HK.out)) hk (.inl rfl)); have n1_ := Aside0.mk (hb); have n2_ := Aside0.mk (hi); clear HK; clear HB; clear HI0; have HK := n0_; have HB := n1_; have HI0 := n2_; clear n0_ n1_ n2_; (try clear hb); (try clear hb2); (try clear hk); (try clear hi)))
 go_loopg [3] k (fun kq v3 w' => ∃ (x3_1 : List Int) (x1001_1 : Int) (x1002_1 : Int) (x1003_1 : Int) (x1004_1 : Int), Aside0 (rR_text.l0 kq x3_1 s0_0 x1001_1 x1002_1 x1003_1 x1004_1 = some (r1, r2, r3, r4, r5)) ∧ Aside0 (kq ≤ k) ∧ Aside0 (Kd.R (Kd.int .u8) 5 w' w.heap.size (fun _ => True) v3 x3_1) ∧ Aside0 (IsS96 w0 w' g s0_0 x1001_1 x1002_1 x1003_1 x1004_1) ∧ Aside0 (KeepBut w w' g none) ∧ Aside0 (Below w0.heap.size w0 w'))
 case atStart => exact ⟨(([] : List Int)), (t645), (t646), (t647), (t648), H', ⟨Nat.le_refl _⟩, ⟨by first | exact Kd.R_nil _ _ _ _ _ | exact Kd.N_nil _ _ _ _ _ | exact Kd.V_nil _ _ _ _ _ | exact Kd.Q_nil _ _ _ _ _ | exact Kd.S_nil _ _ _ _ _⟩, ⟨by repeat (first | (with_reducible first | exact HI0.out | apply IsS96.alloc | apply IsS96.drewN | apply IsS96.drew | apply IsS96.set_1 | apply IsS96.set_2 | apply IsS96.set_3 | apply IsS96.set_4) | exact HI0.out)⟩, ⟨by repeat (first | (with_reducible first | exact HK.out | apply KeepBut.set_ | apply kdrN | apply keep_drew | apply kal) | exact HK.out)⟩, ⟨by repeat (first | (with_reducible first | exact HB.out | apply bal | apply pbdN | apply bdr1 | refine below_set ?_ (IsS96.ge HI0.out)) | exact HB.out)⟩⟩
 case round =>
  clear H'
  try clear p2
  obtain ⟨x3_1, x1001_1, x1002_1, x1003_1, x1004_1, HA, HK1, HO_3, HI0, HK, HB⟩ := hrel
  cases gk with
  | zero => exact absurd HA.out (by simp [rR_text.l0])
  | succ k1 =>
   have H := HA.out
   clear HA
   simp only [rR_text.l0] at H
   by_cases c4 : x1003_1 = 0
   ·rw [if_pos c4] at H
    have c4b0 : (x1003_1 == 0) = true := beq_iff_eq.mpr c4
    have c4b1 : (x1003_1 != 0) = false := bne_eq_false_iff_eq.mpr c4
    clear c4
    replace H := Option.bind_eq_some_iff.mp H
    obtain ⟨⟨t649, t650, t651, t652, t653⟩, A50, H⟩ := H
    replace H : (if t652 = 0 then (if t649 = 34 then (some (strOfNums x3_1, wrap64 (t650 + 1), t651, t652, t653)) else (if t649 < 32 then ((rR_fail.f s0_0 t650 t651 t652 t653 6 t650).bind fun bt654 => (rR_text.l0 k1 x3_1 s0_0 bt654.1 bt654.2.1 bt654.2.2.1 bt654.2.2.2)) else (if t649 = 92 then ((rR_escape.f k1 s0_0 t650 t651 t652 t653).bind fun bt658 => (if x3_1.length + bt658.1.length < 140737488355328 then (rR_text.l0 k1 (x3_1 ++ bt658.1) s0_0 bt658.2.1 bt658.2.2.1 bt658.2.2.2.1 bt658.2.2.2.2) else (none))) else (if x3_1.length < 140737488355328 then (rR_text.l0 k1 (x3_1 ++ [(t649) % 256]) s0_0 (wrap64 (t650 + 1)) t651 t652 t653) else (none))))) else (some ((⟨#[]⟩ : ByteArray), t650, t651, t652, t653))) = some (r1, r2, r3, r4, r5) := H
    have A5 := Aside0.mk A50
    clear A50
    by_cases c6 : t652 = 0
    ·rw [if_pos c6] at H
     have c6b0 : (t652 == 0) = true := beq_iff_eq.mpr c6
     have c6b1 : (t652 != 0) = false := bne_eq_false_iff_eq.mpr c6
     clear c6
     by_cases c7 : t649 = 34
     ·rw [if_pos c7] at H
      have c7b0 : (t649 == 34) = true := beq_iff_eq.mpr c7
      have c7b1 : (t649 != 34) = false := bne_eq_false_iff_eq.mpr c7
      clear c7
      simp only [Option.some.injEq, Prod.mk.injEq] at H
      obtain ⟨rfl, rfl, rfl, rfl, rfl⟩ := H
      obtain ⟨ASz8_0, cSz8_0, HGz8, hgz8, HSz8_0⟩ := HI0.out
      have hcz8_0 := cellS96_0 HGz8
      have hcz8_1 := cellS96_1 HGz8
      have hcz8_2 := cellS96_2 HGz8
      have hcz8_3 := cellS96_3 HGz8
      have hcz8_4 := cellS96_4 HGz8
      have hfz8_1 := bfz HGz8 1
      have hfz8_2 := bfz HGz8 2
      have hfz8_3 := bfz HGz8 3
      have hfz8_4 := bfz HGz8 4
      clear HGz8 hgz8
      go_wp2_with (first | ((with_reducible refine gate_callee (f := 65) rfl ?_); refine goesL_ (some 13) rfl rfl Tryd.func65 (by kernel_rfl) rfl #[.pointer (some ⟨g, 0, none⟩)] rfl (by (try simp only [List.map_toArray, List.map_cons, List.map_nil]); first | done | rfl | (simp only [List.length_drop, List.length_take]; rfl)) ?_; (with_reducible refine (rR_peek.calls g s0_0 x1001_1 x1002_1 x1003_1 x1004_1 t649 t650 t651 t652 t653 w0 _ ?side1 ?side2 A5.out).mono ?_); (case side1 => repeat (first | (with_reducible first | exact HI0.out | apply IsS96.alloc | apply IsS96.drewN | apply IsS96.drew | apply IsS96.set_1 | apply IsS96.set_2 | apply IsS96.set_3 | apply IsS96.set_4) | exact HI0.out)); (case side2 => repeat (first | (with_reducible first | exact HB.out | apply bal | apply pbdN | apply bdr1 | refine below_set ?_ (IsS96.ge HI0.out)) | exact HB.out)); rintro e w9 ⟨rfl, hi, hb, hk⟩; refine ⟨_, rfl, ?_⟩; have n0_ := Aside0.mk (Kd.R_mono (Kd.R_keep (IsS96.apart (show IsS96 w0 _ g s0_0 x1001_1 x1002_1 x1003_1 x1004_1 from by repeat (first | (with_reducible first | exact HI0.out | apply IsS96.alloc | apply IsS96.drewN | apply IsS96.drew | apply IsS96.set_1 | apply IsS96.set_2 | apply IsS96.set_3 | apply IsS96.set_4) | exact HI0.out)) (by (with_reducible repeat (first | apply Kd.R_alloc | apply Kd.R_drewN | apply Kd.R_drew)); exact HO_3.out) (by decide)) hk (fun _ h => h.2)) (fun _ h => h.1)); have n1_ := Aside0.mk (KeepBut.trans (by repeat (first | (with_reducible first | exact HK.out | apply KeepBut.set_ | apply kdrN | apply keep_drew | apply kal) | exact HK.out)) hk (.inl rfl)); have n2_ := Aside0.mk (hb); have n3_ := Aside0.mk (hi); clear HO_3; clear HK; clear HB; clear HI0; have HO_3 := n0_; have HK := n1_; have HB := n2_; have HI0 := n3_; clear n0_ n1_ n2_ n3_; (try clear hb); (try clear hb2); (try clear hk); (try clear hi); obtain ⟨ASz10_0, cSz10_0, HGz10, hgz10, HSz10_0⟩ := HI0.out; have hcz10_0 := cellS96_0 HGz10; have hcz10_1 := cellS96_1 HGz10; have hcz10_2 := cellS96_2 HGz10; have hcz10_3 := cellS96_3 HGz10; have hcz10_4 := cellS96_4 HGz10; have hfz10_1 := bfz HGz10 1; have hfz10_2 := bfz HGz10 2; have hfz10_3 := bfz HGz10 3; have hfz10_4 := bfz HGz10 4; clear HGz10 hgz10; have hcv11 := own_string (P := Tryd.prog) Tryd.underlying35 Tryd.underlying5 Tryd.underlying9 (Kd.own_of_R HO_3.out); have hcv11b := fun u_ => own_string (P := Tryd.prog) Tryd.underlying35 Tryd.underlying5 Tryd.underlying9 (Kd.own_of_R (Kd.R_far (p := ⟨g, 1, none⟩) (IsS96.apart HI0.out HO_3.out (by decide)) (fun _ hk => hk.2) u_))))
      go_ret
      exact ⟨by first | rfl | (simp [errW_none, errW_some] <;> rfl) | (simp [*, errW_none, errW_some] <;> rfl), by repeat (first | (with_reducible first | exact HI0.out | apply IsS96.alloc | apply IsS96.drewN | apply IsS96.drew | apply IsS96.set_1 | apply IsS96.set_2 | apply IsS96.set_3 | apply IsS96.set_4) | exact HI0.out), by repeat (first | (with_reducible first | exact HB.out | apply bal | apply pbdN | apply bdr1 | refine below_set ?_ (IsS96.ge HI0.out)) | exact HB.out), by repeat (first | (with_reducible first | exact HK.out | apply KeepBut.set_ | apply kdrN | apply keep_drew | apply kal) | exact HK.out)⟩
     ·rw [if_neg c7] at H
      have c7b0 : (t649 == 34) = false := beq_eq_false_iff_ne.mpr c7
      have c7b1 : (t649 != 34) = true := bne_iff_ne.mpr c7
      by_cases c12 : t649 < 32
      ·rw [if_pos c12] at H
       have c12b0 : decide (t649 < 32) = true := decide_eq_true c12
       clear c12
       replace H := Option.bind_eq_some_iff.mp H
       obtain ⟨⟨t654, t655, t656, t657⟩, A130, H⟩ := H
       replace H : (rR_text.l0 k1 x3_1 s0_0 t654 t655 t656 t657) = some (r1, r2, r3, r4, r5) := H
       have A13 := Aside0.mk A130
       clear A130
       have H' := Aside0.mk H
       clear H
       obtain ⟨ASz14_0, cSz14_0, HGz14, hgz14, HSz14_0⟩ := HI0.out
       have hcz14_0 := cellS96_0 HGz14
       have hcz14_1 := cellS96_1 HGz14
       have hcz14_2 := cellS96_2 HGz14
       have hcz14_3 := cellS96_3 HGz14
       have hcz14_4 := cellS96_4 HGz14
       have hfz14_1 := bfz HGz14 1
       have hfz14_2 := bfz HGz14 2
       have hfz14_3 := bfz HGz14 3
       have hfz14_4 := bfz HGz14 4
       clear HGz14 hgz14
       go_wp2_with (first | ((with_reducible refine gate_callee (f := 65) rfl ?_); refine goesL_ (some 13) rfl rfl Tryd.func65 (by kernel_rfl) rfl #[.pointer (some ⟨g, 0, none⟩)] rfl (by (try simp only [List.map_toArray, List.map_cons, List.map_nil]); first | done | rfl | (simp only [List.length_drop, List.length_take]; rfl)) ?_; (with_reducible refine (rR_peek.calls g s0_0 x1001_1 x1002_1 x1003_1 x1004_1 t649 t650 t651 t652 t653 w0 _ ?side1 ?side2 A5.out).mono ?_); (case side1 => repeat (first | (with_reducible first | exact HI0.out | apply IsS96.alloc | apply IsS96.drewN | apply IsS96.drew | apply IsS96.set_1 | apply IsS96.set_2 | apply IsS96.set_3 | apply IsS96.set_4) | exact HI0.out)); (case side2 => repeat (first | (with_reducible first | exact HB.out | apply bal | apply pbdN | apply bdr1 | refine below_set ?_ (IsS96.ge HI0.out)) | exact HB.out)); rintro e w15 ⟨rfl, hi, hb, hk⟩; refine ⟨_, rfl, ?_⟩; have n0_ := Aside0.mk (Kd.R_mono (Kd.R_keep (IsS96.apart (show IsS96 w0 _ g s0_0 x1001_1 x1002_1 x1003_1 x1004_1 from by repeat (first | (with_reducible first | exact HI0.out | apply IsS96.alloc | apply IsS96.drewN | apply IsS96.drew | apply IsS96.set_1 | apply IsS96.set_2 | apply IsS96.set_3 | apply IsS96.set_4) | exact HI0.out)) (by (with_reducible repeat (first | apply Kd.R_alloc | apply Kd.R_drewN | apply Kd.R_drew)); exact HO_3.out) (by decide)) hk (fun _ h => h.2)) (fun _ h => h.1)); have n1_ := Aside0.mk (KeepBut.trans (by repeat (first | (with_reducible first | exact HK.out | apply KeepBut.set_ | apply kdrN | apply keep_drew | apply kal) | exact HK.out)) hk (.inl rfl)); have n2_ := Aside0.mk (hb); have n3_ := Aside0.mk (hi); clear HO_3; clear HK; clear HB; clear HI0; have HO_3 := n0_; have HK := n1_; have HB := n2_; have HI0 := n3_; clear n0_ n1_ n2_ n3_; (try clear hb); (try clear hb2); (try clear hk); (try clear hi); obtain ⟨ASz16_0, cSz16_0, HGz16, hgz16, HSz16_0⟩ := HI0.out; have hcz16_0 := cellS96_0 HGz16; have hcz16_1 := cellS96_1 HGz16; have hcz16_2 := cellS96_2 HGz16; have hcz16_3 := cellS96_3 HGz16; have hcz16_4 := cellS96_4 HGz16; have hfz16_1 := bfz HGz16 1; have hfz16_2 := bfz HGz16 2; have hfz16_3 := bfz HGz16 3; have hfz16_4 := bfz HGz16 4; clear HGz16 hgz16) | ((with_reducible refine gate_callee (f := 46) rfl ?_); refine goesL_ (some 37) rfl rfl Tryd.func46 (by kernel_rfl) rfl #[.pointer (some ⟨g, 0, none⟩), .int .i64 6, .int .i64 t650] rfl (by (try simp only [List.map_toArray, List.map_cons, List.map_nil]); first | done | rfl | (simp only [List.length_drop, List.length_take]; rfl)) ?_; (with_reducible refine (rR_fail.calls g s0_0 t650 t651 t652 t653 6 t650 t654 t655 t656 t657 w0 _ ?side1 ?side2 A13.out).mono ?_); (case side1 => repeat (first | (with_reducible first | exact HI0.out | apply IsS96.alloc | apply IsS96.drewN | apply IsS96.drew | apply IsS96.set_1 | apply IsS96.set_2 | apply IsS96.set_3 | apply IsS96.set_4) | exact HI0.out)); (case side2 => repeat (first | (with_reducible first | exact HB.out | apply bal | apply pbdN | apply bdr1 | refine below_set ?_ (IsS96.ge HI0.out)) | exact HB.out)); rintro e w17 ⟨rfl, hi, hb, hk⟩; refine ⟨_, rfl, ?_⟩; have n0_ := Aside0.mk (Kd.R_mono (Kd.R_keep (IsS96.apart (show IsS96 w0 _ g s0_0 t650 t651 t652 t653 from by repeat (first | (with_reducible first | exact HI0.out | apply IsS96.alloc | apply IsS96.drewN | apply IsS96.drew | apply IsS96.set_1 | apply IsS96.set_2 | apply IsS96.set_3 | apply IsS96.set_4) | exact HI0.out)) (by (with_reducible repeat (first | apply Kd.R_alloc | apply Kd.R_drewN | apply Kd.R_drew)); exact HO_3.out) (by decide)) hk (fun _ h => h.2)) (fun _ h => h.1)); have n1_ := Aside0.mk (KeepBut.trans (by repeat (first | (with_reducible first | exact HK.out | apply KeepBut.set_ | apply kdrN | apply keep_drew | apply kal) | exact HK.out)) hk (.inl rfl)); have n2_ := Aside0.mk (hb); have n3_ := Aside0.mk (hi); clear HO_3; clear HK; clear HB; clear HI0; have HO_3 := n0_; have HK := n1_; have HB := n2_; have HI0 := n3_; clear n0_ n1_ n2_ n3_; (try clear hb); (try clear hb2); (try clear hk); (try clear hi)))
       go_roundg k1
       case measure => have := HK1.out; omega
       case rel => exact ⟨(x3_1), (t654), (t655), (t656), (t657), H', ⟨by have := HK1.out; omega⟩, ⟨by (with_reducible repeat (first | apply Kd.R_alloc | apply Kd.R_drewN | apply Kd.R_drew)); exact HO_3.out⟩, ⟨by repeat (first | (with_reducible first | exact HI0.out | apply IsS96.alloc | apply IsS96.drewN | apply IsS96.drew | apply IsS96.set_1 | apply IsS96.set_2 | apply IsS96.set_3 | apply IsS96.set_4) | exact HI0.out)⟩, ⟨by repeat (first | (with_reducible first | exact HK.out | apply KeepBut.set_ | apply kdrN | apply keep_drew | apply kal) | exact HK.out)⟩, ⟨by repeat (first | (with_reducible first | exact HB.out | apply bal | apply pbdN | apply bdr1 | refine below_set ?_ (IsS96.ge HI0.out)) | exact HB.out)⟩⟩
      ·rw [if_neg c12] at H
       have c12b0 : decide (t649 < 32) = false := decide_eq_false c12
       clear c12
       by_cases c18 : t649 = 92
       ·rw [if_pos c18] at H
        have c18b0 : (t649 == 92) = true := beq_iff_eq.mpr c18
        have c18b1 : (t649 != 92) = false := bne_eq_false_iff_eq.mpr c18
        clear c18
        replace H := Option.bind_eq_some_iff.mp H
        obtain ⟨⟨t658, t661, t662, t663, t664⟩, A190, H⟩ := H
        replace H : (if x3_1.length + t658.length < 140737488355328 then (rR_text.l0 k1 (x3_1 ++ t658) s0_0 t661 t662 t663 t664) else (none)) = some (r1, r2, r3, r4, r5) := H
        have A19 := Aside0.mk A190
        clear A190
        by_cases c20 : x3_1.length + t658.length < 140737488355328
        ·rw [if_pos c20] at H
         have LMc20 := Aside0.mk c20
         clear c20
         obtain ⟨y665, hy665⟩ : ∃ y_ : List Int, y_ = (x3_1 ++ t658) := ⟨_, rfl⟩
         replace H : (rR_text.l0 k1 y665 s0_0 t661 t662 t663 t664) = some (r1, r2, r3, r4, r5) := by first | (rw [hy665]; with_reducible exact H) | (have H2_ := (Option.bind_some _ _).symm.trans H; rw [hy665]; with_reducible exact H2_) | (have H2_ := (Option.bind_some _ _).symm.trans H; with_reducible exact H2_) | with_reducible exact H | (rw [hy665]; exact H) | exact H
         have Ny665 := Aside0.mk hy665
         clear hy665
         have H' := Aside0.mk H
         clear H
         obtain ⟨ASz21_0, cSz21_0, HGz21, hgz21, HSz21_0⟩ := HI0.out
         have hcz21_0 := cellS96_0 HGz21
         have hcz21_1 := cellS96_1 HGz21
         have hcz21_2 := cellS96_2 HGz21
         have hcz21_3 := cellS96_3 HGz21
         have hcz21_4 := cellS96_4 HGz21
         have hfz21_1 := bfz HGz21 1
         have hfz21_2 := bfz HGz21 2
         have hfz21_3 := bfz HGz21 3
         have hfz21_4 := bfz HGz21 4
         clear HGz21 hgz21
         go_wp2_with (first | ((with_reducible refine gate_callee (f := 65) rfl ?_); refine goesL_ (some 13) rfl rfl Tryd.func65 (by kernel_rfl) rfl #[.pointer (some ⟨g, 0, none⟩)] rfl (by (try simp only [List.map_toArray, List.map_cons, List.map_nil]); first | done | rfl | (simp only [List.length_drop, List.length_take]; rfl)) ?_; (with_reducible refine (rR_peek.calls g s0_0 x1001_1 x1002_1 x1003_1 x1004_1 t649 t650 t651 t652 t653 w0 _ ?side1 ?side2 A5.out).mono ?_); (case side1 => repeat (first | (with_reducible first | exact HI0.out | apply IsS96.alloc | apply IsS96.drewN | apply IsS96.drew | apply IsS96.set_1 | apply IsS96.set_2 | apply IsS96.set_3 | apply IsS96.set_4) | exact HI0.out)); (case side2 => repeat (first | (with_reducible first | exact HB.out | apply bal | apply pbdN | apply bdr1 | refine below_set ?_ (IsS96.ge HI0.out)) | exact HB.out)); rintro e w22 ⟨rfl, hi, hb, hk⟩; refine ⟨_, rfl, ?_⟩; have n0_ := Aside0.mk (Kd.R_mono (Kd.R_keep (IsS96.apart (show IsS96 w0 _ g s0_0 x1001_1 x1002_1 x1003_1 x1004_1 from by repeat (first | (with_reducible first | exact HI0.out | apply IsS96.alloc | apply IsS96.drewN | apply IsS96.drew | apply IsS96.set_1 | apply IsS96.set_2 | apply IsS96.set_3 | apply IsS96.set_4) | exact HI0.out)) (by (with_reducible repeat (first | apply Kd.R_alloc | apply Kd.R_drewN | apply Kd.R_drew)); exact HO_3.out) (by decide)) hk (fun _ h => h.2)) (fun _ h => h.1)); have n1_ := Aside0.mk (KeepBut.trans (by repeat (first | (with_reducible first | exact HK.out | apply KeepBut.set_ | apply kdrN | apply keep_drew | apply kal) | exact HK.out)) hk (.inl rfl)); have n2_ := Aside0.mk (hb); have n3_ := Aside0.mk (hi); clear HO_3; clear HK; clear HB; clear HI0; have HO_3 := n0_; have HK := n1_; have HB := n2_; have HI0 := n3_; clear n0_ n1_ n2_ n3_; (try clear hb); (try clear hb2); (try clear hk); (try clear hi); obtain ⟨ASz23_0, cSz23_0, HGz23, hgz23, HSz23_0⟩ := HI0.out; have hcz23_0 := cellS96_0 HGz23; have hcz23_1 := cellS96_1 HGz23; have hcz23_2 := cellS96_2 HGz23; have hcz23_3 := cellS96_3 HGz23; have hcz23_4 := cellS96_4 HGz23; have hfz23_1 := bfz HGz23 1; have hfz23_2 := bfz HGz23 2; have hfz23_3 := bfz HGz23 3; have hfz23_4 := bfz HGz23 4; clear HGz23 hgz23) | ((with_reducible refine gate_callee (f := 89) rfl ?_); refine goesL_ (some 42) rfl rfl Tryd.func89 (by kernel_rfl) rfl #[.pointer (some ⟨g, 0, none⟩)] rfl (by (try simp only [List.map_toArray, List.map_cons, List.map_nil]); first | done | rfl | (simp only [List.length_drop, List.length_take]; rfl)) ?_; (with_reducible refine (rR_escape.calls k1 g s0_0 t650 t651 t652 t653 t658 t661 t662 t663 t664 w0 _ ?side1 ?side2 A19.out).mono ?_); (case side1 => repeat (first | (with_reducible first | exact HI0.out | apply IsS96.alloc | apply IsS96.drewN | apply IsS96.drew | apply IsS96.set_1 | apply IsS96.set_2 | apply IsS96.set_3 | apply IsS96.set_4) | exact HI0.out)); (case side2 => repeat (first | (with_reducible first | exact HB.out | apply bal | apply pbdN | apply bdr1 | refine below_set ?_ (IsS96.ge HI0.out)) | exact HB.out)); rintro e w24 ⟨v659, rfl, ho0, hi, hb, hk⟩; refine ⟨_, rfl, ?_⟩; have n0_ := Aside0.mk (Kd.R_mono (Kd.R_told (Kd.R_oldK (IsS96.apart (show IsS96 w0 _ g s0_0 t650 t651 t652 t653 from by repeat (first | (with_reducible first | exact HI0.out | apply IsS96.alloc | apply IsS96.drewN | apply IsS96.drew | apply IsS96.set_1 | apply IsS96.set_2 | apply IsS96.set_3 | apply IsS96.set_4) | exact HI0.out)) (by (with_reducible repeat (first | apply Kd.R_alloc | apply Kd.R_drewN | apply Kd.R_drew)); exact HO_3.out) (by decide)) hk) (Kd.R_base ho0)) (fun _ h_ => h_.1)); have n1_ := Aside0.mk (Kd.R_lower (Kd.R_new' ho0 (Kd.R_lt (by (with_reducible repeat (first | apply Kd.R_alloc | apply Kd.R_drewN | apply Kd.R_drew)); exact HO_3.out))) (keep_size (w := w) (g := g) (row := none) (by repeat (first | (with_reducible first | exact HK.out | apply KeepBut.set_ | apply kdrN | apply keep_drew | apply kal) | exact HK.out)))); have n2_ := Aside0.mk (KeepBut.trans (by repeat (first | (with_reducible first | exact HK.out | apply KeepBut.set_ | apply kdrN | apply keep_drew | apply kal) | exact HK.out)) hk (.inl rfl)); have n3_ := Aside0.mk (hb); have n4_ := Aside0.mk (hi); clear HO_3; clear HK; clear HB; clear HI0; have HO_3 := n0_; have HO660 := n1_; have HK := n2_; have HB := n3_; have HI0 := n4_; clear n0_ n1_ n2_ n3_ n4_; (try clear hb); (try clear hb2); (try clear hk); (try clear hi); (try clear ho0); obtain ⟨Ao26, co26, eo26⟩ := Kd.R_slice HO660.out; subst eo26) | ((with_reducible refine gate_builtin (b := .append) (xs := #[.tmp 40, .tmp 42]) rfl ?_); at_builtin; refine Kd.R_append_rows (Kd.int .u8) w.heap.size rfl (.tmp 40) (.tmp 42) 35 5 (.int .u8 0) 1 rfl Tryd.underlying35 info5 rfl (by decide) (by omega) u3 x3_1 t658 _ _ _ (fun k_ => some k_ ≠ (.slice Ao26 t658.length co26 : Value).ownBlock) (fun _ => False) rfl rfl ?aO ?aR (fun _ _ h => h) (fun _ h => h.elim) ?aF (Below.refl _ _) ?aS ?aL ?_; (case aR => repeat (first | exact (Kd.R_reads' HO660.out).2.2 | (with_reducible refine Kd.C_alloc ?_ _) | (with_reducible refine Kd.C_drewN ?_ _) | (with_reducible refine Kd.C_drew ?_))); (case aF => exact (fun k_ hk => Kd.fresh' (Kd.R_lt (by (with_reducible repeat (first | apply Kd.R_alloc | apply Kd.R_drewN | apply Kd.R_drew)); exact HO660.out)) k_ hk)); (case aO => exact (by (with_reducible repeat (first | apply Kd.R_alloc | apply Kd.R_drewN | apply Kd.R_drew)); exact Kd.R_mono HO_3.out (fun _ hk => hk.2))); (case aS => exact (keep_size (w := w) (g := g) (row := none) (by repeat (first | (with_reducible first | exact HK.out | apply KeepBut.set_ | apply kdrN | apply keep_drew | apply kal) | exact HK.out)))); (case aL => have := LMc20.out; omega); intro v666 w25 ho hb hg hat; rw [← Ny665.out] at ho; have n0_ := Aside0.mk (IsS96.grown (by repeat (first | (with_reducible first | exact HI0.out | apply IsS96.alloc | apply IsS96.drewN | apply IsS96.drew | apply IsS96.set_1 | apply IsS96.set_2 | apply IsS96.set_3 | apply IsS96.set_4) | exact HI0.out)) hg (IsS96.own_ne HI0.out HO_3.out (by decide))); have n1_ := Aside0.mk (Kd.R_after (ok := (fun _ => True)) (by (with_reducible repeat (first | apply Kd.R_alloc | apply Kd.R_drewN | apply Kd.R_drew)); exact HO660.out) hg hat); have n2_ := Aside0.mk (below_weaken (by repeat (first | (with_reducible first | exact HB.out | apply bal | apply pbdN | apply bdr1 | refine below_set ?_ (IsS96.ge HI0.out)) | exact HB.out)) HL.out hb); have n3_ := Aside0.mk (KeepBut.trans (by repeat (first | (with_reducible first | exact HK.out | apply KeepBut.set_ | apply kdrN | apply keep_drew | apply kal) | exact HK.out)) (KeepBut.of_grown hg g) (Kd.R_base2 HO_3.out)); have n4_ := Aside0.mk (ho); clear HI0; clear HO660; clear HB; clear HK; clear HO_3; have HI0 := n0_; have HO660 := n1_; have HB := n2_; have HK := n3_; have HO667 := n4_; clear n0_ n1_ n2_ n3_ n4_; clear ho hb hg hat))
         go_roundg k1
         case measure => have := HK1.out; omega
         case rel => exact ⟨(y665), (t661), (t662), (t663), (t664), H', ⟨by have := HK1.out; omega⟩, ⟨by (with_reducible repeat (first | apply Kd.R_alloc | apply Kd.R_drewN | apply Kd.R_drew)); exact Kd.R_mono HO667.out (fun _ hk => trivial)⟩, ⟨by repeat (first | (with_reducible first | exact HI0.out | apply IsS96.alloc | apply IsS96.drewN | apply IsS96.drew | apply IsS96.set_1 | apply IsS96.set_2 | apply IsS96.set_3 | apply IsS96.set_4) | exact HI0.out)⟩, ⟨by repeat (first | (with_reducible first | exact HK.out | apply KeepBut.set_ | apply kdrN | apply keep_drew | apply kal) | exact HK.out)⟩, ⟨by repeat (first | (with_reducible first | exact HB.out | apply bal | apply pbdN | apply bdr1 | refine below_set ?_ (IsS96.ge HI0.out)) | exact HB.out)⟩⟩
        ·rw [if_neg c20] at H
         exact absurd H (by simp)
       ·rw [if_neg c18] at H
        have c18b0 : (t649 == 92) = false := beq_eq_false_iff_ne.mpr c18
        have c18b1 : (t649 != 92) = true := bne_iff_ne.mpr c18
        by_cases c27 : x3_1.length < 140737488355328
        ·rw [if_pos c27] at H
         have LMc27 := Aside0.mk c27
         clear c27
         obtain ⟨y668, hy668⟩ : ∃ y_ : List Int, y_ = (x3_1 ++ [(t649) % 256]) := ⟨_, rfl⟩
         replace H : (rR_text.l0 k1 y668 s0_0 (wrap64 (t650 + 1)) t651 t652 t653) = some (r1, r2, r3, r4, r5) := by first | (rw [hy668]; with_reducible exact H) | (have H2_ := (Option.bind_some _ _).symm.trans H; rw [hy668]; with_reducible exact H2_) | (have H2_ := (Option.bind_some _ _).symm.trans H; with_reducible exact H2_) | with_reducible exact H | (rw [hy668]; exact H) | exact H
         have Ny668 := Aside0.mk hy668
         clear hy668
         have H' := Aside0.mk H
         clear H
         obtain ⟨ASz28_0, cSz28_0, HGz28, hgz28, HSz28_0⟩ := HI0.out
         have hcz28_0 := cellS96_0 HGz28
         have hcz28_1 := cellS96_1 HGz28
         have hcz28_2 := cellS96_2 HGz28
         have hcz28_3 := cellS96_3 HGz28
         have hcz28_4 := cellS96_4 HGz28
         have hfz28_1 := bfz HGz28 1
         have hfz28_2 := bfz HGz28 2
         have hfz28_3 := bfz HGz28 3
         have hfz28_4 := bfz HGz28 4
         clear HGz28 hgz28
         go_wp2_with (first | ((with_reducible refine gate_callee (f := 65) rfl ?_); refine goesL_ (some 13) rfl rfl Tryd.func65 (by kernel_rfl) rfl #[.pointer (some ⟨g, 0, none⟩)] rfl (by (try simp only [List.map_toArray, List.map_cons, List.map_nil]); first | done | rfl | (simp only [List.length_drop, List.length_take]; rfl)) ?_; (with_reducible refine (rR_peek.calls g s0_0 x1001_1 x1002_1 x1003_1 x1004_1 t649 t650 t651 t652 t653 w0 _ ?side1 ?side2 A5.out).mono ?_); (case side1 => repeat (first | (with_reducible first | exact HI0.out | apply IsS96.alloc | apply IsS96.drewN | apply IsS96.drew | apply IsS96.set_1 | apply IsS96.set_2 | apply IsS96.set_3 | apply IsS96.set_4) | exact HI0.out)); (case side2 => repeat (first | (with_reducible first | exact HB.out | apply bal | apply pbdN | apply bdr1 | refine below_set ?_ (IsS96.ge HI0.out)) | exact HB.out)); rintro e w29 ⟨rfl, hi, hb, hk⟩; refine ⟨_, rfl, ?_⟩; have n0_ := Aside0.mk (Kd.R_mono (Kd.R_keep (IsS96.apart (show IsS96 w0 _ g s0_0 x1001_1 x1002_1 x1003_1 x1004_1 from by repeat (first | (with_reducible first | exact HI0.out | apply IsS96.alloc | apply IsS96.drewN | apply IsS96.drew | apply IsS96.set_1 | apply IsS96.set_2 | apply IsS96.set_3 | apply IsS96.set_4) | exact HI0.out)) (by (with_reducible repeat (first | apply Kd.R_alloc | apply Kd.R_drewN | apply Kd.R_drew)); exact HO_3.out) (by decide)) hk (fun _ h => h.2)) (fun _ h => h.1)); have n1_ := Aside0.mk (KeepBut.trans (by repeat (first | (with_reducible first | exact HK.out | apply KeepBut.set_ | apply kdrN | apply keep_drew | apply kal) | exact HK.out)) hk (.inl rfl)); have n2_ := Aside0.mk (hb); have n3_ := Aside0.mk (hi); clear HO_3; clear HK; clear HB; clear HI0; have HO_3 := n0_; have HK := n1_; have HB := n2_; have HI0 := n3_; clear n0_ n1_ n2_ n3_; (try clear hb); (try clear hb2); (try clear hk); (try clear hi); obtain ⟨ASz30_0, cSz30_0, HGz30, hgz30, HSz30_0⟩ := HI0.out; have hcz30_0 := cellS96_0 HGz30; have hcz30_1 := cellS96_1 HGz30; have hcz30_2 := cellS96_2 HGz30; have hcz30_3 := cellS96_3 HGz30; have hcz30_4 := cellS96_4 HGz30; have hfz30_1 := bfz HGz30 1; have hfz30_2 := bfz HGz30 2; have hfz30_3 := bfz HGz30 3; have hfz30_4 := bfz HGz30 4; clear HGz30 hgz30) | ((with_reducible refine gate_builtin (b := .append) (xs := #[.tmp 44, .tmp 47]) rfl ?_); at_builtin; refine Kd.R_append (Kd.int .u8) w.heap.size rfl (.tmp 44) (.tmp 47) 35 5 (.int .u8 0) 1 rfl Tryd.underlying35 info5 rfl (by decide) (by omega) u3 x3_1 ((t649) % 256) [.int .u8 ((t649) % 256)] (fun _ => True) (fun _ => False) rfl rfl ?aP (fun _ hk => hk.elim) ?aF ?aO (Below.refl _ _) ?aS ?aL ?_; (case aP => exact rfl); (case aF => exact (fun _ _ => trivial)); (case aO => exact (by (with_reducible repeat (first | apply Kd.R_alloc | apply Kd.R_drewN | apply Kd.R_drew)); exact HO_3.out)); (case aS => exact (keep_size (w := w) (g := g) (row := none) (by repeat (first | (with_reducible first | exact HK.out | apply KeepBut.set_ | apply kdrN | apply keep_drew | apply kal) | exact HK.out)))); (case aL => have := LMc27.out; omega); intro v669 w31 ho hb hg hat; rw [← Ny668.out] at ho; have n0_ := Aside0.mk (IsS96.grown (by repeat (first | (with_reducible first | exact HI0.out | apply IsS96.alloc | apply IsS96.drewN | apply IsS96.drew | apply IsS96.set_1 | apply IsS96.set_2 | apply IsS96.set_3 | apply IsS96.set_4) | exact HI0.out)) hg (IsS96.own_ne HI0.out HO_3.out (by decide))); have n1_ := Aside0.mk (below_weaken (by repeat (first | (with_reducible first | exact HB.out | apply bal | apply pbdN | apply bdr1 | refine below_set ?_ (IsS96.ge HI0.out)) | exact HB.out)) HL.out hb); have n2_ := Aside0.mk (KeepBut.trans (by repeat (first | (with_reducible first | exact HK.out | apply KeepBut.set_ | apply kdrN | apply keep_drew | apply kal) | exact HK.out)) (KeepBut.of_grown hg g) (Kd.R_base2 HO_3.out)); have n3_ := Aside0.mk (ho); clear HI0; clear HB; clear HK; clear HO_3; have HI0 := n0_; have HB := n1_; have HK := n2_; have HO670 := n3_; clear n0_ n1_ n2_ n3_; clear ho hb hg hat; obtain ⟨ASz32_0, cSz32_0, HGz32, hgz32, HSz32_0⟩ := HI0.out; have hcz32_0 := cellS96_0 HGz32; have hcz32_1 := cellS96_1 HGz32; have hcz32_2 := cellS96_2 HGz32; have hcz32_3 := cellS96_3 HGz32; have hcz32_4 := cellS96_4 HGz32; have hfz32_1 := bfz HGz32 1; have hfz32_2 := bfz HGz32 2; have hfz32_3 := bfz HGz32 3; have hfz32_4 := bfz HGz32 4; clear HGz32 hgz32))
         go_roundg k1
         case measure => have := HK1.out; omega
         case rel => exact ⟨(y668), (wrap64 (t650 + 1)), (t651), (t652), (t653), H', ⟨by have := HK1.out; omega⟩, ⟨by (with_reducible repeat (first | apply Kd.R_alloc | apply Kd.R_drewN | apply Kd.R_drew)); exact Kd.R_mono (Kd.R_far (p := ⟨g, 1, none⟩) (IsS96.apart HI0.out HO670.out (by decide)) (fun _ hk => hk.2) (.int .i64 (wrap64 (t650 + 1)))) (fun _ hk => trivial)⟩, ⟨by repeat (first | (with_reducible first | exact HI0.out | apply IsS96.alloc | apply IsS96.drewN | apply IsS96.drew | apply IsS96.set_1 | apply IsS96.set_2 | apply IsS96.set_3 | apply IsS96.set_4) | exact HI0.out)⟩, ⟨by repeat (first | (with_reducible first | exact HK.out | apply KeepBut.set_ | apply kdrN | apply keep_drew | apply kal) | exact HK.out)⟩, ⟨by repeat (first | (with_reducible first | exact HB.out | apply bal | apply pbdN | apply bdr1 | refine below_set ?_ (IsS96.ge HI0.out)) | exact HB.out)⟩⟩
        ·rw [if_neg c27] at H
         exact absurd H (by simp)
    ·rw [if_neg c6] at H
     have c6b0 : (t652 == 0) = false := beq_eq_false_iff_ne.mpr c6
     have c6b1 : (t652 != 0) = true := bne_iff_ne.mpr c6
     simp only [Option.some.injEq, Prod.mk.injEq] at H
     obtain ⟨rfl, rfl, rfl, rfl, rfl⟩ := H
     obtain ⟨ASz33_0, cSz33_0, HGz33, hgz33, HSz33_0⟩ := HI0.out
     have hcz33_0 := cellS96_0 HGz33
     have hcz33_1 := cellS96_1 HGz33
     have hcz33_2 := cellS96_2 HGz33
     have hcz33_3 := cellS96_3 HGz33
     have hcz33_4 := cellS96_4 HGz33
     have hfz33_1 := bfz HGz33 1
     have hfz33_2 := bfz HGz33 2
     have hfz33_3 := bfz HGz33 3
     have hfz33_4 := bfz HGz33 4
     clear HGz33 hgz33
     go_wp2_with (first | ((with_reducible refine gate_callee (f := 65) rfl ?_); refine goesL_ (some 13) rfl rfl Tryd.func65 (by kernel_rfl) rfl #[.pointer (some ⟨g, 0, none⟩)] rfl (by (try simp only [List.map_toArray, List.map_cons, List.map_nil]); first | done | rfl | (simp only [List.length_drop, List.length_take]; rfl)) ?_; (with_reducible refine (rR_peek.calls g s0_0 x1001_1 x1002_1 x1003_1 x1004_1 t649 t650 t651 t652 t653 w0 _ ?side1 ?side2 A5.out).mono ?_); (case side1 => repeat (first | (with_reducible first | exact HI0.out | apply IsS96.alloc | apply IsS96.drewN | apply IsS96.drew | apply IsS96.set_1 | apply IsS96.set_2 | apply IsS96.set_3 | apply IsS96.set_4) | exact HI0.out)); (case side2 => repeat (first | (with_reducible first | exact HB.out | apply bal | apply pbdN | apply bdr1 | refine below_set ?_ (IsS96.ge HI0.out)) | exact HB.out)); rintro e w34 ⟨rfl, hi, hb, hk⟩; refine ⟨_, rfl, ?_⟩; have n0_ := Aside0.mk (Kd.R_mono (Kd.R_keep (IsS96.apart (show IsS96 w0 _ g s0_0 x1001_1 x1002_1 x1003_1 x1004_1 from by repeat (first | (with_reducible first | exact HI0.out | apply IsS96.alloc | apply IsS96.drewN | apply IsS96.drew | apply IsS96.set_1 | apply IsS96.set_2 | apply IsS96.set_3 | apply IsS96.set_4) | exact HI0.out)) (by (with_reducible repeat (first | apply Kd.R_alloc | apply Kd.R_drewN | apply Kd.R_drew)); exact HO_3.out) (by decide)) hk (fun _ h => h.2)) (fun _ h => h.1)); have n1_ := Aside0.mk (KeepBut.trans (by repeat (first | (with_reducible first | exact HK.out | apply KeepBut.set_ | apply kdrN | apply keep_drew | apply kal) | exact HK.out)) hk (.inl rfl)); have n2_ := Aside0.mk (hb); have n3_ := Aside0.mk (hi); clear HO_3; clear HK; clear HB; clear HI0; have HO_3 := n0_; have HK := n1_; have HB := n2_; have HI0 := n3_; clear n0_ n1_ n2_ n3_; (try clear hb); (try clear hb2); (try clear hk); (try clear hi); obtain ⟨ASz35_0, cSz35_0, HGz35, hgz35, HSz35_0⟩ := HI0.out; have hcz35_0 := cellS96_0 HGz35; have hcz35_1 := cellS96_1 HGz35; have hcz35_2 := cellS96_2 HGz35; have hcz35_3 := cellS96_3 HGz35; have hcz35_4 := cellS96_4 HGz35; have hfz35_1 := bfz HGz35 1; have hfz35_2 := bfz HGz35 2; have hfz35_3 := bfz HGz35 3; have hfz35_4 := bfz HGz35 4; clear HGz35 hgz35))
     go_ret
     exact ⟨by first | rfl | (simp [errW_none, errW_some] <;> rfl) | (simp [*, errW_none, errW_some] <;> rfl), by repeat (first | (with_reducible first | exact HI0.out | apply IsS96.alloc | apply IsS96.drewN | apply IsS96.drew | apply IsS96.set_1 | apply IsS96.set_2 | apply IsS96.set_3 | apply IsS96.set_4) | exact HI0.out), by repeat (first | (with_reducible first | exact HB.out | apply bal | apply pbdN | apply bdr1 | refine below_set ?_ (IsS96.ge HI0.out)) | exact HB.out), by repeat (first | (with_reducible first | exact HK.out | apply KeepBut.set_ | apply kdrN | apply keep_drew | apply kal) | exact HK.out)⟩
   ·rw [if_neg c4] at H
    have c4b0 : (x1003_1 == 0) = false := beq_eq_false_iff_ne.mpr c4
    have c4b1 : (x1003_1 != 0) = true := bne_iff_ne.mpr c4
    simp only [Option.some.injEq, Prod.mk.injEq] at H
    obtain ⟨rfl, rfl, rfl, rfl, rfl⟩ := H
    obtain ⟨ASz36_0, cSz36_0, HGz36, hgz36, HSz36_0⟩ := HI0.out
    have hcz36_0 := cellS96_0 HGz36
    have hcz36_1 := cellS96_1 HGz36
    have hcz36_2 := cellS96_2 HGz36
    have hcz36_3 := cellS96_3 HGz36
    have hcz36_4 := cellS96_4 HGz36
    have hfz36_1 := bfz HGz36 1
    have hfz36_2 := bfz HGz36 2
    have hfz36_3 := bfz HGz36 3
    have hfz36_4 := bfz HGz36 4
    clear HGz36 hgz36
    go_wp2
    go_ret
    exact ⟨by first | rfl | (simp [errW_none, errW_some] <;> rfl) | (simp [*, errW_none, errW_some] <;> rfl), by repeat (first | (with_reducible first | exact HI0.out | apply IsS96.alloc | apply IsS96.drewN | apply IsS96.drew | apply IsS96.set_1 | apply IsS96.set_2 | apply IsS96.set_3 | apply IsS96.set_4) | exact HI0.out), by repeat (first | (with_reducible first | exact HB.out | apply bal | apply pbdN | apply bdr1 | refine below_set ?_ (IsS96.ge HI0.out)) | exact HB.out), by repeat (first | (with_reducible first | exact HK.out | apply KeepBut.set_ | apply kdrN | apply keep_drew | apply kal) | exact HK.out)⟩
def rR_word.l0 : Nat → ByteArray → Int → Int → List Int → Int → Int → Int → Int → Option (Int × ByteArray × List ByteArray × (List (S44)) × Int × Int × Int × Int)
 | 0, _, _, _, _, _, _, _, _ => none
 | k + 1, x1, x2, x7, x1000, x1001, x1002, x1003, x1004 => if x7 < (x1.size : Int) then (if 0 ≤ x7 then ((rR_must.f k x1000 x1001 x1002 x1003 x1004 (wrap64 (bt x1 x7))).bind fun bt672 => (rR_word.l0 k x1 x2 (wrap64 (x7 + 1)) x1000 bt672.1 bt672.2.1 bt672.2.2.1 bt672.2.2.2)) else (none)) else (some (x2, (⟨#[]⟩ : ByteArray), ([] : List ByteArray), ([] : List (S44)), x1001, x1002, x1003, x1004))
def rR_word.f (k : Nat) (s0_0 : List Int) (s0_1 : Int) (s0_2 : Int) (s0_3 : Int) (s0_4 : Int) (a1 : ByteArray) (a2 : Int) : Option (Int × ByteArray × List ByteArray × (List (S44)) × Int × Int × Int × Int) := rR_word.l0 k a1 a2 0 s0_0 s0_1 s0_2 s0_3 s0_4
set_option maxHeartbeats 8000000 in
set_option maxRecDepth 100000 in
theorem rR_word.calls (k : Nat) (g : Nat) (s0_0 : List Int) (s0_1 : Int) (s0_2 : Int) (s0_3 : Int) (s0_4 : Int) (a1 : ByteArray) (a2 : Int) (r1 : Int) (r2 : ByteArray) (r3 : List ByteArray) (r4 : List (S44)) (r5 : Int) (r6 : Int) (r7 : Int) (r8 : Int) (w0 w : World) (hI : IsS96 w0 w g s0_0 s0_1 s0_2 s0_3 s0_4) (hB : Below w0.heap.size w0 w) (h : rR_word.f k s0_0 s0_1 s0_2 s0_3 s0_4 a1 a2 = some (r1, r2, r3, r4, r5, r6, r7, r8)) :
  Calls Tryd.prog 69 #[.pointer (some ⟨g, 0, none⟩), .string a1, .int .i64 a2] w fun e w' => ∃ v2_ v3_ : Value, e = .returned (.agg #[.int .i64 r1, .string r2, v2_, v3_]) ∧ Kd.R Kd.string 9 w' w.heap.size (fun _ => True) v2_ r3 ∧ Kd.R k44 44 w' w.heap.size (fun k_ => some k_ ≠ (v2_ : Value).ownBlock) v3_ r4 ∧ IsS96 w0 w' g s0_0 r5 r6 r7 r8 ∧ Below w0.heap.size w0 w' ∧ KeepBut w w' g none := by
 have hu44 := Tryd.underlying44
 have HI0 := Aside0.mk hI
 have HK := Aside0.mk (KeepBut.refl w g none)
 have HL := Aside0.mk hB.size
 clear hI
 have HW0 := Aside0.mk hB.size
 have HB := Aside0.mk hB
 clear hB
 have H : (rR_word.l0 k a1 a2 0 s0_0 s0_1 s0_2 s0_3 s0_4) = some (r1, r2, r3, r4, r5, r6, r7, r8) := h
 clear h
 have H' := Aside0.mk H
 clear H
 go_enter Tryd.func69, Tryd.ntmps69
 go_wp2_with (first | ((with_reducible refine gate_dst (N := 6) rfl ?_); refine box_event ?hg (N := 6) ?hd (cs := #[.int .i64 0, .string (⟨#[]⟩ : ByteArray), .slice none 0 0, .slice none 0 0]) (t := 44) ?hr ?_; (case hd => rfl); (case hg => rfl); (case hr => first | (go_simp; done) | (go_simp; rfl)); intro gb671 hg w4 hbox hb; have n0_ := Aside0.mk (IsS96.below (by repeat (first | (with_reducible first | exact HI0.out | apply IsS96.alloc | apply IsS96.drewN | apply IsS96.drew | apply IsS96.set_1 | apply IsS96.set_2 | apply IsS96.set_3 | apply IsS96.set_4) | exact HI0.out)) hb); have n1_ := Aside0.mk (KeepBut.trans (by repeat (first | (with_reducible first | exact HK.out | apply KeepBut.set_ | apply kdrN | apply keep_drew | apply kal) | exact HK.out)) (KeepBut.of_below hb g none) (.inl rfl)); have n2_ := Aside0.mk (below_step (by repeat (first | (with_reducible first | exact HB.out | apply bal | apply pbdN | apply bdr1 | refine below_set ?_ (IsS96.ge HI0.out)) | exact HB.out)) hb); have n3_ := Aside0.mk (hbox); have n4_ := Aside0.mk ((by rw [hg]; exact (keep_size (w := w) (g := g) (row := none) (by repeat (first | (with_reducible first | exact HK.out | apply KeepBut.set_ | apply kdrN | apply keep_drew | apply kal) | exact HK.out))) : w.heap.size ≤ gb671)); have n5_ := Aside0.mk ((Nat.le_trans HW0.out (by rw [hg]; exact (keep_size (w := w) (g := g) (row := none) (by repeat (first | (with_reducible first | exact HK.out | apply KeepBut.set_ | apply kdrN | apply keep_drew | apply kal) | exact HK.out))) : w.heap.size ≤ gb671) : w0.heap.size ≤ gb671)); have n6_ := Aside0.mk ((by rw [hg]; exact Nat.ne_of_lt (IsS96.lt (show IsS96 w0 _ g s0_0 s0_1 s0_2 s0_3 s0_4 from by repeat (first | (with_reducible first | exact HI0.out | apply IsS96.alloc | apply IsS96.drewN | apply IsS96.drew | apply IsS96.set_1 | apply IsS96.set_2 | apply IsS96.set_3 | apply IsS96.set_4) | exact HI0.out))) : g ≠ gb671)); have n7_ := Aside0.mk ((by rw [hg]; exact Nat.ne_of_gt (IsS96.lt (show IsS96 w0 _ g s0_0 s0_1 s0_2 s0_3 s0_4 from by repeat (first | (with_reducible first | exact HI0.out | apply IsS96.alloc | apply IsS96.drewN | apply IsS96.drew | apply IsS96.set_1 | apply IsS96.set_2 | apply IsS96.set_3 | apply IsS96.set_4) | exact HI0.out))) : gb671 ≠ g)); clear HI0; clear HK; clear HB; have HI0 := n0_; have HK := n1_; have HB := n2_; have BK671 := n3_; have GW671 := n4_; have GE671 := n5_; have NB0_671 := n6_; have NB671_0 := n7_; clear n0_ n1_ n2_ n3_ n4_ n5_ n6_ n7_; clear hb hbox hg))
 go_loopg [7] k (fun kq v7 w' => ∃ (x7_1 : Int) (x1001_1 : Int) (x1002_1 : Int) (x1003_1 : Int) (x1004_1 : Int), v7 = .int .i64 x7_1 ∧ Aside0 (rR_word.l0 kq a1 a2 x7_1 s0_0 x1001_1 x1002_1 x1003_1 x1004_1 = some (r1, r2, r3, r4, r5, r6, r7, r8)) ∧ Aside0 (kq ≤ k) ∧ Aside0 (w'.heap[gb671]? = some (.cells #[.int .i64 0, .string (⟨#[]⟩ : ByteArray), (.slice none 0 0), (.slice none 0 0)] 44 (0, 0))) ∧ Aside0 (IsS96 w0 w' g s0_0 x1001_1 x1002_1 x1003_1 x1004_1) ∧ Aside0 (KeepBut w w' g none) ∧ Aside0 (Below w0.heap.size w0 w'))
 case atStart => exact ⟨(0), (s0_1), (s0_2), (s0_3), (s0_4), (by first | rfl | (simp; done) | (simp [*]; done)), H', ⟨Nat.le_refl _⟩, ⟨by (with_reducible repeat (first | refine blk_drewN ?_ _ | refine blk_drew ?_ | refine blk_alloc ?_ _)); exact BK671.out⟩, ⟨by repeat (first | (with_reducible first | exact HI0.out | apply IsS96.alloc | apply IsS96.drewN | apply IsS96.drew | apply IsS96.set_1 | apply IsS96.set_2 | apply IsS96.set_3 | apply IsS96.set_4 | refine IsS96.far ?_ NB0_671.out _) | exact HI0.out)⟩, ⟨by repeat (first | (with_reducible first | exact HK.out | apply KeepBut.set_ | apply kdrN | apply keep_drew | apply kal | refine keep_far ?_ GW671.out _) | exact HK.out)⟩, ⟨by repeat (first | (with_reducible first | exact HB.out | apply bal | apply pbdN | apply bdr1 | refine below_set ?_ (IsS96.ge HI0.out) | refine below_set ?_ GE671.out) | exact HB.out)⟩⟩
 case round =>
  clear H'
  try clear p2
  obtain ⟨x7_1, x1001_1, x1002_1, x1003_1, x1004_1, rfl, HA, HK1, BK671, HI0, HK, HB⟩ := hrel
  cases gk with
  | zero => exact absurd HA.out (by simp [rR_word.l0])
  | succ k1 =>
   have H := HA.out
   clear HA
   simp only [rR_word.l0] at H
   by_cases c5 : x7_1 < (a1.size : Int)
   ·rw [if_pos c5] at H
    have c5b0 : decide (x7_1 < (a1.size : Int)) = true := decide_eq_true c5
    clear c5
    by_cases c6 : 0 ≤ x7_1
    ·rw [if_pos c6] at H
     have c6b0 : decide (0 ≤ x7_1) = true := decide_eq_true c6
     clear c6
     replace H := Option.bind_eq_some_iff.mp H
     obtain ⟨⟨t672, t673, t674, t675⟩, A80, H⟩ := H
     replace H : (rR_word.l0 k1 a1 a2 (wrap64 (x7_1 + 1)) s0_0 t672 t673 t674 t675) = some (r1, r2, r3, r4, r5, r6, r7, r8) := H
     have A8 := Aside0.mk A80
     clear A80
     have H' := Aside0.mk H
     clear H
     have p7 : 0 ≤ (x7_1 : Int) := of_decide_eq_true (by first | (with_reducible assumption) | assumption)
     have q7 : x7_1 < (a1.size : Int) := of_decide_eq_true (by first | (with_reducible assumption) | assumption)
     have hx7 := bt_at a1 x7_1
     replace p7 := eq_true p7
     replace q7 := eq_true q7
     go_wp2_with (first | ((with_reducible refine gate_callee (f := 87) rfl ?_); refine goesL_ (some 19) rfl rfl Tryd.func87 (by kernel_rfl) rfl #[.pointer (some ⟨g, 0, none⟩), .int .i64 (wrap64 (bt a1 x7_1))] rfl (by (try simp only [List.map_toArray, List.map_cons, List.map_nil]); first | done | rfl | (simp only [List.length_drop, List.length_take]; rfl)) ?_; (with_reducible refine (rR_must.calls k1 g s0_0 x1001_1 x1002_1 x1003_1 x1004_1 (wrap64 (bt a1 x7_1)) t672 t673 t674 t675 w0 _ ?side1 ?side2 A8.out).mono ?_); (case side1 => repeat (first | (with_reducible first | exact HI0.out | apply IsS96.alloc | apply IsS96.drewN | apply IsS96.drew | apply IsS96.set_1 | apply IsS96.set_2 | apply IsS96.set_3 | apply IsS96.set_4 | refine IsS96.far ?_ NB0_671.out _) | exact HI0.out)); (case side2 => repeat (first | (with_reducible first | exact HB.out | apply bal | apply pbdN | apply bdr1 | refine below_set ?_ (IsS96.ge HI0.out) | refine below_set ?_ GE671.out) | exact HB.out)); rintro e w9 ⟨rfl, hi, hb, hk⟩; refine ⟨_, rfl, ?_⟩; have n0_ := Aside0.mk (KeepBut.blk hk (g' := gb671) (o := .cells #[.int .i64 0, .string (⟨#[]⟩ : ByteArray), .slice none 0 0, .slice none 0 0] 44 (0, 0)) (by (with_reducible repeat (first | refine blk_drewN ?_ _ | refine blk_drew ?_ | refine blk_alloc ?_ _)); exact BK671.out) NB671_0.out (by simp)); have n1_ := Aside0.mk (KeepBut.trans (by repeat (first | (with_reducible first | exact HK.out | apply KeepBut.set_ | apply kdrN | apply keep_drew | apply kal | refine keep_far ?_ GW671.out _) | exact HK.out)) hk (.inl rfl)); have n2_ := Aside0.mk (hb); have n3_ := Aside0.mk (hi); clear BK671; clear HK; clear HB; clear HI0; have BK671 := n0_; have HK := n1_; have HB := n2_; have HI0 := n3_; clear n0_ n1_ n2_ n3_; (try clear hb); (try clear hb2); (try clear hk); (try clear hi)))
     go_roundg k1
     case measure => have := HK1.out; omega
     case rel => exact ⟨(wrap64 (x7_1 + 1)), (t672), (t673), (t674), (t675), (by first | rfl | (simp; done) | (simp [*]; done)), H', ⟨by have := HK1.out; omega⟩, ⟨by (with_reducible repeat (first | refine blk_drewN ?_ _ | refine blk_drew ?_ | refine blk_alloc ?_ _)); exact BK671.out⟩, ⟨by repeat (first | (with_reducible first | exact HI0.out | apply IsS96.alloc | apply IsS96.drewN | apply IsS96.drew | apply IsS96.set_1 | apply IsS96.set_2 | apply IsS96.set_3 | apply IsS96.set_4 | refine IsS96.far ?_ NB0_671.out _) | exact HI0.out)⟩, ⟨by repeat (first | (with_reducible first | exact HK.out | apply KeepBut.set_ | apply kdrN | apply keep_drew | apply kal | refine keep_far ?_ GW671.out _) | exact HK.out)⟩, ⟨by repeat (first | (with_reducible first | exact HB.out | apply bal | apply pbdN | apply bdr1 | refine below_set ?_ (IsS96.ge HI0.out) | refine below_set ?_ GE671.out) | exact HB.out)⟩⟩
    ·rw [if_neg c6] at H
     exact absurd H (by simp)
   ·rw [if_neg c5] at H
    have c5b0 : decide (x7_1 < (a1.size : Int)) = false := decide_eq_false c5
    clear c5
    simp only [Option.some.injEq, Prod.mk.injEq] at H
    obtain ⟨rfl, rfl, rfl, rfl, rfl, rfl, rfl, rfl⟩ := H
    have hnb10 := NB671_0.out
    have hnc10 := NB0_671.out
    have hcz11_0 : wr.cell? ⟨gb671, 0, none⟩ = some (.int .i64 0) := (blk_cell BK671.out 0).trans rfl
    have hcz11_1 : wr.cell? ⟨gb671, 1, none⟩ = some (.string (⟨#[]⟩ : ByteArray)) := (blk_cell BK671.out 1).trans rfl
    have hcz11_2 : wr.cell? ⟨gb671, 2, none⟩ = some (.slice none 0 0) := (blk_cell BK671.out 2).trans rfl
    have hcz11_3 : wr.cell? ⟨gb671, 3, none⟩ = some (.slice none 0 0) := (blk_cell BK671.out 3).trans rfl
    have hfz11_0 := bfz BK671.out 0
    have hfz11_1 := bfz BK671.out 1
    have hfz11_2 := bfz BK671.out 2
    have hfz11_3 := bfz BK671.out 3
    go_wp2
    refine bodyPost_ret (results_cell_row rfl _ _ gb671 44 #[.int .i64 a2, .string (⟨#[]⟩ : ByteArray), .slice none 0 0, .slice none 0 0] (0, 0) _ rfl (by (with_reducible repeat (first | refine blk_drewN ?_ _ | refine blk_drew ?_ | refine blk_alloc ?_ _)); refine blk_put (cs := #[.int .i64 a2, .string (⟨#[]⟩ : ByteArray), .slice none 0 0, .slice none 0 0]) ?_ 3 _ rfl; (with_reducible repeat (first | refine blk_drewN ?_ _ | refine blk_drew ?_ | refine blk_alloc ?_ _)); refine blk_put (cs := #[.int .i64 a2, .string (⟨#[]⟩ : ByteArray), .slice none 0 0, .slice none 0 0]) ?_ 2 _ rfl; (with_reducible repeat (first | refine blk_drewN ?_ _ | refine blk_drew ?_ | refine blk_alloc ?_ _)); refine blk_put (cs := #[.int .i64 a2, .string (⟨#[]⟩ : ByteArray), .slice none 0 0, .slice none 0 0]) ?_ 1 _ rfl; (with_reducible repeat (first | refine blk_drewN ?_ _ | refine blk_drew ?_ | refine blk_alloc ?_ _)); refine blk_put (cs := #[.int .i64 0, .string (⟨#[]⟩ : ByteArray), .slice none 0 0, .slice none 0 0]) ?_ 0 _ rfl; (with_reducible repeat (first | refine blk_drewN ?_ _ | refine blk_drew ?_ | refine blk_alloc ?_ _)); exact BK671.out) Tryd.underlying44 rfl (by kernel_rfl)) rfl ?_
    exact ⟨_, _, by first | rfl | (simp [errW_none, errW_some] <;> rfl) | (simp [*, errW_none, errW_some] <;> rfl), by first | exact Kd.R_nil _ _ _ _ _ | exact Kd.N_nil _ _ _ _ _ | exact Kd.V_nil _ _ _ _ _ | exact Kd.Q_nil _ _ _ _ _ | exact Kd.S_nil _ _ _ _ _, by first | exact Kd.R_nil _ _ _ _ _ | exact Kd.N_nil _ _ _ _ _ | exact Kd.V_nil _ _ _ _ _ | exact Kd.Q_nil _ _ _ _ _ | exact Kd.S_nil _ _ _ _ _, by repeat (first | (with_reducible first | exact HI0.out | apply IsS96.alloc | apply IsS96.drewN | apply IsS96.drew | apply IsS96.set_1 | apply IsS96.set_2 | apply IsS96.set_3 | apply IsS96.set_4 | refine IsS96.far ?_ NB0_671.out _) | exact HI0.out), by repeat (first | (with_reducible first | exact HB.out | apply bal | apply pbdN | apply bdr1 | refine below_set ?_ (IsS96.ge HI0.out) | refine below_set ?_ GE671.out) | exact HB.out), by repeat (first | (with_reducible first | exact HK.out | apply KeepBut.set_ | apply kdrN | apply keep_drew | apply kal | refine keep_far ?_ GW671.out _) | exact HK.out)⟩
mutual
def rR_digits.j0 : Nat → Bool → List Int → Int → Int → Int → Int → Option (Int × Int × Int × Int)
 | 0, _, _, _, _, _, _ => none
 | k + 1, x17, x1000, x1001, x1002, x1003, x1004 => if x17 = true then ((rR_fail.f x1000 x1001 x1002 x1003 x1004 6 x1001).bind fun bt681 => (rR_digits.j1 k x1000 bt681.1 bt681.2.1 bt681.2.2.1 bt681.2.2.2)) else (rR_digits.j1 k x1000 x1001 x1002 x1003 x1004)
def rR_digits.j1 : Nat → List Int → Int → Int → Int → Int → Option (Int × Int × Int × Int)
 | 0, _, _, _, _, _ => none
 | k + 1, x1000, x1001, x1002, x1003, x1004 => (rR_see.f x1000 x1001 x1002 x1003 x1004).bind fun bt685 => (rR_digits.l0 k bt685.1 x1000 bt685.2.1 bt685.2.2.1 bt685.2.2.2.1 bt685.2.2.2.2)
def rR_digits.l0 : Nat → Int → List Int → Int → Int → Int → Int → Option (Int × Int × Int × Int)
 | 0, _, _, _, _, _, _ => none
 | k + 1, x2, x1000, x1001, x1002, x1003, x1004 => if x2 ≥ 48 then (if x2 ≤ 57 then ((rR_see.f x1000 (wrap64 (x1001 + 1)) x1002 x1003 x1004).bind fun bt690 => (rR_digits.l0 k bt690.1 x1000 bt690.2.1 bt690.2.2.1 bt690.2.2.2.1 bt690.2.2.2.2)) else (some (x1001, x1002, x1003, x1004))) else (some (x1001, x1002, x1003, x1004))
end
def rR_digits.f (k : Nat) (s0_0 : List Int) (s0_1 : Int) (s0_2 : Int) (s0_3 : Int) (s0_4 : Int) : Option (Int × Int × Int × Int) := (rR_peek.f s0_0 s0_1 s0_2 s0_3 s0_4).bind fun bt676 => (if bt676.2.2.2.1 = 0 then (if bt676.1 < 48 then (rR_digits.j0 k true s0_0 bt676.2.1 bt676.2.2.1 bt676.2.2.2.1 bt676.2.2.2.2) else (rR_digits.j0 k (decide (bt676.1 > 57)) s0_0 bt676.2.1 bt676.2.2.1 bt676.2.2.2.1 bt676.2.2.2.2)) else (rR_digits.j0 k false s0_0 bt676.2.1 bt676.2.2.1 bt676.2.2.2.1 bt676.2.2.2.2))
set_option maxHeartbeats 8000000 in
set_option maxRecDepth 100000 in
theorem rR_digits.calls (k : Nat) (g : Nat) (s0_0 : List Int) (s0_1 : Int) (s0_2 : Int) (s0_3 : Int) (s0_4 : Int) (r1 : Int) (r2 : Int) (r3 : Int) (r4 : Int) (w0 w : World) (hI : IsS96 w0 w g s0_0 s0_1 s0_2 s0_3 s0_4) (hB : Below w0.heap.size w0 w) (h : rR_digits.f k s0_0 s0_1 s0_2 s0_3 s0_4 = some (r1, r2, r3, r4)) :
  Calls Tryd.prog 90 #[.pointer (some ⟨g, 0, none⟩)] w fun e w' => e = .returned (.tuple #[]) ∧ IsS96 w0 w' g s0_0 r1 r2 r3 r4 ∧ Below w0.heap.size w0 w' ∧ KeepBut w w' g none := by
 have HI0 := Aside0.mk hI
 have HK := Aside0.mk (KeepBut.refl w g none)
 have HL := Aside0.mk hB.size
 clear hI
 have HW0 := Aside0.mk hB.size
 have HB := Aside0.mk hB
 clear hB
 have H : ((rR_peek.f s0_0 s0_1 s0_2 s0_3 s0_4).bind fun bt676 => (if bt676.2.2.2.1 = 0 then (if bt676.1 < 48 then (rR_digits.j0 k true s0_0 bt676.2.1 bt676.2.2.1 bt676.2.2.2.1 bt676.2.2.2.2) else (rR_digits.j0 k (decide (bt676.1 > 57)) s0_0 bt676.2.1 bt676.2.2.1 bt676.2.2.2.1 bt676.2.2.2.2)) else (rR_digits.j0 k false s0_0 bt676.2.1 bt676.2.2.1 bt676.2.2.2.1 bt676.2.2.2.2))) = some (r1, r2, r3, r4) := h
 clear h
 replace H := Option.bind_eq_some_iff.mp H
 obtain ⟨⟨t676, t677, t678, t679, t680⟩, A20, H⟩ := H
 replace H : (if t679 = 0 then (if t676 < 48 then (rR_digits.j0 k true s0_0 t677 t678 t679 t680) else (rR_digits.j0 k (decide (t676 > 57)) s0_0 t677 t678 t679 t680)) else (rR_digits.j0 k false s0_0 t677 t678 t679 t680)) = some (r1, r2, r3, r4) := H
 have A2 := Aside0.mk A20
 clear A20
 have HC3 := Aside0.mk H
 clear H
 go_enter Tryd.func90, Tryd.ntmps90
 go_upto_region 1 with (first | ((with_reducible refine gate_callee (f := 65) rfl ?_); refine goesL_ (some 4) rfl rfl Tryd.func65 (by kernel_rfl) rfl #[.pointer (some ⟨g, 0, none⟩)] rfl (by (try simp only [List.map_toArray, List.map_cons, List.map_nil]); first | done | rfl | (simp only [List.length_drop, List.length_take]; rfl)) ?_; (with_reducible refine (rR_peek.calls g s0_0 s0_1 s0_2 s0_3 s0_4 t676 t677 t678 t679 t680 w0 _ ?side1 ?side2 A2.out).mono ?_); (case side1 => repeat (first | (with_reducible first | exact HI0.out | apply IsS96.alloc | apply IsS96.drewN | apply IsS96.drew | apply IsS96.set_1 | apply IsS96.set_2 | apply IsS96.set_3 | apply IsS96.set_4) | exact HI0.out)); (case side2 => repeat (first | (with_reducible first | exact HB.out | apply bal | apply pbdN | apply bdr1 | refine below_set ?_ (IsS96.ge HI0.out)) | exact HB.out)); rintro e w4 ⟨rfl, hi, hb, hk⟩; refine ⟨_, rfl, ?_⟩; have n0_ := Aside0.mk (KeepBut.trans (by repeat (first | (with_reducible first | exact HK.out | apply KeepBut.set_ | apply kdrN | apply keep_drew | apply kal) | exact HK.out)) hk (.inl rfl)); have n1_ := Aside0.mk (hb); have n2_ := Aside0.mk (hi); clear HK; clear HB; clear HI0; have HK := n0_; have HB := n1_; have HI0 := n2_; clear n0_ n1_ n2_; (try clear hb); (try clear hb2); (try clear hk); (try clear hi)))
 (try simp only [Act.put, List.setIfInBounds_toArray, List.set_cons_zero, List.set_cons_succ])
 go_cut [17] (fun v17 wc => ∃ (kq : Nat) (x17_2 : Bool), v17 = .bool x17_2 ∧ Aside0 (rR_digits.j0 kq x17_2 s0_0 t677 t678 t679 t680 = some (r1, r2, r3, r4)) ∧ Aside0 (kq ≤ k) ∧ Aside0 (IsS96 w0 wc g s0_0 t677 t678 t679 t680) ∧ Aside0 (KeepBut w wc g none) ∧ Aside0 (Below w0.heap.size w0 wc))
 case first =>
  have H := HC3.out
  clear HC3
  by_cases c5 : t679 = 0
  ·rw [if_pos c5] at H
   have c5b0 : (t679 == 0) = true := beq_iff_eq.mpr c5
   have c5b1 : (t679 != 0) = false := bne_eq_false_iff_eq.mpr c5
   clear c5
   (first | rw [c5b0] | (simp only [i64_w, i32_w]; rw [c5b0]) | skip)
   by_cases c6 : t676 < 48
   ·rw [if_pos c6] at H
    have c6b0 : decide (t676 < 48) = true := decide_eq_true c6
    clear c6
    have H' := Aside0.mk H
    clear H
    obtain ⟨ASz7_0, cSz7_0, HGz7, hgz7, HSz7_0⟩ := HI0.out
    have hcz7_0 := cellS96_0 HGz7
    have hcz7_1 := cellS96_1 HGz7
    have hcz7_2 := cellS96_2 HGz7
    have hcz7_3 := cellS96_3 HGz7
    have hcz7_4 := cellS96_4 HGz7
    have hfz7_1 := bfz HGz7 1
    have hfz7_2 := bfz HGz7 2
    have hfz7_3 := bfz HGz7 3
    have hfz7_4 := bfz HGz7 4
    clear HGz7 hgz7
    go_wp2
    go_meet
    case rel => exact ⟨_, (true), (by first | rfl | (simp; done) | (simp [*]; done)), H', ⟨by first | omega | exact Nat.le_refl _⟩, ⟨by repeat (first | (with_reducible first | exact HI0.out | apply IsS96.alloc | apply IsS96.drewN | apply IsS96.drew | apply IsS96.set_1 | apply IsS96.set_2 | apply IsS96.set_3 | apply IsS96.set_4) | exact HI0.out)⟩, ⟨by repeat (first | (with_reducible first | exact HK.out | apply KeepBut.set_ | apply kdrN | apply keep_drew | apply kal) | exact HK.out)⟩, ⟨by repeat (first | (with_reducible first | exact HB.out | apply bal | apply pbdN | apply bdr1 | refine below_set ?_ (IsS96.ge HI0.out)) | exact HB.out)⟩⟩
   ·rw [if_neg c6] at H
    have c6b0 : decide (t676 < 48) = false := decide_eq_false c6
    clear c6
    have H' := Aside0.mk H
    clear H
    obtain ⟨ASz8_0, cSz8_0, HGz8, hgz8, HSz8_0⟩ := HI0.out
    have hcz8_0 := cellS96_0 HGz8
    have hcz8_1 := cellS96_1 HGz8
    have hcz8_2 := cellS96_2 HGz8
    have hcz8_3 := cellS96_3 HGz8
    have hcz8_4 := cellS96_4 HGz8
    have hfz8_1 := bfz HGz8 1
    have hfz8_2 := bfz HGz8 2
    have hfz8_3 := bfz HGz8 3
    have hfz8_4 := bfz HGz8 4
    clear HGz8 hgz8
    go_wp2
    go_meet
    case rel => exact ⟨_, (decide (t676 > 57)), (by first | rfl | (simp; done) | (simp [*]; done)), H', ⟨by first | omega | exact Nat.le_refl _⟩, ⟨by repeat (first | (with_reducible first | exact HI0.out | apply IsS96.alloc | apply IsS96.drewN | apply IsS96.drew | apply IsS96.set_1 | apply IsS96.set_2 | apply IsS96.set_3 | apply IsS96.set_4) | exact HI0.out)⟩, ⟨by repeat (first | (with_reducible first | exact HK.out | apply KeepBut.set_ | apply kdrN | apply keep_drew | apply kal) | exact HK.out)⟩, ⟨by repeat (first | (with_reducible first | exact HB.out | apply bal | apply pbdN | apply bdr1 | refine below_set ?_ (IsS96.ge HI0.out)) | exact HB.out)⟩⟩
  ·rw [if_neg c5] at H
   have c5b0 : (t679 == 0) = false := beq_eq_false_iff_ne.mpr c5
   have c5b1 : (t679 != 0) = true := bne_iff_ne.mpr c5
   (first | rw [c5b0] | (simp only [i64_w, i32_w]; rw [c5b0]) | skip)
   have H' := Aside0.mk H
   clear H
   obtain ⟨ASz9_0, cSz9_0, HGz9, hgz9, HSz9_0⟩ := HI0.out
   have hcz9_0 := cellS96_0 HGz9
   have hcz9_1 := cellS96_1 HGz9
   have hcz9_2 := cellS96_2 HGz9
   have hcz9_3 := cellS96_3 HGz9
   have hcz9_4 := cellS96_4 HGz9
   have hfz9_1 := bfz HGz9 1
   have hfz9_2 := bfz HGz9 2
   have hfz9_3 := bfz HGz9 3
   have hfz9_4 := bfz HGz9 4
   clear HGz9 hgz9
   go_wp2
   go_meet
   case rel => exact ⟨_, (false), (by first | rfl | (simp; done) | (simp [*]; done)), H', ⟨by first | omega | exact Nat.le_refl _⟩, ⟨by repeat (first | (with_reducible first | exact HI0.out | apply IsS96.alloc | apply IsS96.drewN | apply IsS96.drew | apply IsS96.set_1 | apply IsS96.set_2 | apply IsS96.set_3 | apply IsS96.set_4) | exact HI0.out)⟩, ⟨by repeat (first | (with_reducible first | exact HK.out | apply KeepBut.set_ | apply kdrN | apply keep_drew | apply kal) | exact HK.out)⟩, ⟨by repeat (first | (with_reducible first | exact HB.out | apply bal | apply pbdN | apply bdr1 | refine below_set ?_ (IsS96.ge HI0.out)) | exact HB.out)⟩⟩
 case rest =>
  clear HC3
  try clear p2; try clear c5; try clear c5b0; try clear c5b1; try clear c6; try clear c6b0; try clear c9; try clear hcz7_0; try clear hcz7_1; try clear hcz7_2; try clear hcz7_3; try clear hcz7_4; try clear hcz8_0; try clear hcz8_1; try clear hcz8_2; try clear hcz8_3; try clear hcz8_4; try clear hcz9_0; try clear hcz9_1; try clear hcz9_2; try clear hcz9_3; try clear hcz9_4; try clear hfz7_1; try clear hfz7_2; try clear hfz7_3; try clear hfz7_4; try clear hfz8_1; try clear hfz8_2; try clear hfz8_3; try clear hfz8_4; try clear hfz9_1; try clear hfz9_2; try clear hfz9_3; try clear hfz9_4
  obtain ⟨kq, x17_2, rfl, HA, HJ2, HI0, HK, HB⟩ := hcut
  cases kq with
  | zero => exact absurd HA.out (by simp [rR_digits.j0])
  | succ kj2 =>
   have H := HA.out
   clear HA
   simp only [rR_digits.j0] at H
   have HC10 := Aside0.mk H
   clear H
   go_upto_if 17 with (fail)
   go_cut [] (fun wc => ∃ (kq : Nat) (x1001_9 : Int) (x1002_9 : Int) (x1003_9 : Int) (x1004_9 : Int), Aside0 (rR_digits.j1 kq s0_0 x1001_9 x1002_9 x1003_9 x1004_9 = some (r1, r2, r3, r4)) ∧ Aside0 (kq ≤ kj2) ∧ Aside0 (IsS96 w0 wc g s0_0 x1001_9 x1002_9 x1003_9 x1004_9) ∧ Aside0 (KeepBut w wc g none) ∧ Aside0 (Below w0.heap.size w0 wc))
   case first =>
    have H := HC10.out
    clear HC10
    by_cases c11 : x17_2 = true
    ·subst c11
     have H1 : ((rR_fail.f s0_0 t677 t678 t679 t680 6 t677).bind fun bt681 => (rR_digits.j1 kj2 s0_0 bt681.1 bt681.2.1 bt681.2.2.1 bt681.2.2.2)) = some (r1, r2, r3, r4) := by rw [if_pos rfl] at H; exact H
     clear H
     have H := H1
     clear H1
     replace H := Option.bind_eq_some_iff.mp H
     obtain ⟨⟨t681, t682, t683, t684⟩, A120, H⟩ := H
     replace H : (rR_digits.j1 kj2 s0_0 t681 t682 t683 t684) = some (r1, r2, r3, r4) := H
     have A12 := Aside0.mk A120
     clear A120
     have H' := Aside0.mk H
     clear H
     obtain ⟨ASz13_0, cSz13_0, HGz13, hgz13, HSz13_0⟩ := HI0.out
     have hcz13_0 := cellS96_0 HGz13
     have hcz13_1 := cellS96_1 HGz13
     have hcz13_2 := cellS96_2 HGz13
     have hcz13_3 := cellS96_3 HGz13
     have hcz13_4 := cellS96_4 HGz13
     have hfz13_1 := bfz HGz13 1
     have hfz13_2 := bfz HGz13 2
     have hfz13_3 := bfz HGz13 3
     have hfz13_4 := bfz HGz13 4
     clear HGz13 hgz13
     go_wp2_with (first | ((with_reducible refine gate_callee (f := 46) rfl ?_); refine goesL_ (some 23) rfl rfl Tryd.func46 (by kernel_rfl) rfl #[.pointer (some ⟨g, 0, none⟩), .int .i64 6, .int .i64 t677] rfl (by (try simp only [List.map_toArray, List.map_cons, List.map_nil]); first | done | rfl | (simp only [List.length_drop, List.length_take]; rfl)) ?_; (with_reducible refine (rR_fail.calls g s0_0 t677 t678 t679 t680 6 t677 t681 t682 t683 t684 w0 _ ?side1 ?side2 A12.out).mono ?_); (case side1 => repeat (first | (with_reducible first | exact HI0.out | apply IsS96.alloc | apply IsS96.drewN | apply IsS96.drew | apply IsS96.set_1 | apply IsS96.set_2 | apply IsS96.set_3 | apply IsS96.set_4) | exact HI0.out)); (case side2 => repeat (first | (with_reducible first | exact HB.out | apply bal | apply pbdN | apply bdr1 | refine below_set ?_ (IsS96.ge HI0.out)) | exact HB.out)); rintro e w14 ⟨rfl, hi, hb, hk⟩; refine ⟨_, rfl, ?_⟩; have n0_ := Aside0.mk (KeepBut.trans (by repeat (first | (with_reducible first | exact HK.out | apply KeepBut.set_ | apply kdrN | apply keep_drew | apply kal) | exact HK.out)) hk (.inl rfl)); have n1_ := Aside0.mk (hb); have n2_ := Aside0.mk (hi); clear HK; clear HB; clear HI0; have HK := n0_; have HB := n1_; have HI0 := n2_; clear n0_ n1_ n2_; (try clear hb); (try clear hb2); (try clear hk); (try clear hi)))
     go_meet
     case rel => exact ⟨_, (t681), (t682), (t683), (t684), H', ⟨by have := HJ2.out; first | omega | exact Nat.le_refl _⟩, ⟨by repeat (first | (with_reducible first | exact HI0.out | apply IsS96.alloc | apply IsS96.drewN | apply IsS96.drew | apply IsS96.set_1 | apply IsS96.set_2 | apply IsS96.set_3 | apply IsS96.set_4) | exact HI0.out)⟩, ⟨by repeat (first | (with_reducible first | exact HK.out | apply KeepBut.set_ | apply kdrN | apply keep_drew | apply kal) | exact HK.out)⟩, ⟨by repeat (first | (with_reducible first | exact HB.out | apply bal | apply pbdN | apply bdr1 | refine below_set ?_ (IsS96.ge HI0.out)) | exact HB.out)⟩⟩
    ·replace c11 := Bool.eq_false_iff.mpr c11
     subst c11
     have H1 : (rR_digits.j1 kj2 s0_0 t677 t678 t679 t680) = some (r1, r2, r3, r4) := by rw [if_neg (show ¬ (false = true) by decide)] at H; exact H
     clear H
     have H := H1
     clear H1
     have H' := Aside0.mk H
     clear H
     go_wp2
     go_meet
     case rel => exact ⟨_, (t677), (t678), (t679), (t680), H', ⟨by have := HJ2.out; first | omega | exact Nat.le_refl _⟩, ⟨by repeat (first | (with_reducible first | exact HI0.out | apply IsS96.alloc | apply IsS96.drewN | apply IsS96.drew | apply IsS96.set_1 | apply IsS96.set_2 | apply IsS96.set_3 | apply IsS96.set_4) | exact HI0.out)⟩, ⟨by repeat (first | (with_reducible first | exact HK.out | apply KeepBut.set_ | apply kdrN | apply keep_drew | apply kal) | exact HK.out)⟩, ⟨by repeat (first | (with_reducible first | exact HB.out | apply bal | apply pbdN | apply bdr1 | refine below_set ?_ (IsS96.ge HI0.out)) | exact HB.out)⟩⟩
   case rest =>
    clear HC10
    try clear c1; try clear p2; try clear c4; try clear c5; try clear c5b0; try clear c5b1; try clear c6; try clear c6b0; try clear c9; try clear c11; try clear hcz13_0; try clear hcz13_1; try clear hcz13_2; try clear hcz13_3; try clear hcz13_4; try clear hcz7_0; try clear hcz7_1; try clear hcz7_2; try clear hcz7_3; try clear hcz7_4; try clear hcz8_0; try clear hcz8_1; try clear hcz8_2; try clear hcz8_3; try clear hcz8_4; try clear hcz9_0; try clear hcz9_1; try clear hcz9_2; try clear hcz9_3; try clear hcz9_4; try clear hfz13_1; try clear hfz13_2; try clear hfz13_3; try clear hfz13_4; try clear hfz7_1; try clear hfz7_2; try clear hfz7_3; try clear hfz7_4; try clear hfz8_1; try clear hfz8_2; try clear hfz8_3; try clear hfz8_4; try clear hfz9_1; try clear hfz9_2; try clear hfz9_3; try clear hfz9_4; try clear p2
    obtain ⟨kq, x1001_9, x1002_9, x1003_9, x1004_9, HA, HJ9, HI0, HK, HB⟩ := hcut
    cases kq with
    | zero => exact absurd HA.out (by simp [rR_digits.j1])
    | succ kj9 =>
     have H := HA.out
     clear HA
     simp only [rR_digits.j1] at H
     replace H := Option.bind_eq_some_iff.mp H
     obtain ⟨⟨t685, t686, t687, t688, t689⟩, A150, H⟩ := H
     replace H : (rR_digits.l0 kj9 t685 s0_0 t686 t687 t688 t689) = some (r1, r2, r3, r4) := H
     have A15 := Aside0.mk A150
     clear A150
     have H' := Aside0.mk H
     clear H
     go_wp2_with (first | ((with_reducible refine gate_callee (f := 64) rfl ?_); refine goesL_ (some 25) rfl rfl Tryd.func64 (by kernel_rfl) rfl #[.pointer (some ⟨g, 0, none⟩)] rfl (by (try simp only [List.map_toArray, List.map_cons, List.map_nil]); first | done | rfl | (simp only [List.length_drop, List.length_take]; rfl)) ?_; (with_reducible refine (rR_see.calls g s0_0 x1001_9 x1002_9 x1003_9 x1004_9 t685 t686 t687 t688 t689 w0 _ ?side1 ?side2 A15.out).mono ?_); (case side1 => repeat (first | (with_reducible first | exact HI0.out | apply IsS96.alloc | apply IsS96.drewN | apply IsS96.drew | apply IsS96.set_1 | apply IsS96.set_2 | apply IsS96.set_3 | apply IsS96.set_4) | exact HI0.out)); (case side2 => repeat (first | (with_reducible first | exact HB.out | apply bal | apply pbdN | apply bdr1 | refine below_set ?_ (IsS96.ge HI0.out)) | exact HB.out)); rintro e w16 ⟨rfl, hi, hb, hk⟩; refine ⟨_, rfl, ?_⟩; have n0_ := Aside0.mk (KeepBut.trans (by repeat (first | (with_reducible first | exact HK.out | apply KeepBut.set_ | apply kdrN | apply keep_drew | apply kal) | exact HK.out)) hk (.inl rfl)); have n1_ := Aside0.mk (hb); have n2_ := Aside0.mk (hi); clear HK; clear HB; clear HI0; have HK := n0_; have HB := n1_; have HI0 := n2_; clear n0_ n1_ n2_; (try clear hb); (try clear hb2); (try clear hk); (try clear hi)))
     go_loopg [2] kj9 (fun kq v2 w' => ∃ (x2_3 : Int) (x1001_3 : Int) (x1002_3 : Int) (x1003_3 : Int) (x1004_3 : Int), v2 = .int .i64 x2_3 ∧ Aside0 (rR_digits.l0 kq x2_3 s0_0 x1001_3 x1002_3 x1003_3 x1004_3 = some (r1, r2, r3, r4)) ∧ Aside0 (kq ≤ kj9) ∧ Aside0 (IsS96 w0 w' g s0_0 x1001_3 x1002_3 x1003_3 x1004_3) ∧ Aside0 (KeepBut w w' g none) ∧ Aside0 (Below w0.heap.size w0 w'))
     case atStart => exact ⟨(t685), (t686), (t687), (t688), (t689), (by first | rfl | (simp; done) | (simp [*]; done)), H', ⟨Nat.le_refl _⟩, ⟨by repeat (first | (with_reducible first | exact HI0.out | apply IsS96.alloc | apply IsS96.drewN | apply IsS96.drew | apply IsS96.set_1 | apply IsS96.set_2 | apply IsS96.set_3 | apply IsS96.set_4) | exact HI0.out)⟩, ⟨by repeat (first | (with_reducible first | exact HK.out | apply KeepBut.set_ | apply kdrN | apply keep_drew | apply kal) | exact HK.out)⟩, ⟨by repeat (first | (with_reducible first | exact HB.out | apply bal | apply pbdN | apply bdr1 | refine below_set ?_ (IsS96.ge HI0.out)) | exact HB.out)⟩⟩
     case round =>
      clear H'
      try clear c1; try clear p2; try clear c4; try clear c5; try clear c5b0; try clear c5b1; try clear c6; try clear c6b0; try clear c9; try clear c11; try clear hcz13_0; try clear hcz13_1; try clear hcz13_2; try clear hcz13_3; try clear hcz13_4; try clear hcz7_0; try clear hcz7_1; try clear hcz7_2; try clear hcz7_3; try clear hcz7_4; try clear hcz8_0; try clear hcz8_1; try clear hcz8_2; try clear hcz8_3; try clear hcz8_4; try clear hcz9_0; try clear hcz9_1; try clear hcz9_2; try clear hcz9_3; try clear hcz9_4; try clear hfz13_1; try clear hfz13_2; try clear hfz13_3; try clear hfz13_4; try clear hfz7_1; try clear hfz7_2; try clear hfz7_3; try clear hfz7_4; try clear hfz8_1; try clear hfz8_2; try clear hfz8_3; try clear hfz8_4; try clear hfz9_1; try clear hfz9_2; try clear hfz9_3; try clear hfz9_4; try clear p2
      obtain ⟨x2_3, x1001_3, x1002_3, x1003_3, x1004_3, rfl, HA, HK3, HI0, HK, HB⟩ := hrel
      cases gk with
      | zero => exact absurd HA.out (by simp [rR_digits.l0])
      | succ k3 =>
       have H := HA.out
       clear HA
       simp only [rR_digits.l0] at H
       by_cases c17 : x2_3 ≥ 48
       ·rw [if_pos c17] at H
        have c17b0 : decide (48 ≤ x2_3) = true := decide_eq_true c17
        clear c17
        by_cases c18 : x2_3 ≤ 57
        ·rw [if_pos c18] at H
         have c18b0 : decide (x2_3 ≤ 57) = true := decide_eq_true c18
         clear c18
         replace H := Option.bind_eq_some_iff.mp H
         obtain ⟨⟨t690, t691, t692, t693, t694⟩, A190, H⟩ := H
         replace H : (rR_digits.l0 k3 t690 s0_0 t691 t692 t693 t694) = some (r1, r2, r3, r4) := H
         have A19 := Aside0.mk A190
         clear A190
         have H' := Aside0.mk H
         clear H
         obtain ⟨ASz20_0, cSz20_0, HGz20, hgz20, HSz20_0⟩ := HI0.out
         have hcz20_0 := cellS96_0 HGz20
         have hcz20_1 := cellS96_1 HGz20
         have hcz20_2 := cellS96_2 HGz20
         have hcz20_3 := cellS96_3 HGz20
         have hcz20_4 := cellS96_4 HGz20
         have hfz20_1 := bfz HGz20 1
         have hfz20_2 := bfz HGz20 2
         have hfz20_3 := bfz HGz20 3
         have hfz20_4 := bfz HGz20 4
         clear HGz20 hgz20
         go_wp2_with (first | ((with_reducible refine gate_callee (f := 64) rfl ?_); refine goesL_ (some 33) rfl rfl Tryd.func64 (by kernel_rfl) rfl #[.pointer (some ⟨g, 0, none⟩)] rfl (by (try simp only [List.map_toArray, List.map_cons, List.map_nil]); first | done | rfl | (simp only [List.length_drop, List.length_take]; rfl)) ?_; (with_reducible refine (rR_see.calls g s0_0 (wrap64 (x1001_3 + 1)) x1002_3 x1003_3 x1004_3 t690 t691 t692 t693 t694 w0 _ ?side1 ?side2 A19.out).mono ?_); (case side1 => repeat (first | (with_reducible first | exact HI0.out | apply IsS96.alloc | apply IsS96.drewN | apply IsS96.drew | apply IsS96.set_1 | apply IsS96.set_2 | apply IsS96.set_3 | apply IsS96.set_4) | exact HI0.out)); (case side2 => repeat (first | (with_reducible first | exact HB.out | apply bal | apply pbdN | apply bdr1 | refine below_set ?_ (IsS96.ge HI0.out)) | exact HB.out)); rintro e w21 ⟨rfl, hi, hb, hk⟩; refine ⟨_, rfl, ?_⟩; have n0_ := Aside0.mk (KeepBut.trans (by repeat (first | (with_reducible first | exact HK.out | apply KeepBut.set_ | apply kdrN | apply keep_drew | apply kal) | exact HK.out)) hk (.inl rfl)); have n1_ := Aside0.mk (hb); have n2_ := Aside0.mk (hi); clear HK; clear HB; clear HI0; have HK := n0_; have HB := n1_; have HI0 := n2_; clear n0_ n1_ n2_; (try clear hb); (try clear hb2); (try clear hk); (try clear hi)))
         go_roundg k3
         case measure => have := HJ2.out; have := HJ9.out; have := HK3.out; omega
         case rel => exact ⟨(t690), (t691), (t692), (t693), (t694), (by first | rfl | (simp; done) | (simp [*]; done)), H', ⟨by have := HJ2.out; have := HJ9.out; have := HK3.out; omega⟩, ⟨by repeat (first | (with_reducible first | exact HI0.out | apply IsS96.alloc | apply IsS96.drewN | apply IsS96.drew | apply IsS96.set_1 | apply IsS96.set_2 | apply IsS96.set_3 | apply IsS96.set_4) | exact HI0.out)⟩, ⟨by repeat (first | (with_reducible first | exact HK.out | apply KeepBut.set_ | apply kdrN | apply keep_drew | apply kal) | exact HK.out)⟩, ⟨by repeat (first | (with_reducible first | exact HB.out | apply bal | apply pbdN | apply bdr1 | refine below_set ?_ (IsS96.ge HI0.out)) | exact HB.out)⟩⟩
        ·rw [if_neg c18] at H
         have c18b0 : decide (x2_3 ≤ 57) = false := decide_eq_false c18
         clear c18
         simp only [Option.some.injEq, Prod.mk.injEq] at H
         obtain ⟨rfl, rfl, rfl, rfl⟩ := H
         go_wp2
         first | go_end0 | ((try simp only [Exit.inBlock, Exit.then]); refine bodyPost_ret (results_none rfl _ _ _) rfl ?_)
         exact ⟨by first | rfl | (simp [errW_none, errW_some] <;> rfl) | (simp [*, errW_none, errW_some] <;> rfl), by repeat (first | (with_reducible first | exact HI0.out | apply IsS96.alloc | apply IsS96.drewN | apply IsS96.drew | apply IsS96.set_1 | apply IsS96.set_2 | apply IsS96.set_3 | apply IsS96.set_4) | exact HI0.out), by repeat (first | (with_reducible first | exact HB.out | apply bal | apply pbdN | apply bdr1 | refine below_set ?_ (IsS96.ge HI0.out)) | exact HB.out), by repeat (first | (with_reducible first | exact HK.out | apply KeepBut.set_ | apply kdrN | apply keep_drew | apply kal) | exact HK.out)⟩
       ·rw [if_neg c17] at H
        have c17b0 : decide (48 ≤ x2_3) = false := decide_eq_false c17
        clear c17
        simp only [Option.some.injEq, Prod.mk.injEq] at H
        obtain ⟨rfl, rfl, rfl, rfl⟩ := H
        go_wp2
        first | go_end0 | ((try simp only [Exit.inBlock, Exit.then]); refine bodyPost_ret (results_none rfl _ _ _) rfl ?_)
        exact ⟨by first | rfl | (simp [errW_none, errW_some] <;> rfl) | (simp [*, errW_none, errW_some] <;> rfl), by repeat (first | (with_reducible first | exact HI0.out | apply IsS96.alloc | apply IsS96.drewN | apply IsS96.drew | apply IsS96.set_1 | apply IsS96.set_2 | apply IsS96.set_3 | apply IsS96.set_4) | exact HI0.out), by repeat (first | (with_reducible first | exact HB.out | apply bal | apply pbdN | apply bdr1 | refine below_set ?_ (IsS96.ge HI0.out)) | exact HB.out), by repeat (first | (with_reducible first | exact HK.out | apply KeepBut.set_ | apply kdrN | apply keep_drew | apply kal) | exact HK.out)⟩
end Go.Proofs.YteighppcdpaekaaDoor.P
end
section
namespace Go.Proofs.YteighppcdpaekaaDoor.Js
inductive Out (α : Type) where
 | ok (v : α) (p : Nat)
 | no (p : Nat) (e : Nat)
 deriving DecidableEq
def isBlank (c : Int) : Bool := c == 32 || c == 9 || c == 10 || c == 13
def isDigit (c : Int) : Bool := decide (48 ≤ c) && decide (c ≤ 57)
def blankLen : List Int → Nat
 | c :: r => if isBlank c then blankLen r + 1 else 0
 | [] => 0
def digitLen : List Int → Nat
 | c :: r => if isDigit c then digitLen r + 1 else 0
 | [] => 0
def blank (b : List Int) (p : Nat) : Nat := p + blankLen (b.drop p)
def next (b : List Int) (p : Nat) (c : Int) : Bool := b[p]? == some c
def word (b : List Int) : List Int → Nat → Out Unit
 | [], p => .ok () p
 | c :: r, p => match b[p]? with
  | none => .no p 11
  | some x => if x == c then word b r (p + 1) else .no p 6
def digits (b : List Int) (p : Nat) : Out Unit :=
 match b[p]? with
 | none => .no p 11
 | some c => if isDigit c then .ok () (p + digitLen (b.drop p)) else .no p 6
def numSign (b : List Int) (q : Nat) : Out Unit := digits b (if next b q 43 || next b q 45 then q + 1 else q)
def numExp (b : List Int) (q : Nat) : Out Unit := if next b q 101 || next b q 69 then numSign b (q + 1) else .ok () q
def numFrac (b : List Int) (q : Nat) : Out Unit :=
 if next b q 46 then match digits b (q + 1) with
  | .no x e => .no x e
  | .ok _ r => numExp b r
 else numExp b q
def numInt (b : List Int) (q : Nat) : Out Unit :=
 match b[q]? with
 | none => .no q 11
 | some c =>
  if c == 48 then numFrac b (q + 1)
  else match digits b q with
   | .no x e => .no x e
   | .ok _ r => numFrac b r
def number (b : List Int) (p : Nat) : Out Unit := numInt b (if next b p 45 then p + 1 else p)
def hexDigit (c : Int) : Option Int :=
 if 48 ≤ c ∧ c ≤ 57 then some (c - 48)
 else if 97 ≤ c ∧ c ≤ 102 then some (c - 87)
 else if 65 ≤ c ∧ c ≤ 70 then some (c - 55)
 else none
def hexTo (b : List Int) : Nat → Int → Nat → Out Int
 | 0, n, p => .ok n p
 | k + 1, n, p => match b[p]? with
  | none => .no p 11
  | some c => match hexDigit c with
   | none => .no p 6
   | some d => hexTo b k (n * 16 + d) (p + 1)
def hex (b : List Int) (p : Nat) : Out Int := hexTo b 4 0 p
def encode (r : Int) : Option (List Int) :=
 if r < 0 ∨ r > 0x10FFFF ∨ (0xD800 ≤ r ∧ r ≤ 0xDFFF) then none
 else if r < 0x80 then some [r]
 else if r < 0x800 then some [192 + r / 64, 128 + r % 64]
 else if r < 0x10000 then some [224 + r / 4096, 128 + r / 64 % 64, 128 + r % 64]
 else some [240 + r / 262144, 128 + r / 4096 % 64, 128 + r / 64 % 64, 128 + r % 64]
def unit (b : List Int) (p : Nat) : Out (List Int) :=
 let done (n : Int) (q : Nat) : Out (List Int) := match encode n with
  | some l => .ok l q
  | none => .no (p - 2) 6
 match hex b p with
 | .no x e => .no x e
 | .ok n q =>
  if 0xD800 ≤ n ∧ n ≤ 0xDBFF then
   if next b q 92 then
    match b[q + 1]? with
    | none => .no (q + 1) 11
    | some c =>
     if c == 117 then
      match hex b (q + 2) with
      | .no x e => .no x e
      | .ok low q => if low < 0xDC00 ∨ low > 0xDFFF then .no (p - 2) 6 else done (0x10000 + (n - 0xD800) * 1024 + low - 0xDC00) q
     else .no (p - 2) 6
   else .no (p - 2) 6
  else done n q
def escape (b : List Int) (p : Nat) : Out (List Int) :=
 match b[p]? with
 | none => .no p 11
 | some c =>
  if c == 34 || c == 92 || c == 47 then .ok [c] (p + 1)
  else if c == 98 then .ok [8] (p + 1)
  else if c == 102 then .ok [12] (p + 1)
  else if c == 110 then .ok [10] (p + 1)
  else if c == 114 then .ok [13] (p + 1)
  else if c == 116 then .ok [9] (p + 1)
  else if c == 117 then unit b (p + 1)
  else .no p 6
def textTo (b : List Int) : Nat → List Int → Nat → Option (Out (List Int))
 | 0, _, _ => none
 | k + 1, out, p => match b[p]? with
  | none => some (.no p 11)
  | some c =>
   if c == 34 then some (.ok out (p + 1))
   else if c == 92 then match escape b (p + 1) with
    | .no x e => some (.no x e)
    | .ok l q => textTo b k (out ++ l) q
   else if c < 32 then some (.no p 6)
   else textTo b k (out ++ [c]) (p + 1)
def text (b : List Int) (k p : Nat) : Option (Out (List Int)) :=
 match b[p]? with
 | none => some (.no p 11)
 | some c => if c == 34 then textTo b k [] (p + 1) else some (.no p 6)
inductive Val where
 | mk (kind : Int) (text : List Int) (keys : List (List Int)) (list : List Val)
def comma (b : List Int) (close : Int) (p : Nat) : Out Bool :=
 let q := blank b p
 match b[q]? with
 | none => .no q 11
 | some c =>
  if c == close then .ok false (q + 1)
  else if c == 44 then .ok true (blank b (q + 1))
  else .no q 6
def enter (b : List Int) (d p : Nat) : Out Unit := if d + 1 > 64 then .no p 13 else .ok () (blank b (p + 1))
mutual
def value (b : List Int) : Nat → Nat → Nat → Option (Out Val)
 | 0, _, _ => none
 | k + 1, d, p => match b[p]? with
  | none => some (.no p 11)
  | some c =>
   if c == 123 then match enter b d p with
    | .no x e => some (.no x e)
    | .ok _ q => match b[q]? with
     | none => some (.no q 11)
     | some c => if c == 125 then some (.ok (.mk 6 [] [] []) (q + 1)) else pairs b k (d + 1) [] [] q
   else if c == 91 then match enter b d p with
    | .no x e => some (.no x e)
    | .ok _ q => match b[q]? with
     | none => some (.no q 11)
     | some c => if c == 93 then some (.ok (.mk 5 [] [] []) (q + 1)) else items b k (d + 1) [] q
   else if c == 34 then (text b k p).map fun
    | .no x e => .no x e
    | .ok l q => .ok (.mk 4 l [] []) q
   else if c == 116 then some (match word b [116, 114, 117, 101] p with
    | .no x e => .no x e
    | .ok _ q => .ok (.mk 2 [] [] []) q)
   else if c == 102 then some (match word b [102, 97, 108, 115, 101] p with
    | .no x e => .no x e
    | .ok _ q => .ok (.mk 1 [] [] []) q)
   else if c == 110 then some (match word b [110, 117, 108, 108] p with
    | .no x e => .no x e
    | .ok _ q => .ok (.mk 0 [] [] []) q)
   else some (match number b p with
    | .no x e => .no x e
    | .ok _ q => .ok (.mk 3 ((b.take q).drop p) [] []) q)
def items (b : List Int) : Nat → Nat → List Val → Nat → Option (Out Val)
 | 0, _, _, _ => none
 | k + 1, d, l, p => match value b k d p with
  | none => none
  | some (.no x e) => some (.no x e)
  | some (.ok v q) => match comma b 93 q with
   | .no x e => some (.no x e)
   | .ok true q => items b k d (l ++ [v]) q
   | .ok false q => some (.ok (.mk 5 [] [] (l ++ [v])) q)
def pairs (b : List Int) : Nat → Nat → List (List Int) → List Val → Nat → Option (Out Val)
 | 0, _, _, _, _ => none
 | k + 1, d, ks, l, p => match text b k p with
  | none => none
  | some (.no x e) => some (.no x e)
  | some (.ok key q) =>
   if ks.contains key then some (.no p 23)
   else
    let q := blank b q
    match b[q]? with
    | none => some (.no q 11)
    | some c =>
     if c == 58 then match value b k d (blank b (q + 1)) with
      | none => none
      | some (.no x e) => some (.no x e)
      | some (.ok v q) => match comma b 125 q with
       | .no x e => some (.no x e)
       | .ok true q => pairs b k d (ks ++ [key]) (l ++ [v]) q
       | .ok false q => some (.ok (.mk 6 [] (ks ++ [key]) (l ++ [v])) q)
     else some (.no q 6)
end
def arr (b : List Int) (k d p : Nat) : Option (Out Val) :=
 match enter b d p with
 | .no x e => some (.no x e)
 | .ok _ q => match b[q]? with
  | none => some (.no q 11)
  | some c => if c == 93 then some (.ok (.mk 5 [] [] []) (q + 1)) else items b k (d + 1) [] q
def obj (b : List Int) (k d p : Nat) : Option (Out Val) :=
 match enter b d p with
 | .no x e => some (.no x e)
 | .ok _ q => match b[q]? with
  | none => some (.no q 11)
  | some c => if c == 125 then some (.ok (.mk 6 [] [] []) (q + 1)) else pairs b k (d + 1) [] [] q
def strV : Out (List Int) → Out Val
 | .no x e => .no x e
 | .ok l q => .ok (.mk 4 l [] []) q
def wordV (kind : Int) : Out Unit → Out Val
 | .no x e => .no x e
 | .ok _ q => .ok (.mk kind [] [] []) q
def numV (b : List Int) (p : Nat) : Out Unit → Out Val
 | .no x e => .no x e
 | .ok _ q => .ok (.mk 3 ((b.take q).drop p) [] []) q
theorem value_succ (b : List Int) (k d p : Nat) : value b (k + 1) d p = match b[p]? with
  | none => some (.no p 11)
  | some c =>
   if c == 123 then obj b k d p
   else if c == 91 then arr b k d p
   else if c == 34 then (text b k p).map strV
   else if c == 116 then some (wordV 2 (word b [116, 114, 117, 101] p))
   else if c == 102 then some (wordV 1 (word b [102, 97, 108, 115, 101] p))
   else if c == 110 then some (wordV 0 (word b [110, 117, 108, 108] p))
   else some (numV b p (number b p)) := by rw [value]; rfl
theorem drop_some {b : List Int} {p : Nat} {x : Int} (h : b[p]? = some x) : b.drop p = x :: b.drop (p + 1) := by
 obtain ⟨hl, hx⟩ := List.getElem?_eq_some_iff.1 h
 rw [← hx, List.drop_eq_getElem_cons hl]
theorem drop_none {b : List Int} {p : Nat} (h : b[p]? = none) : b.drop p = [] := List.drop_eq_nil_of_le (by simpa using h)
theorem blank_step {b : List Int} {p : Nat} {x : Int} (h : b[p]? = some x) (hx : isBlank x = true) : blankLen (b.drop p) = blankLen (b.drop (p + 1)) + 1 := by rw [drop_some h]; simp [blankLen, hx]
theorem blank_stop {b : List Int} {p : Nat} {x : Int} (h : b[p]? = some x) (hx : isBlank x = false) : blankLen (b.drop p) = 0 := by rw [drop_some h]; simp [blankLen, hx]
theorem blank_end {b : List Int} {p : Nat} (h : b[p]? = none) : blankLen (b.drop p) = 0 := by rw [drop_none h]; rfl
theorem digit_step {b : List Int} {p : Nat} {x : Int} (h : b[p]? = some x) (hx : isDigit x = true) : digitLen (b.drop p) = digitLen (b.drop (p + 1)) + 1 := by rw [drop_some h]; simp [digitLen, hx]
theorem digit_stop {b : List Int} {p : Nat} {x : Int} (h : b[p]? = some x) (hx : isDigit x = false) : digitLen (b.drop p) = 0 := by rw [drop_some h]; simp [digitLen, hx]
theorem digit_end {b : List Int} {p : Nat} (h : b[p]? = none) : digitLen (b.drop p) = 0 := by rw [drop_none h]; rfl
theorem digitLen_le (l : List Int) : digitLen l ≤ l.length := by
 induction l with
 | nil => simp [digitLen]
 | cons c r ih => simp only [digitLen]; split <;> simp <;> omega
theorem blankLen_le (l : List Int) : blankLen l ≤ l.length := by
 induction l with
 | nil => simp [blankLen]
 | cons c r ih => simp only [blankLen]; split <;> simp <;> omega
theorem digits_le {b : List Int} {p q : Nat} (h : digits b p = .ok () q) : p < q ∧ q ≤ b.length := by
 unfold digits at h
 cases hx : b[p]? with
 | none => simp [hx] at h
 | some c =>
  have hp : p < b.length := (List.getElem?_eq_some_iff.1 hx).1
  simp only [hx] at h
  split at h
  ·rename_i hd
   have h1 := digit_step hx hd
   have h2 := digitLen_le (b.drop (p + 1))
   simp at h h2
   omega
  ·cases h
theorem next_lt {b : List Int} {p : Nat} {c : Int} (h : next b p c = true) : p < b.length := by
 unfold next at h
 cases hx : b[p]? with
 | none => simp [hx] at h
 | some x => exact (List.getElem?_eq_some_iff.1 hx).1
theorem numSign_le {b : List Int} {p q : Nat} (h : numSign b p = .ok () q) : p < q ∧ q ≤ b.length := by
 unfold numSign at h
 have := digits_le h
 split at this <;> omega
theorem numExp_le {b : List Int} {p q : Nat} (hp : p ≤ b.length) (h : numExp b p = .ok () q) : p ≤ q ∧ q ≤ b.length := by
 unfold numExp at h
 split at h
 ·have := numSign_le h; omega
 ·simp at h; omega
theorem numFrac_le {b : List Int} {p q : Nat} (hp : p ≤ b.length) (h : numFrac b p = .ok () q) : p ≤ q ∧ q ≤ b.length := by
 unfold numFrac at h
 split at h
 ·cases hd : digits b (p + 1) with
  | no x e => simp [hd] at h
  | ok u r =>
   simp only [hd] at h
   have h1 := digits_le hd
   have h2 := numExp_le (by omega) h
   omega
 ·exact numExp_le hp h
theorem numInt_le {b : List Int} {p q : Nat} (h : numInt b p = .ok () q) : p ≤ q ∧ q ≤ b.length := by
 unfold numInt at h
 cases hx : b[p]? with
 | none => simp [hx] at h
 | some c =>
  have hp : p < b.length := (List.getElem?_eq_some_iff.1 hx).1
  simp only [hx] at h
  split at h
  ·have := numFrac_le (by omega) h; omega
  ·cases hd : digits b p with
   | no x e => simp [hd] at h
   | ok u r =>
    simp only [hd] at h
    have h1 := digits_le hd
    have h2 := numFrac_le (by omega) h
    omega
theorem number_le {b : List Int} {p q : Nat} (h : number b p = .ok () q) : p ≤ q ∧ q ≤ b.length := by
 unfold number at h
 have := numInt_le h
 split at this <;> omega
theorem hexTo_le {b : List Int} {k p q : Nat} {n v : Int} (h : hexTo b k n p = .ok v q) : q = p + k ∧ (k = 0 ∨ q ≤ b.length) := by
 induction k generalizing n p with
 | zero => simp [hexTo] at h; omega
 | succ k ih =>
  simp only [hexTo] at h
  cases hx : b[p]? with
  | none => simp [hx] at h
  | some c =>
   have hp : p < b.length := (List.getElem?_eq_some_iff.1 hx).1
   simp only [hx] at h
   cases hd : hexDigit c with
   | none => simp [hd] at h
   | some d =>
    simp only [hd] at h
    have := ih h
    omega
theorem hex_le {b : List Int} {p q : Nat} {v : Int} (h : hex b p = .ok v q) : q = p + 4 ∧ q ≤ b.length := by
 have := hexTo_le h
 omega
theorem unit_le {b : List Int} {p q : Nat} {l : List Int} (h : unit b p = .ok l q) : p < q ∧ q ≤ b.length := by
 unfold unit at h
 cases he : hex b p with
 | no x e => simp [he] at h
 | ok n r =>
  have h1 := hex_le he
  simp only [he] at h
  split at h
  ·split at h
   ·cases hx : b[r + 1]? with
    | none => simp [hx] at h
    | some c =>
     simp only [hx] at h
     split at h
     ·cases he2 : hex b (r + 2) with
      | no x e => simp [he2] at h
      | ok low s =>
       have h2 := hex_le he2
       simp only [he2] at h
       split at h
       ·cases h
       ·split at h
        ·simp at h; omega
        ·cases h
     ·cases h
   ·cases h
  ·split at h
   ·simp at h; omega
   ·cases h
theorem escape_le {b : List Int} {p q : Nat} {l : List Int} (h : escape b p = .ok l q) : p < q ∧ q ≤ b.length := by
 unfold escape at h
 cases hx : b[p]? with
 | none => simp [hx] at h
 | some c =>
  have hp : p < b.length := (List.getElem?_eq_some_iff.1 hx).1
  simp only [hx] at h
  repeat' split at h
  all_goals first
   | (have := unit_le h; omega)
   | (simp at h; omega)
   | cases h
theorem blank_le {b : List Int} {p : Nat} (h : p ≤ b.length) : p ≤ blank b p ∧ blank b p ≤ b.length := by
 unfold blank
 have := blankLen_le (b.drop p)
 simp at this
 omega
theorem comma_le {b : List Int} {cl : Int} {p q : Nat} {t : Bool} (hp : p ≤ b.length) (h : comma b cl p = .ok t q) : p < q ∧ q ≤ b.length := by
 unfold comma at h
 have h1 := blank_le hp
 simp only at h
 cases hx : b[blank b p]? with
 | none => simp [hx] at h
 | some c =>
  have hl : blank b p < b.length := (List.getElem?_eq_some_iff.1 hx).1
  simp only [hx] at h
  split at h
  ·simp at h; omega
  ·split at h
   ·have h2 := blank_le (b := b) (p := blank b p + 1) (by omega)
    simp at h; omega
   ·cases h
theorem word_le {b l : List Int} {p q : Nat} {u : Unit} (h : word b l p = .ok u q) : q = p + l.length ∧ (l = [] ∨ q ≤ b.length) := by
 induction l generalizing p with
 | nil => simp [word] at h; simp [h]
 | cons c r ih =>
  simp only [word] at h
  cases hx : b[p]? with
  | none => simp [hx] at h
  | some x =>
   have hl : p < b.length := (List.getElem?_eq_some_iff.1 hx).1
   simp only [hx] at h
   split at h
   ·have := ih h
    rw [List.length_cons]
    refine ⟨by omega, .inr ?_⟩
    rcases this with ⟨h1, h3 | h2⟩
    ·rw [h3, List.length_nil] at h1; omega
    ·omega
   ·cases h
theorem textTo_le {b : List Int} {k p q : Nat} {out l : List Int} (hp : p ≤ b.length) (h : textTo b k out p = some (.ok l q)) : p < q ∧ q ≤ b.length := by
 induction k generalizing out p with
 | zero => simp [textTo] at h
 | succ k ih =>
  simp only [textTo] at h
  cases hx : b[p]? with
  | none => simp [hx] at h
  | some c =>
   have hl : p < b.length := (List.getElem?_eq_some_iff.1 hx).1
   simp only [hx] at h
   split at h
   ·simp at h; omega
   ·split at h
    ·cases he : escape b (p + 1) with
     | no x e => simp [he] at h
     | ok l2 r =>
      simp only [he] at h
      have h1 := escape_le he
      have h2 := ih h1.2 h
      omega
    ·split at h
     ·cases h
     ·have h2 := ih (by omega) h
      omega
theorem text_le {b : List Int} {k p q : Nat} {l : List Int} (h : text b k p = some (.ok l q)) : p < q ∧ q ≤ b.length := by
 unfold text at h
 cases hx : b[p]? with
 | none => simp [hx] at h
 | some c =>
  have hl : p < b.length := (List.getElem?_eq_some_iff.1 hx).1
  simp only [hx] at h
  split at h
  ·have := textTo_le (by omega) h; omega
  ·cases h
theorem number_lt {b : List Int} {p q : Nat} {u : Unit} (h : number b p = .ok u q) : p < q ∧ q ≤ b.length := by
 unfold number at h
 split at h
 ·have := numInt_le h; omega
 ·unfold numInt at h
  cases hx : b[p]? with
  | none => simp [hx] at h
  | some c =>
   have hl : p < b.length := (List.getElem?_eq_some_iff.1 hx).1
   simp only [hx] at h
   split at h
   ·have := numFrac_le (by omega) h; omega
   ·cases hd : digits b p with
    | no x e => simp [hd] at h
    | ok u2 r =>
     simp only [hd] at h
     have h1 := digits_le hd
     have h2 := numFrac_le (by omega) h
     omega
theorem all_le (b : List Int) (k : Nat) : (∀ d p v q, value b k d p = some (.ok v q) → p < q ∧ q ≤ b.length) ∧ (∀ d l p v q, p ≤ b.length → items b k d l p = some (.ok v q) → p < q ∧ q ≤ b.length) ∧
  (∀ d ks l p v q, p ≤ b.length → pairs b k d ks l p = some (.ok v q) → p < q ∧ q ≤ b.length) := by
 induction k with
 | zero => refine ⟨fun d p v q h => ?_, fun d l p v q _ h => ?_, fun d ks l p v q _ h => ?_⟩ <;> simp [value, items, pairs] at h
 | succ k ih =>
  obtain ⟨i1, i2, i3⟩ := ih
  refine ⟨fun d p v q h => ?_, fun d l p v q hp h => ?_, fun d ks l p v q hp h => ?_⟩
  ·rw [value_succ] at h
   cases hx : b[p]? with
   | none => simp [hx] at h
   | some c =>
    have hl : p < b.length := (List.getElem?_eq_some_iff.1 hx).1
    have hbl := blank_le (b := b) (p := p + 1) (by omega)
    simp only [hx] at h
    split at h
    ·unfold obj enter at h
     split at h
     ·rename_i he
      split at he <;> simp at h
     ·rename_i u q1 he
      split at he
      ·cases he
      ·simp at he
       subst he
       cases hy : b[blank b (p + 1)]? with
       | none => simp [hy] at h
       | some c2 =>
        have hl2 := (List.getElem?_eq_some_iff.1 hy).1
        simp only [hy] at h
        split at h
        ·simp at h; omega
        ·have := i3 _ _ _ _ _ _ (by omega) h; omega
    split at h
    ·unfold arr enter at h
     split at h
     ·rename_i he
      split at he <;> simp at h
     ·rename_i u q1 he
      split at he
      ·cases he
      ·simp at he
       subst he
       cases hy : b[blank b (p + 1)]? with
       | none => simp [hy] at h
       | some c2 =>
        have hl2 := (List.getElem?_eq_some_iff.1 hy).1
        simp only [hy] at h
        split at h
        ·simp at h; omega
        ·have := i2 _ _ _ _ _ (by omega) h; omega
    split at h
    ·cases ht : text b k p with
     | none => simp [ht] at h
     | some o =>
      cases o with
      | no x e => simp [ht, strV] at h
      | ok l r => have := text_le ht; simp [ht, strV] at h; omega
    split at h
    ·cases hw : word b [116, 114, 117, 101] p with
     | no x e => simp [hw, wordV] at h
     | ok u r => have := word_le hw; simp [hw, wordV] at h; simp at this; omega
    split at h
    ·cases hw : word b [102, 97, 108, 115, 101] p with
     | no x e => simp [hw, wordV] at h
     | ok u r => have := word_le hw; simp [hw, wordV] at h; simp at this; omega
    split at h
    ·cases hw : word b [110, 117, 108, 108] p with
     | no x e => simp [hw, wordV] at h
     | ok u r => have := word_le hw; simp [hw, wordV] at h; simp at this; omega
    ·cases hw : number b p with
     | no x e => simp [hw, numV] at h
     | ok u r => have := number_lt hw; simp [hw, numV] at h; omega
  ·simp only [items] at h
   cases hv : value b k d p with
   | none => simp [hv] at h
   | some o =>
    cases o with
    | no x e => simp [hv] at h
    | ok v1 r =>
     have h1 := i1 _ _ _ _ hv
     simp only [hv] at h
     cases hc : comma b 93 r with
     | no x e => simp [hc] at h
     | ok t s =>
      have h2 := comma_le h1.2 hc
      cases t with
      | true => simp only [hc] at h; have := i2 _ _ _ _ _ h2.2 h; omega
      | false => simp [hc] at h; omega
  ·simp only [pairs] at h
   cases ht : text b k p with
   | none => simp [ht] at h
   | some o =>
    cases o with
    | no x e => simp [ht] at h
    | ok key q1 =>
     have h0 := text_le ht
     simp only [ht] at h
     split at h
     ·cases h
     have h01 := blank_le (b := b) (p := q1) h0.2
     cases hx : b[blank b q1]? with
     | none => simp [hx] at h
     | some c =>
      have hl : blank b q1 < b.length := (List.getElem?_eq_some_iff.1 hx).1
      simp only [hx] at h
      split at h
      ·have h02 := blank_le (b := b) (p := blank b q1 + 1) (by omega)
       cases hv : value b k d (blank b (blank b q1 + 1)) with
       | none => simp [hv] at h
       | some o =>
        cases o with
        | no x e => simp [hv] at h
        | ok v1 r =>
         have h1 := i1 _ _ _ _ hv
         simp only [hv] at h
         cases hc : comma b 125 r with
         | no x e => simp [hc] at h
         | ok t s =>
          have h2 := comma_le h1.2 hc
          cases t with
          | true => simp only [hc] at h; have := i3 _ _ _ _ _ _ h2.2 h; omega
          | false => simp [hc] at h; omega
      ·cases h
theorem value_le {b : List Int} {k d p q : Nat} {v : Val} (h : value b k d p = some (.ok v q)) : p < q ∧ q ≤ b.length := (all_le b k).1 _ _ _ _ h
theorem encode_bytes {r : Int} {l : List Int} (h : encode r = some l) : (∀ x ∈ l, 0 ≤ x ∧ x ≤ 255) ∧ l.length ≤ 4 := by
 unfold encode at h
 repeat' split at h
 all_goals first
  | (cases h; done)
  | (simp at h; subst h; simp; omega)
theorem unit_enc {b : List Int} {p q : Nat} {l : List Int} (h : unit b p = .ok l q) : (∃ n, encode n = some l) ∧ p + 4 ≤ q := by
 unfold unit at h
 cases he : hex b p with
 | no x e => simp [he] at h
 | ok n r =>
  have h1 := hex_le he
  simp only [he] at h
  split at h
  ·split at h
   ·cases hx : b[r + 1]? with
    | none => simp [hx] at h
    | some c =>
     simp only [hx] at h
     split at h
     ·cases he2 : hex b (r + 2) with
      | no x e => simp [he2] at h
      | ok low s =>
       have h2 := hex_le he2
       simp only [he2] at h
       split at h
       ·cases h
       ·split at h
        ·rename_i l2 hl2
         simp at h
         exact ⟨⟨_, h.1 ▸ hl2⟩, by omega⟩
        ·cases h
     ·cases h
   ·cases h
  ·split at h
   ·rename_i l2 hl2
    simp at h
    exact ⟨⟨_, h.1 ▸ hl2⟩, by omega⟩
   ·cases h
theorem escape_bytes {b : List Int} {p q : Nat} {l : List Int} (hb : ∀ x ∈ b, 0 ≤ x ∧ x ≤ 255) (h : escape b p = .ok l q) : (∀ x ∈ l, 0 ≤ x ∧ x ≤ 255) ∧ l.length + p ≤ q := by
 unfold escape at h
 cases hx : b[p]? with
 | none => simp [hx] at h
 | some c =>
  have hc := hb c (List.mem_of_getElem? hx)
  simp only [hx] at h
  repeat' split at h
  all_goals first
   | (obtain ⟨⟨n, hn⟩, h2⟩ := unit_enc h; have h3 := encode_bytes hn; exact ⟨h3.1, by omega⟩)
   | (simp at h; obtain ⟨h1, h2⟩ := h; subst h1; subst h2; simp; try omega)
   | cases h
theorem textTo_bytes {b : List Int} {k p q : Nat} {out l : List Int} (hb : ∀ x ∈ b, 0 ≤ x ∧ x ≤ 255) (ho : ∀ x ∈ out, 0 ≤ x ∧ x ≤ 255) (h : textTo b k out p = some (.ok l q)) : (∀ x ∈ l, 0 ≤ x ∧ x ≤ 255) ∧ l.length + p ≤ out.length + q := by
 induction k generalizing out p with
 | zero => simp [textTo] at h
 | succ k ih =>
  simp only [textTo] at h
  cases hx : b[p]? with
  | none => simp [hx] at h
  | some c =>
   have hc := hb c (List.mem_of_getElem? hx)
   simp only [hx] at h
   split at h
   ·simp at h
    obtain ⟨h1, h2⟩ := h
    subst h1
    exact ⟨ho, by omega⟩
   ·split at h
    ·cases he : escape b (p + 1) with
     | no x e => simp [he] at h
     | ok l2 r =>
      simp only [he] at h
      have h1 := escape_bytes hb he
      have h2 := ih (by intro x hm; rcases List.mem_append.1 hm with hm | hm; exact ho x hm; exact h1.1 x hm) h
      rw [List.length_append] at h2
      exact ⟨h2.1, by omega⟩
    ·split at h
     ·cases h
     ·have h2 := ih (by intro x hm; rcases List.mem_append.1 hm with hm | hm; exact ho x hm; simp at hm; subst hm; exact hc) h
      rw [List.length_append] at h2
      exact ⟨h2.1, by simp at h2; omega⟩
theorem text_bytes {b : List Int} {k p q : Nat} {l : List Int} (hb : ∀ x ∈ b, 0 ≤ x ∧ x ≤ 255) (h : text b k p = some (.ok l q)) : (∀ x ∈ l, 0 ≤ x ∧ x ≤ 255) ∧ l.length + p ≤ q := by
 unfold text at h
 cases hx : b[p]? with
 | none => simp [hx] at h
 | some c =>
  simp only [hx] at h
  split at h
  ·have := textTo_bytes hb (by simp) h
   exact ⟨this.1, by have := this.2; simp at this; omega⟩
  ·cases h
theorem textTo_mono {b : List Int} {k p : Nat} {out : List Int} {o : Out (List Int)} (h : textTo b k out p = some o) : textTo b (k + 1) out p = some o := by
 induction k generalizing out p with
 | zero => simp [textTo] at h
 | succ k ih =>
  rw [textTo] at h
  rw [textTo]
  cases hx : b[p]? with
  | none => simpa [hx] using h
  | some c =>
   simp only [hx] at h ⊢
   split at h
   ·rename_i hc; rw [if_pos hc]; exact h
   ·rename_i hc
    rw [if_neg hc]
    split at h
    ·rename_i hc2
     rw [if_pos hc2]
     cases he : escape b (p + 1) with
     | no x e => simpa [he] using h
     | ok l q => simp only [he] at h ⊢; exact ih h
    ·rename_i hc2
     rw [if_neg hc2]
     split at h
     ·rename_i hc3; rw [if_pos hc3]; exact h
     ·rename_i hc3; rw [if_neg hc3]; exact ih h
theorem text_mono {b : List Int} {k p : Nat} {o : Out (List Int)} (h : text b k p = some o) : text b (k + 1) p = some o := by
 unfold text at h ⊢
 cases hx : b[p]? with
 | none => simpa [hx] using h
 | some c =>
  simp only [hx] at h ⊢
  split at h
  ·rename_i hc; rw [if_pos hc]; exact textTo_mono h
  ·rename_i hc; rw [if_neg hc]; exact h
theorem all_mono (b : List Int) (k : Nat) : (∀ d p o, value b k d p = some o → value b (k + 1) d p = some o) ∧ (∀ d l p o, items b k d l p = some o → items b (k + 1) d l p = some o) ∧
  (∀ d ks l p o, pairs b k d ks l p = some o → pairs b (k + 1) d ks l p = some o) := by
 induction k with
 | zero => refine ⟨fun d p o h => ?_, fun d l p o h => ?_, fun d ks l p o h => ?_⟩ <;> simp [value, items, pairs] at h
 | succ k ih =>
  obtain ⟨i1, i2, i3⟩ := ih
  refine ⟨fun d p o h => ?_, fun d l p o h => ?_, fun d ks l p o h => ?_⟩
  ·rw [value_succ] at h
   rw [value_succ]
   cases hx : b[p]? with
   | none => simpa [hx] using h
   | some c =>
    simp only [hx] at h ⊢
    split at h
    ·rename_i hc
     rw [if_pos hc]
     unfold obj at h ⊢
     cases he : enter b d p with
     | no x e => simpa [he] using h
     | ok u q =>
      simp only [he] at h ⊢
      cases hy : b[q]? with
      | none => simpa [hy] using h
      | some c2 =>
       simp only [hy] at h ⊢
       split at h
       ·rename_i hc2; rw [if_pos hc2]; exact h
       ·rename_i hc2; rw [if_neg hc2]; exact i3 _ _ _ _ _ h
    rename_i hc
    rw [if_neg hc]
    split at h
    ·rename_i hc
     rw [if_pos hc]
     unfold arr at h ⊢
     cases he : enter b d p with
     | no x e => simpa [he] using h
     | ok u q =>
      simp only [he] at h ⊢
      cases hy : b[q]? with
      | none => simpa [hy] using h
      | some c2 =>
       simp only [hy] at h ⊢
       split at h
       ·rename_i hc2; rw [if_pos hc2]; exact h
       ·rename_i hc2; rw [if_neg hc2]; exact i2 _ _ _ _ h
    rename_i hc
    rw [if_neg hc]
    split at h
    ·rename_i hc
     rw [if_pos hc]
     cases ht : text b k p with
     | none => simp [ht] at h
     | some ot => rw [text_mono ht]; rw [ht] at h; exact h
    ·rename_i hc
     rw [if_neg hc]
     exact h
  ·rw [items] at h
   rw [items]
   cases hv : value b k d p with
   | none => simp [hv] at h
   | some ov =>
    rw [i1 _ _ _ hv]
    rw [hv] at h
    cases ov with
    | no x e => exact h
    | ok v q =>
     simp only at h ⊢
     cases hc : comma b 93 q with
     | no x e => simpa [hc] using h
     | ok t s =>
      cases t with
      | true => simp only [hc] at h ⊢; exact i2 _ _ _ _ h
      | false => simpa [hc] using h
  ·rw [pairs] at h
   rw [pairs]
   cases ht : text b k p with
   | none => simp [ht] at h
   | some ot =>
    rw [text_mono ht]
    rw [ht] at h
    cases ot with
    | no x e => exact h
    | ok key q1 =>
     simp only at h ⊢
     split at h
     ·rename_i hc; rw [if_pos hc]; exact h
     ·rename_i hc
      rw [if_neg hc]
      cases hx : b[blank b q1]? with
      | none => simpa [hx] using h
      | some c =>
       simp only [hx] at h ⊢
       split at h
       ·rename_i hc2
        rw [if_pos hc2]
        cases hv : value b k d (blank b (blank b q1 + 1)) with
        | none => simp [hv] at h
        | some ov =>
         rw [i1 _ _ _ hv]
         rw [hv] at h
         cases ov with
         | no x e => exact h
         | ok v q =>
          simp only at h ⊢
          cases hc : comma b 125 q with
          | no x e => simpa [hc] using h
          | ok t s =>
           cases t with
           | true => simp only [hc] at h ⊢; exact i3 _ _ _ _ _ h
           | false => simpa [hc] using h
       ·rename_i hc2; rw [if_neg hc2]; exact h
end Go.Proofs.YteighppcdpaekaaDoor.Js
end
