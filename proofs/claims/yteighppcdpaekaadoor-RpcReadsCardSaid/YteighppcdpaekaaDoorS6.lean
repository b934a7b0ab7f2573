/- Walks and words of this session, put together by a program of this session (pack.py). Conditions: as each text says. -/
import Derived.Test.YteighppcdpaekaaDoorS2
set_option linter.unusedVariables false
set_option linter.unusedSimpArgs false
section
namespace Go.Proofs.YteighppcdpaekaaDoor.P
open Go.RowKit Go.Proofs.YteighppcdpaekaaDoorW.PrintWords Go.Proofs.YteighppcdpaekaaDoorW.PrintLast Go.Proofs.YteighppcdpaekaaDoorW.PrintMore
attribute [local go_sem] max2_int min2_int max_two min_two max_three min_three max_four min_four
set_option linter.unusedVariables false
set_option linter.unusedSimpArgs false
mutual
def R4q_Int.j0 : Nat → ByteArray → Bool → Option (Int × Bool)
 | 0, _, _ => none
 | k + 1, x4, x5 => if x5 = true then (if 1 ≤ (x4.size : Int) then (R4q_Int.j1 k (x4.extract 1 x4.size) x5) else (none)) else (R4q_Int.j1 k x4 x5)
def R4q_Int.j1 : Nat → ByteArray → Bool → Option (Int × Bool)
 | 0, _, _ => none
 | k + 1, x4, x5 => if (x4.size : Int) < 1 then (R4q_Int.j2 k x4 x5 true) else (if (x4.size : Int) > 9 then (R4q_Int.j2 k x4 x5 true) else (if 0 < (x4.size : Int) then (if (bt x4 0) = 48 then (if (x4.size : Int) > 1 then (R4q_Int.j2 k x4 x5 true) else (R4q_Int.j2 k x4 x5 x5)) else (R4q_Int.j2 k x4 x5 false)) else (none)))
def R4q_Int.j2 : Nat → ByteArray → Bool → Bool → Option (Int × Bool)
 | 0, _, _, _ => none
 | k + 1, x4, x5, x44 => if x44 = true then (some (0, false)) else (R4q_Int.l0 k x4 x5 0 0)
def R4q_Int.l0 : Nat → ByteArray → Bool → Int → Int → Option (Int × Bool)
 | 0, _, _, _, _ => none
 | k + 1, x4, x5, x6, x7 => if x7 < (x4.size : Int) then (if 0 ≤ x7 then (if (bt x4 x7) < 48 then (some (0, false)) else (if (bt x4 x7) > 57 then (some (0, false)) else (R4q_Int.l0 k x4 x5 (wrap64 ((wrap64 (x6 * 10)) + (((bt x4 x7) - 48) % 256))) (wrap64 (x7 + 1))))) else (none)) else (if x5 = true then (some (wrap64 (-x6), true)) else (some (x6, true)))
end
def R4q_Int.f (k : Nat) (a0_0 : Int) (a0_1 : ByteArray) (l0_2 : List ByteArray) (l0_3 : List (S44)) : Option (Int × Bool) := if a0_0 = 3 then (if (a0_1.size : Int) > 0 then (if 0 < (a0_1.size : Int) then (R4q_Int.j0 k a0_1 ((bt a0_1 0) == 45)) else (none)) else (R4q_Int.j0 k a0_1 false)) else (some (0, false))
set_option maxHeartbeats 8000000 in
set_option maxRecDepth 100000 in
theorem R4q_Int.calls (k : Nat) (a0_0 : Int) (a0_1 : ByteArray) (A0_2 : Option Addr) (c0_2 : Nat) (l0_2 : List ByteArray) (A0_3 : Option Addr) (c0_3 : Nat) (l0_3 : List (S44)) (r1 : Int) (r2 : Bool) (w : World) (hr0_2 : Kd.C Kd.string w A0_2 l0_2.length l0_2) (hc0_2 : l0_2.length ≤ c0_2) (hr0_3 : Kd.C k44 w A0_3 l0_3.length l0_3) (hc0_3 : l0_3.length ≤ c0_3) (h : R4q_Int.f k a0_0 a0_1 l0_2 l0_3 = some (r1, r2)) :
  Calls Tryd.prog 30 #[.agg #[.int .i64 a0_0, .string a0_1, .slice A0_2 l0_2.length c0_2, .slice A0_3 l0_3.length c0_3]] w fun e w' => e = .returned (.tuple #[.int .i64 r1, .bool r2]) ∧ Below w.heap.size w w' := by
 have hu44 := Tryd.underlying44;have HR0_2 := Sdq.mk hr0_2;have HC0_2 := Sdq.mk hc0_2;clear hr0_2 hc0_2;have HR0_3 := Sdq.mk hr0_3;have HC0_3 := Sdq.mk hc0_3;clear hr0_3 hc0_3;have HB := Sdq.mk (Below.refl w.heap.size w);have H : (if a0_0 = 3 then (if (a0_1.size : Int) > 0 then (if 0 < (a0_1.size : Int) then (R4q_Int.j0 k a0_1 ((bt a0_1 0) == 45)) else (none)) else (R4q_Int.j0 k a0_1 false)) else (some (0, false))) = some (r1, r2) := h;clear h;by_cases c2 : a0_0 = 3
 ·rw [if_pos c2] at H
  have c2b0 : (a0_0 == 3) = true := beq_iff_eq.mpr c2;have c2b1 : (a0_0 != 3) = false := bne_eq_false_iff_eq.mpr c2;clear c2;have HC3 := Sdq.mk H;clear H;go_enter Tryd.func30, Tryd.ntmps30
  go_upto_region 4 with (first | ((with_reducible refine gate_dst (N := 1) rfl ?_); (try (refine gate_guard (by rfl) ?_; dsimp only)); refine box_event ?hg (N := 1) ?hd (cs := #[.int .i64 a0_0, .string a0_1, .slice A0_2 l0_2.length c0_2, .slice A0_3 l0_3.length c0_3]) (t := 44) ?hr ?_; (case hd => rfl); (case hg => rfl); (case hr => first | (go_simp; done) | (go_simp; rfl)); intro gb270 hg w4 hbox hb; have n0_ := Sdq.mk (below_step (by repeat (first | (with_reducible first | exact HB.out | apply bal | apply pbdN | apply bdr1) | exact HB.out)) hb); have n1_ := Sdq.mk (hbox); have n2_ := Sdq.mk ((by rw [hg]; exact (below_size (by repeat (first | (with_reducible first | exact HB.out | apply bal | apply pbdN | apply bdr1) | exact HB.out))) : w.heap.size ≤ gb270)); have n3_ := Sdq.mk ((by rw [hg]; exact (below_size (by repeat (first | (with_reducible first | exact HB.out | apply bal | apply pbdN | apply bdr1) | exact HB.out))) : w.heap.size ≤ gb270)); clear HB; have HB := n0_; have BK270 := n1_; have GW270 := n2_; have GE270 := n3_; clear n0_ n1_ n2_ n3_; clear hb hbox hg; have hcz5_0 : w4.cell? ⟨gb270, 0, none⟩ = some (.int .i64 a0_0) := (bceq BK270.out 0).trans rfl; have hcz5_1 : w4.cell? ⟨gb270, 1, none⟩ = some (.string a0_1) := (bceq BK270.out 1).trans rfl; have hcz5_2 : w4.cell? ⟨gb270, 2, none⟩ = some (.slice A0_2 l0_2.length c0_2) := (bceq BK270.out 2).trans rfl; have hcz5_3 : w4.cell? ⟨gb270, 3, none⟩ = some (.slice A0_3 l0_3.length c0_3) := (bceq BK270.out 3).trans rfl; have hfz5_0 := bfz BK270.out 0; have hfz5_1 := bfz BK270.out 1; have hfz5_2 := bfz BK270.out 2; have hfz5_3 := bfz BK270.out 3))
  (try simp only [Act.put, List.setIfInBounds_toArray, List.set_cons_zero, List.set_cons_succ])
  go_cut [5] (fun v5 wc => ∃ (kq : Nat) (x5_2 : Bool), v5 = .bool x5_2 ∧ Sdq (R4q_Int.j0 kq a0_1 x5_2 = some (r1, r2)) ∧ Sdq (kq ≤ k) ∧ Sdq (wc.heap[gb270]? = some (.cells #[.int .i64 a0_0, .string a0_1, (.slice A0_2 l0_2.length c0_2), (.slice A0_3 l0_3.length c0_3)] 44 (0, 0))) ∧ Sdq (Below w.heap.size w wc))
  case first =>
   have H := HC3.out;clear HC3;by_cases c6 : (a0_1.size : Int) > 0
   ·rw [if_pos c6] at H
    have c6b0 : decide (0 < (a0_1.size : Int)) = true := decide_eq_true c6;have c6b1 : decide (0 < a0_1.size) = true := decide_eq_true (by omega);clear c6
    (first | rw [c6b0] | (simp only [i64_w, i32_w]; rw [c6b0]) | skip)
    by_cases c7 : 0 < (a0_1.size : Int)
    ·rw [if_pos c7] at H
     have c7b0 : decide (0 < (a0_1.size : Int)) = true := decide_eq_true c7;have c7b1 : decide (0 < a0_1.size) = true := decide_eq_true (by omega);clear c7;have H' := Sdq.mk H;clear H
     have p8 : 0 ≤ (0 : Int) := (by omega)
     have q8 : 0 < a0_1.size := (by have : (0 : Int) < (a0_1.size : Int) := of_decide_eq_true (by assumption); omega)
     have hx8 : ∀ h : 0 < a0_1.size, ((a0_1[0]'h).toNat : Int) = bt a0_1 0 := bt_at a0_1 0;clear p8;have qi8 : (0 < (a0_1.size : Int)) = True := eq_true (of_decide_eq_true (by assumption));replace q8 := eq_true q8;go_wp2
     go_meet
     case rel => exact ⟨_, (((bt a0_1 0) == 45)), (by first | rfl | (simp; done) | (simp [*]; done)), H', ⟨by first | omega | exact Nat.le_refl _⟩, ⟨by (with_reducible repeat (first | refine blk_drewN ?_ _ | refine blk_drew ?_ | refine blk_alloc ?_ _)); exact BK270.out⟩, ⟨by repeat (first | (with_reducible first | exact HB.out | apply bal | apply pbdN | apply bdr1 | refine bstq ?_ GE270.out) | exact HB.out)⟩⟩
    ·rw [if_neg c7] at H
     exact absurd H (by simp)
   ·rw [if_neg c6] at H
    have c6b0 : decide (0 < (a0_1.size : Int)) = false := decide_eq_false c6;have c6b1 : decide (0 < a0_1.size) = false := decide_eq_false (by omega);clear c6
    (first | rw [c6b0] | (simp only [i64_w, i32_w]; rw [c6b0]) | skip)
    have H' := Sdq.mk H;clear H;go_wp2
    go_meet
    case rel => exact ⟨_, (false), (by first | rfl | (simp; done) | (simp [*]; done)), H', ⟨by first | omega | exact Nat.le_refl _⟩, ⟨by (with_reducible repeat (first | refine blk_drewN ?_ _ | refine blk_drew ?_ | refine blk_alloc ?_ _)); exact BK270.out⟩, ⟨by repeat (first | (with_reducible first | exact HB.out | apply bal | apply pbdN | apply bdr1 | refine bstq ?_ GE270.out) | exact HB.out)⟩⟩
  case rest =>
   clear HC3
   try clear c2; try clear c2b0; try clear c2b1; try clear p2; try clear c3; try clear c6; try clear c6b0; try clear c6b1; try clear c7; try clear c7b0; try clear c7b1; try clear p8; try clear q8; try clear hx8; try clear qi8; try clear hcz5_0; try clear hcz5_1; try clear hcz5_2; try clear hcz5_3; try clear hfz5_0; try clear hfz5_1; try clear hfz5_2; try clear hfz5_3; try clear p8; try clear q8
   obtain ⟨kq, x5_2, rfl, HA, HJ2, BK270, HB⟩ := hcut
   cases kq with
   | zero => exact absurd HA.out (by simp [R4q_Int.j0])
   | succ kj2 =>
    have H := HA.out;clear HA;simp only [R4q_Int.j0] at H;have HC9 := Sdq.mk H;clear H
    go_upto_if 21 with (fail)
    go_cut [4] (fun v4 wc => ∃ (kq : Nat) (x4_8 : ByteArray), v4 = .string x4_8 ∧ Sdq (R4q_Int.j1 kq x4_8 x5_2 = some (r1, r2)) ∧ Sdq (kq ≤ kj2) ∧ Sdq (wc.heap[gb270]? = some (.cells #[.int .i64 a0_0, .string a0_1, (.slice A0_2 l0_2.length c0_2), (.slice A0_3 l0_3.length c0_3)] 44 (0, 0))) ∧ Sdq (Below w.heap.size w wc))
    case first =>
     have H := HC9.out;clear HC9;by_cases c10 : x5_2 = true
     ·subst c10
      have H1 : (if 1 ≤ (a0_1.size : Int) then (R4q_Int.j1 kj2 (a0_1.extract 1 a0_1.size) true) else (none)) = some (r1, r2) := by rw [if_pos rfl] at H; exact H
      clear H;have H := H1;clear H1;by_cases c11 : 1 ≤ (a0_1.size : Int)
      ·rw [if_pos c11] at H
       have c11b0 := eq_true c11;have c11b1 : decide (1 ≤ (a0_1.size : Int)) = true := decide_eq_true c11;clear c11;have H' := Sdq.mk H;clear H;go_wp2
       go_meet
       case rel => exact ⟨_, (a0_1.extract 1 a0_1.size), (by first | rfl | (simp; done) | (simp [*]; done)), H', ⟨by have := HJ2.out; first | omega | exact Nat.le_refl _⟩, ⟨by (with_reducible repeat (first | refine blk_drewN ?_ _ | refine blk_drew ?_ | refine blk_alloc ?_ _)); exact BK270.out⟩, ⟨by repeat (first | (with_reducible first | exact HB.out | apply bal | apply pbdN | apply bdr1 | refine bstq ?_ GE270.out) | exact HB.out)⟩⟩
      ·rw [if_neg c11] at H
       exact absurd H (by simp)
     ·replace c10 := Bool.eq_false_iff.mpr c10
      subst c10
      have H1 : (R4q_Int.j1 kj2 a0_1 false) = some (r1, r2) := by rw [if_neg (show ¬ (false = true) by decide)] at H; exact H
      clear H;have H := H1;clear H1;have H' := Sdq.mk H;clear H;go_wp2
      go_meet
      case rel => exact ⟨_, (a0_1), (by first | rfl | (simp; done) | (simp [*]; done)), H', ⟨by have := HJ2.out; first | omega | exact Nat.le_refl _⟩, ⟨by (with_reducible repeat (first | refine blk_drewN ?_ _ | refine blk_drew ?_ | refine blk_alloc ?_ _)); exact BK270.out⟩, ⟨by repeat (first | (with_reducible first | exact HB.out | apply bal | apply pbdN | apply bdr1 | refine bstq ?_ GE270.out) | exact HB.out)⟩⟩
    case rest =>
     clear HC9
     try clear c1; try clear c2; try clear c2b0; try clear c2b1; try clear p2; try clear c3; try clear c6; try clear c6b0; try clear c6b1; try clear c7; try clear c7b0; try clear c7b1; try clear p8; try clear q8; try clear hx8; try clear qi8; try clear c10; try clear c11; try clear c11b0; try clear c11b1; try clear hcz5_0; try clear hcz5_1; try clear hcz5_2; try clear hcz5_3; try clear hfz5_0; try clear hfz5_1; try clear hfz5_2; try clear hfz5_3; try clear p2; try clear p8; try clear q8
     obtain ⟨kq, x4_8, rfl, HA, HJ8, BK270, HB⟩ := hcut
     cases kq with
     | zero => exact absurd HA.out (by simp [R4q_Int.j1])
     | succ kj8 =>
      have H := HA.out;clear HA;simp only [R4q_Int.j1] at H;have HC12 := Sdq.mk H;clear H
      go_upto_region 7 with (fail)
      go_cut [44] (fun v44 wc => ∃ (kq : Nat) (x44_11 : Bool), v44 = .bool x44_11 ∧ Sdq (R4q_Int.j2 kq x4_8 x5_2 x44_11 = some (r1, r2)) ∧ Sdq (kq ≤ kj8) ∧ Sdq (wc.heap[gb270]? = some (.cells #[.int .i64 a0_0, .string a0_1, (.slice A0_2 l0_2.length c0_2), (.slice A0_3 l0_3.length c0_3)] 44 (0, 0))) ∧ Sdq (Below w.heap.size w wc))
      case first =>
       have H := HC12.out;clear HC12;by_cases c13 : (x4_8.size : Int) < 1
       ·rw [if_pos c13] at H
        have c13b0 : decide ((x4_8.size : Int) < 1) = true := decide_eq_true c13;have c13b1 : decide (x4_8.size < 1) = true := decide_eq_true (by omega);clear c13
        (first | rw [c13b0] | (simp only [i64_w, i32_w]; rw [c13b0]) | skip)
        have H' := Sdq.mk H;clear H;go_wp2
        go_meet
        case rel => exact ⟨_, (true), (by first | rfl | (simp; done) | (simp [*]; done)), H', ⟨by have := HJ2.out; have := HJ8.out; first | omega | exact Nat.le_refl _⟩, ⟨by (with_reducible repeat (first | refine blk_drewN ?_ _ | refine blk_drew ?_ | refine blk_alloc ?_ _)); exact BK270.out⟩, ⟨by repeat (first | (with_reducible first | exact HB.out | apply bal | apply pbdN | apply bdr1 | refine bstq ?_ GE270.out) | exact HB.out)⟩⟩
       ·rw [if_neg c13] at H
        have c13b0 : decide ((x4_8.size : Int) < 1) = false := decide_eq_false c13;have c13b1 : decide (x4_8.size < 1) = false := decide_eq_false (by omega);clear c13
        (first | rw [c13b0] | (simp only [i64_w, i32_w]; rw [c13b0]) | skip)
        by_cases c14 : (x4_8.size : Int) > 9
        ·rw [if_pos c14] at H
         have c14b0 : decide (9 < (x4_8.size : Int)) = true := decide_eq_true c14;have c14b1 : decide (9 < x4_8.size) = true := decide_eq_true (by omega);clear c14;have H' := Sdq.mk H;clear H;go_wp2
         go_meet
         case rel => exact ⟨_, (true), (by first | rfl | (simp; done) | (simp [*]; done)), H', ⟨by have := HJ2.out; have := HJ8.out; first | omega | exact Nat.le_refl _⟩, ⟨by (with_reducible repeat (first | refine blk_drewN ?_ _ | refine blk_drew ?_ | refine blk_alloc ?_ _)); exact BK270.out⟩, ⟨by repeat (first | (with_reducible first | exact HB.out | apply bal | apply pbdN | apply bdr1 | refine bstq ?_ GE270.out) | exact HB.out)⟩⟩
        ·rw [if_neg c14] at H
         have c14b0 : decide (9 < (x4_8.size : Int)) = false := decide_eq_false c14;have c14b1 : decide (9 < x4_8.size) = false := decide_eq_false (by omega);clear c14;by_cases c15 : 0 < (x4_8.size : Int)
         ·rw [if_pos c15] at H
          have c15b0 : decide (0 < (x4_8.size : Int)) = true := decide_eq_true c15;have c15b1 : decide (0 < x4_8.size) = true := decide_eq_true (by omega);clear c15;by_cases c17 : (bt x4_8 0) = 48
          ·rw [if_pos c17] at H
           have c17b0 : ((bt x4_8 0) == 48) = true := beq_iff_eq.mpr c17;have c17b1 : ((bt x4_8 0) != 48) = false := bne_eq_false_iff_eq.mpr c17;clear c17;by_cases c18 : (x4_8.size : Int) > 1
           ·rw [if_pos c18] at H
            have c18b0 : decide (1 < (x4_8.size : Int)) = true := decide_eq_true c18;have c18b1 : decide (1 < x4_8.size) = true := decide_eq_true (by omega);clear c18;have H' := Sdq.mk H;clear H
            have p16 : 0 ≤ (0 : Int) := (by omega)
            have q16 : 0 < x4_8.size := (by have : (0 : Int) < (x4_8.size : Int) := of_decide_eq_true (by assumption); omega)
            have hx16 : ∀ h : 0 < x4_8.size, ((x4_8[0]'h).toNat : Int) = bt x4_8 0 := bt_at x4_8 0;clear p16;have qi16 : (0 < (x4_8.size : Int)) = True := eq_true (of_decide_eq_true (by assumption));replace q16 := eq_true q16;go_wp2
            go_meet
            case rel => exact ⟨_, (true), (by first | rfl | (simp; done) | (simp [*]; done)), H', ⟨by have := HJ2.out; have := HJ8.out; first | omega | exact Nat.le_refl _⟩, ⟨by (with_reducible repeat (first | refine blk_drewN ?_ _ | refine blk_drew ?_ | refine blk_alloc ?_ _)); exact BK270.out⟩, ⟨by repeat (first | (with_reducible first | exact HB.out | apply bal | apply pbdN | apply bdr1 | refine bstq ?_ GE270.out) | exact HB.out)⟩⟩
           ·rw [if_neg c18] at H
            have c18b0 : decide (1 < (x4_8.size : Int)) = false := decide_eq_false c18;have c18b1 : decide (1 < x4_8.size) = false := decide_eq_false (by omega);clear c18;have H' := Sdq.mk H;clear H
            have p16 : 0 ≤ (0 : Int) := (by omega)
            have q16 : 0 < x4_8.size := (by have : (0 : Int) < (x4_8.size : Int) := of_decide_eq_true (by assumption); omega)
            have hx16 : ∀ h : 0 < x4_8.size, ((x4_8[0]'h).toNat : Int) = bt x4_8 0 := bt_at x4_8 0;clear p16;have qi16 : (0 < (x4_8.size : Int)) = True := eq_true (of_decide_eq_true (by assumption));replace q16 := eq_true q16;go_wp2
            go_meet
            case rel => exact ⟨_, (x5_2), (by first | rfl | (simp; done) | (simp [*]; done)), H', ⟨by have := HJ2.out; have := HJ8.out; first | omega | exact Nat.le_refl _⟩, ⟨by (with_reducible repeat (first | refine blk_drewN ?_ _ | refine blk_drew ?_ | refine blk_alloc ?_ _)); exact BK270.out⟩, ⟨by repeat (first | (with_reducible first | exact HB.out | apply bal | apply pbdN | apply bdr1 | refine bstq ?_ GE270.out) | exact HB.out)⟩⟩
          ·rw [if_neg c17] at H
           have c17b0 : ((bt x4_8 0) == 48) = false := beq_eq_false_iff_ne.mpr c17;have c17b1 : ((bt x4_8 0) != 48) = true := bne_iff_ne.mpr c17;have H' := Sdq.mk H;clear H
           have p16 : 0 ≤ (0 : Int) := (by omega)
           have q16 : 0 < x4_8.size := (by have : (0 : Int) < (x4_8.size : Int) := of_decide_eq_true (by assumption); omega)
           have hx16 : ∀ h : 0 < x4_8.size, ((x4_8[0]'h).toNat : Int) = bt x4_8 0 := bt_at x4_8 0;clear p16;have qi16 : (0 < (x4_8.size : Int)) = True := eq_true (of_decide_eq_true (by assumption));replace q16 := eq_true q16;go_wp2
           go_meet
           case rel => exact ⟨_, (false), (by first | rfl | (simp; done) | (simp [*]; done)), H', ⟨by have := HJ2.out; have := HJ8.out; first | omega | exact Nat.le_refl _⟩, ⟨by (with_reducible repeat (first | refine blk_drewN ?_ _ | refine blk_drew ?_ | refine blk_alloc ?_ _)); exact BK270.out⟩, ⟨by repeat (first | (with_reducible first | exact HB.out | apply bal | apply pbdN | apply bdr1 | refine bstq ?_ GE270.out) | exact HB.out)⟩⟩
         ·rw [if_neg c15] at H
          exact absurd H (by simp)
      case rest =>
       clear HC12
       try clear c1; try clear p1; try clear q1; try clear hx1; try clear qi1; try clear c2; try clear c2b0; try clear c2b1; try clear p2; try clear c3; try clear c6; try clear c6b0; try clear c6b1; try clear c7; try clear c7b0; try clear c7b1; try clear p8; try clear q8; try clear hx8; try clear qi8; try clear c10; try clear c11; try clear c11b0; try clear c11b1; try clear c13; try clear c13b0; try clear c13b1; try clear c14; try clear c14b0; try clear c14b1; try clear c15; try clear c15b0; try clear c15b1; try clear p16; try clear q16; try clear hx16; try clear qi16; try clear c17; try clear c17b0; try clear c17b1; try clear c18; try clear c18b0; try clear c18b1; try clear hcz5_0; try clear hcz5_1; try clear hcz5_2; try clear hcz5_3; try clear hfz5_0; try clear hfz5_1; try clear hfz5_2; try clear hfz5_3; try clear p16; try clear p2; try clear p8; try clear q16; try clear q8
       obtain ⟨kq, x44_11, rfl, HA, HJ11, BK270, HB⟩ := hcut
       cases kq with
       | zero => exact absurd HA.out (by simp [R4q_Int.j2])
       | succ kj11 =>
        have H := HA.out;clear HA;simp only [R4q_Int.j2] at H;by_cases c19 : x44_11 = true
        ·subst c19
         have H1 : (some (0, false)) = some (r1, r2) := by rw [if_pos rfl] at H; exact H
         clear H;have H := H1;clear H1;simp only [Option.some.injEq, Prod.mk.injEq] at H;obtain ⟨rfl, rfl⟩ := H;go_wp2
         go_ret2
         exact ⟨by first | rfl | (simp [errW_none, errW_some] <;> rfl) | (simp [*, errW_none, errW_some] <;> rfl), by repeat (first | (with_reducible first | exact HB.out | apply bal | apply pbdN | apply bdr1 | refine bstq ?_ GE270.out) | exact HB.out)⟩
        ·replace c19 := Bool.eq_false_iff.mpr c19
         subst c19
         have H1 : (R4q_Int.l0 kj11 x4_8 x5_2 0 0) = some (r1, r2) := by rw [if_neg (show ¬ (false = true) by decide)] at H; exact H
         clear H;have H := H1;clear H1;have H' := Sdq.mk H;clear H;go_wp2
         go_loopg [6, 7] kj11 (fun kq v6 v7 w' => ∃ (x6_4 : Int) (x7_4 : Int), v6 = .int .i64 x6_4 ∧ v7 = .int .i64 x7_4 ∧ Sdq (R4q_Int.l0 kq x4_8 x5_2 x6_4 x7_4 = some (r1, r2)) ∧ Sdq (kq ≤ kj11) ∧ Sdq (w'.heap[gb270]? = some (.cells #[.int .i64 a0_0, .string a0_1, (.slice A0_2 l0_2.length c0_2), (.slice A0_3 l0_3.length c0_3)] 44 (0, 0))) ∧ Sdq (Below w.heap.size w w'))
         case atStart => exact ⟨(0), (0), (by first | rfl | (simp; done) | (simp [*]; done)), (by first | rfl | (simp; done) | (simp [*]; done)), H', ⟨Nat.le_refl _⟩, ⟨by (with_reducible repeat (first | refine blk_drewN ?_ _ | refine blk_drew ?_ | refine blk_alloc ?_ _)); exact BK270.out⟩, ⟨by repeat (first | (with_reducible first | exact HB.out | apply bal | apply pbdN | apply bdr1 | refine bstq ?_ GE270.out) | exact HB.out)⟩⟩
         case round =>
          clear H'
          try clear c1; try clear p1; try clear q1; try clear hx1; try clear qi1; try clear c2; try clear c2b0; try clear c2b1; try clear p2; try clear c3; try clear c6; try clear c6b0; try clear c6b1; try clear c7; try clear c7b0; try clear c7b1; try clear p8; try clear q8; try clear hx8; try clear qi8; try clear c10; try clear c11; try clear c11b0; try clear c11b1; try clear c13; try clear c13b0; try clear c13b1; try clear c14; try clear c14b0; try clear c14b1; try clear c15; try clear c15b0; try clear c15b1; try clear p16; try clear q16; try clear hx16; try clear qi16; try clear c17; try clear c17b0; try clear c17b1; try clear c18; try clear c18b0; try clear c18b1; try clear c19; try clear hcz5_0; try clear hcz5_1; try clear hcz5_2; try clear hcz5_3; try clear hfz5_0; try clear hfz5_1; try clear hfz5_2; try clear hfz5_3; try clear p1; try clear p16; try clear p2; try clear p8; try clear q1; try clear q16; try clear q8
          obtain ⟨x6_4, x7_4, rfl, rfl, HA, HK4, BK270, HB⟩ := hrel
          cases gk with
          | zero => exact absurd HA.out (by simp [R4q_Int.l0])
          | succ k4 =>
           have H := HA.out;clear HA;simp only [R4q_Int.l0] at H;by_cases c20 : x7_4 < (x4_8.size : Int)
           ·rw [if_pos c20] at H
            have c20b0 : decide (x7_4 < (x4_8.size : Int)) = true := decide_eq_true c20;clear c20;by_cases c21 : 0 ≤ x7_4
            ·rw [if_pos c21] at H
             have c21b0 : decide (0 ≤ x7_4) = true := decide_eq_true c21;clear c21;by_cases c23 : (bt x4_8 x7_4) < 48
             ·rw [if_pos c23] at H
              have c23b0 : decide ((bt x4_8 x7_4) < 48) = true := decide_eq_true c23;clear c23;simp only [Option.some.injEq, Prod.mk.injEq] at H;obtain ⟨rfl, rfl⟩ := H;have p22 : 0 ≤ (x7_4 : Int) := of_decide_eq_true (by assumption);have q22 : x7_4 < (x4_8.size : Int) := of_decide_eq_true (by assumption);have hx22 := bt_at x4_8 x7_4;replace p22 := eq_true p22;replace q22 := eq_true q22;go_wp2
              go_ret2
              exact ⟨by first | rfl | (simp [errW_none, errW_some] <;> rfl) | (simp [*, errW_none, errW_some] <;> rfl), by repeat (first | (with_reducible first | exact HB.out | apply bal | apply pbdN | apply bdr1 | refine bstq ?_ GE270.out) | exact HB.out)⟩
             ·rw [if_neg c23] at H
              have c23b0 : decide ((bt x4_8 x7_4) < 48) = false := decide_eq_false c23;clear c23;by_cases c25 : (bt x4_8 x7_4) > 57
              ·rw [if_pos c25] at H
               have c25b0 : decide (57 < (bt x4_8 x7_4)) = true := decide_eq_true c25;clear c25;simp only [Option.some.injEq, Prod.mk.injEq] at H;obtain ⟨rfl, rfl⟩ := H;have p22 : 0 ≤ (x7_4 : Int) := of_decide_eq_true (by assumption);have q22 : x7_4 < (x4_8.size : Int) := of_decide_eq_true (by assumption);have hx22 := bt_at x4_8 x7_4;replace p22 := eq_true p22;replace q22 := eq_true q22;have p24 : 0 ≤ (x7_4 : Int) := of_decide_eq_true (by assumption);have q24 : x7_4 < (x4_8.size : Int) := of_decide_eq_true (by assumption);have hx24 := bt_at x4_8 x7_4;replace p24 := eq_true p24;replace q24 := eq_true q24;go_wp2
               go_ret2
               exact ⟨by first | rfl | (simp [errW_none, errW_some] <;> rfl) | (simp [*, errW_none, errW_some] <;> rfl), by repeat (first | (with_reducible first | exact HB.out | apply bal | apply pbdN | apply bdr1 | refine bstq ?_ GE270.out) | exact HB.out)⟩
              ·rw [if_neg c25] at H
               have c25b0 : decide (57 < (bt x4_8 x7_4)) = false := decide_eq_false c25;clear c25;have H' := Sdq.mk H;clear H;have p22 : 0 ≤ (x7_4 : Int) := of_decide_eq_true (by assumption);have q22 : x7_4 < (x4_8.size : Int) := of_decide_eq_true (by assumption);have hx22 := bt_at x4_8 x7_4;replace p22 := eq_true p22;replace q22 := eq_true q22;have p24 : 0 ≤ (x7_4 : Int) := of_decide_eq_true (by assumption);have q24 : x7_4 < (x4_8.size : Int) := of_decide_eq_true (by assumption);have hx24 := bt_at x4_8 x7_4;replace p24 := eq_true p24;replace q24 := eq_true q24;have p26 : 0 ≤ (x7_4 : Int) := of_decide_eq_true (by assumption);have q26 : x7_4 < (x4_8.size : Int) := of_decide_eq_true (by assumption);have hx26 := bt_at x4_8 x7_4;replace p26 := eq_true p26;replace q26 := eq_true q26;go_wp2
               go_roundg k4
               case measure => have := HJ2.out; have := HJ8.out; have := HJ11.out; have := HK4.out; omega
               case rel => exact ⟨(wrap64 ((wrap64 (x6_4 * 10)) + (((bt x4_8 x7_4) - 48) % 256))), (wrap64 (x7_4 + 1)), (by first | rfl | (simp; done) | (simp [*]; done)), (by first | rfl | (simp; done) | (simp [*]; done)), H', ⟨by have := HJ2.out; have := HJ8.out; have := HJ11.out; have := HK4.out; omega⟩, ⟨by (with_reducible repeat (first | refine blk_drewN ?_ _ | refine blk_drew ?_ | refine blk_alloc ?_ _)); exact BK270.out⟩, ⟨by repeat (first | (with_reducible first | exact HB.out | apply bal | apply pbdN | apply bdr1 | refine bstq ?_ GE270.out) | exact HB.out)⟩⟩
            ·rw [if_neg c21] at H
             exact absurd H (by simp)
           ·rw [if_neg c20] at H
            have c20b0 : decide (x7_4 < (x4_8.size : Int)) = false := decide_eq_false c20;clear c20;by_cases c27 : x5_2 = true
            ·subst c27
             have H1 : (some (wrap64 (-x6_4), true)) = some (r1, r2) := by rw [if_pos rfl] at H; exact H
             clear H;have H := H1;clear H1;simp only [Option.some.injEq, Prod.mk.injEq] at H;obtain ⟨rfl, rfl⟩ := H;go_wp2
             go_ret2
             exact ⟨by first | rfl | (simp [errW_none, errW_some] <;> rfl) | (simp [*, errW_none, errW_some] <;> rfl), by repeat (first | (with_reducible first | exact HB.out | apply bal | apply pbdN | apply bdr1 | refine bstq ?_ GE270.out) | exact HB.out)⟩
            ·replace c27 := Bool.eq_false_iff.mpr c27
             subst c27
             have H1 : (some (x6_4, true)) = some (r1, r2) := by rw [if_neg (show ¬ (false = true) by decide)] at H; exact H
             clear H;have H := H1;clear H1;simp only [Option.some.injEq, Prod.mk.injEq] at H;obtain ⟨rfl, rfl⟩ := H;go_wp2
             go_ret2
             exact ⟨by first | rfl | (simp [errW_none, errW_some] <;> rfl) | (simp [*, errW_none, errW_some] <;> rfl), by repeat (first | (with_reducible first | exact HB.out | apply bal | apply pbdN | apply bdr1 | refine bstq ?_ GE270.out) | exact HB.out)⟩
 ·rw [if_neg c2] at H
  have c2b0 : (a0_0 == 3) = false := beq_eq_false_iff_ne.mpr c2;have c2b1 : (a0_0 != 3) = true := bne_iff_ne.mpr c2;simp only [Option.some.injEq, Prod.mk.injEq] at H;obtain ⟨rfl, rfl⟩ := H;go_enter Tryd.func30, Tryd.ntmps30;go_wp2_with (first | ((with_reducible refine gate_dst (N := 1) rfl ?_); (try (refine gate_guard (by rfl) ?_; dsimp only)); refine box_event ?hg (N := 1) ?hd (cs := #[.int .i64 a0_0, .string a0_1, .slice A0_2 l0_2.length c0_2, .slice A0_3 l0_3.length c0_3]) (t := 44) ?hr ?_; (case hd => rfl); (case hg => rfl); (case hr => first | (go_simp; done) | (go_simp; rfl)); intro gb270 hg w28 hbox hb; have n0_ := Sdq.mk (below_step (by repeat (first | (with_reducible first | exact HB.out | apply bal | apply pbdN | apply bdr1) | exact HB.out)) hb); have n1_ := Sdq.mk (hbox); have n2_ := Sdq.mk ((by rw [hg]; exact (below_size (by repeat (first | (with_reducible first | exact HB.out | apply bal | apply pbdN | apply bdr1) | exact HB.out))) : w.heap.size ≤ gb270)); have n3_ := Sdq.mk ((by rw [hg]; exact (below_size (by repeat (first | (with_reducible first | exact HB.out | apply bal | apply pbdN | apply bdr1) | exact HB.out))) : w.heap.size ≤ gb270)); clear HB; have HB := n0_; have BK270 := n1_; have GW270 := n2_; have GE270 := n3_; clear n0_ n1_ n2_ n3_; clear hb hbox hg; have hcz29_0 : w28.cell? ⟨gb270, 0, none⟩ = some (.int .i64 a0_0) := (bceq BK270.out 0).trans rfl; have hcz29_1 : w28.cell? ⟨gb270, 1, none⟩ = some (.string a0_1) := (bceq BK270.out 1).trans rfl; have hcz29_2 : w28.cell? ⟨gb270, 2, none⟩ = some (.slice A0_2 l0_2.length c0_2) := (bceq BK270.out 2).trans rfl; have hcz29_3 : w28.cell? ⟨gb270, 3, none⟩ = some (.slice A0_3 l0_3.length c0_3) := (bceq BK270.out 3).trans rfl; have hfz29_0 := bfz BK270.out 0; have hfz29_1 := bfz BK270.out 1; have hfz29_2 := bfz BK270.out 2; have hfz29_3 := bfz BK270.out 3))
  go_ret2
  exact ⟨by first | rfl | (simp [errW_none, errW_some] <;> rfl) | (simp [*, errW_none, errW_some] <;> rfl), by repeat (first | (with_reducible first | exact HB.out | apply bal | apply pbdN | apply bdr1 | refine bstq ?_ GE270.out) | exact HB.out)⟩
end Go.Proofs.YteighppcdpaekaaDoor.P
end
section
namespace Go.Proofs.YteighppcdpaekaaDoor.P
open Go.RowKit Go.Proofs.YteighppcdpaekaaDoorW.PrintWords Go.Proofs.YteighppcdpaekaaDoorW.PrintLast Go.Proofs.YteighppcdpaekaaDoorW.PrintMore
attribute [local go_sem] max2_int min2_int max_two min_two max_three min_three max_four min_four
set_option linter.unusedVariables false
set_option linter.unusedSimpArgs false
def R3q_Encode.j0 : Nat → Int → Bool → Option (List Int × Int)
 | 0, _, _ => none
 | k + 1, x0, x17 => if x17 = true then (some (([] : List Int), 10)) else (if x0 < 128 then (some ((([(x0) % 256] : List Int)), 0)) else (if x0 < 2048 then (some ((([(wrap64 (192 + (wrap64 (Int.tdiv x0 64)))) % 256, (wrap64 (128 + (Int.tmod x0 64))) % 256] : List Int)), 0)) else (if x0 < 65536 then (some ((([(wrap64 (224 + (wrap64 (Int.tdiv x0 4096)))) % 256, (wrap64 (128 + (Int.tmod (wrap64 (Int.tdiv x0 64)) 64))) % 256, (wrap64 (128 + (Int.tmod x0 64))) % 256] : List Int)), 0)) else (some ((([(wrap64 (240 + (wrap64 (Int.tdiv x0 262144)))) % 256, (wrap64 (128 + (Int.tmod (wrap64 (Int.tdiv x0 4096)) 64))) % 256, (wrap64 (128 + (Int.tmod (wrap64 (Int.tdiv x0 64)) 64))) % 256, (wrap64 (128 + (Int.tmod x0 64))) % 256] : List Int)), 0)))))
def R3q_Encode.f (k : Nat) (a0 : Int) : Option (List Int × Int) := if a0 < 0 then (R3q_Encode.j0 k a0 true) else (if a0 > 1114111 then (R3q_Encode.j0 k a0 true) else (if a0 ≥ 55296 then (R3q_Encode.j0 k a0 (decide (a0 ≤ 57343))) else (R3q_Encode.j0 k a0 false)))
set_option maxHeartbeats 8000000 in
set_option maxRecDepth 100000 in
theorem R3q_Encode.calls (k : Nat) (a0 : Int) (r1 : List Int) (r2 : Int) (w : World) (h : R3q_Encode.f k a0 = some (r1, r2)) :
  Calls Tryd.prog 106 #[.int .i64 a0] w fun e w' => ∃ v0_ : Value, e = .returned (.tuple #[v0_, .int .i64 r2]) ∧ Kd.R (Kd.int .u8) 5 w' w.heap.size (fun _ => True) v0_ r1 ∧ Below w.heap.size w w' := by
 have HB := Sdq.mk (Below.refl w.heap.size w);have H : (if a0 < 0 then (R3q_Encode.j0 k a0 true) else (if a0 > 1114111 then (R3q_Encode.j0 k a0 true) else (if a0 ≥ 55296 then (R3q_Encode.j0 k a0 (decide (a0 ≤ 57343))) else (R3q_Encode.j0 k a0 false)))) = some (r1, r2) := h;clear h;have HC2 := Sdq.mk H;clear H;go_enter Tryd.func106, Tryd.ntmps106
 go_upto_region 1 with (fail)
 go_cut [17] (fun v17 wc => ∃ (kq : Nat) (x17_1 : Bool), v17 = .bool x17_1 ∧ Sdq (R3q_Encode.j0 kq a0 x17_1 = some (r1, r2)) ∧ Sdq (kq ≤ k) ∧ Sdq (Below w.heap.size w wc))
 case first =>
  have H := HC2.out;clear HC2;by_cases c3 : a0 < 0
  ·rw [if_pos c3] at H
   have c3b0 : decide (a0 < 0) = true := decide_eq_true c3;clear c3
   (first | rw [c3b0] | (simp only [i64_w, i32_w]; rw [c3b0]) | skip)
   have H' := Sdq.mk H;clear H;go_wp2
   go_meet
   case rel => exact ⟨_, (true), (by first | rfl | (simp; done) | (simp [*]; done)), H', ⟨by first | omega | exact Nat.le_refl _⟩, ⟨by repeat (first | (with_reducible first | exact HB.out | apply bal | apply pbdN | apply bdr1) | exact HB.out)⟩⟩
  ·rw [if_neg c3] at H
   have c3b0 : decide (a0 < 0) = false := decide_eq_false c3;clear c3
   (first | rw [c3b0] | (simp only [i64_w, i32_w]; rw [c3b0]) | skip)
   by_cases c4 : a0 > 1114111
   ·rw [if_pos c4] at H
    have c4b0 : decide (1114111 < a0) = true := decide_eq_true c4;clear c4;have H' := Sdq.mk H;clear H;go_wp2
    go_meet
    case rel => exact ⟨_, (true), (by first | rfl | (simp; done) | (simp [*]; done)), H', ⟨by first | omega | exact Nat.le_refl _⟩, ⟨by repeat (first | (with_reducible first | exact HB.out | apply bal | apply pbdN | apply bdr1) | exact HB.out)⟩⟩
   ·rw [if_neg c4] at H
    have c4b0 : decide (1114111 < a0) = false := decide_eq_false c4;clear c4;by_cases c5 : a0 ≥ 55296
    ·rw [if_pos c5] at H
     have c5b0 : decide (55296 ≤ a0) = true := decide_eq_true c5;clear c5;have H' := Sdq.mk H;clear H;go_wp2
     go_meet
     case rel => exact ⟨_, (decide (a0 ≤ 57343)), (by first | rfl | (simp; done) | (simp [*]; done)), H', ⟨by first | omega | exact Nat.le_refl _⟩, ⟨by repeat (first | (with_reducible first | exact HB.out | apply bal | apply pbdN | apply bdr1) | exact HB.out)⟩⟩
    ·rw [if_neg c5] at H
     have c5b0 : decide (55296 ≤ a0) = false := decide_eq_false c5;clear c5;have H' := Sdq.mk H;clear H;go_wp2
     go_meet
     case rel => exact ⟨_, (false), (by first | rfl | (simp; done) | (simp [*]; done)), H', ⟨by first | omega | exact Nat.le_refl _⟩, ⟨by repeat (first | (with_reducible first | exact HB.out | apply bal | apply pbdN | apply bdr1) | exact HB.out)⟩⟩
 case rest =>
  clear HC2
  try clear c1; try clear p2; try clear c3; try clear c3b0; try clear c4; try clear c4b0; try clear c5; try clear c5b0
  obtain ⟨kq, x17_1, rfl, HA, HJ1, HB⟩ := hcut
  cases kq with
  | zero => exact absurd HA.out (by simp [R3q_Encode.j0])
  | succ kj1 =>
   have H := HA.out;clear HA;simp only [R3q_Encode.j0] at H;by_cases c6 : x17_1 = true
   ·subst c6
    have H1 : (some (([] : List Int), 10)) = some (r1, r2) := by rw [if_pos rfl] at H; exact H
    clear H;have H := H1;clear H1;simp only [Option.some.injEq, Prod.mk.injEq] at H;obtain ⟨rfl, rfl⟩ := H;go_wp2
    go_ret2
    exact ⟨_, by first | rfl | (simp [errW_none, errW_some] <;> rfl) | (simp [*, errW_none, errW_some] <;> rfl), by first | exact Kd.R_nil _ _ _ _ _ | exact Kd.N_nil _ _ _ _ _ | exact Kd.V_nil _ _ _ _ _ | exact Kd.Q_nil _ _ _ _ _ | exact Kd.S_nil _ _ _ _ _, by repeat (first | (with_reducible first | exact HB.out | apply bal | apply pbdN | apply bdr1) | exact HB.out)⟩
   ·replace c6 := Bool.eq_false_iff.mpr c6
    subst c6
    have H1 : (if a0 < 128 then (some ((([(a0) % 256] : List Int)), 0)) else (if a0 < 2048 then (some ((([(wrap64 (192 + (wrap64 (Int.tdiv a0 64)))) % 256, (wrap64 (128 + (Int.tmod a0 64))) % 256] : List Int)), 0)) else (if a0 < 65536 then (some ((([(wrap64 (224 + (wrap64 (Int.tdiv a0 4096)))) % 256, (wrap64 (128 + (Int.tmod (wrap64 (Int.tdiv a0 64)) 64))) % 256, (wrap64 (128 + (Int.tmod a0 64))) % 256] : List Int)), 0)) else (some ((([(wrap64 (240 + (wrap64 (Int.tdiv a0 262144)))) % 256, (wrap64 (128 + (Int.tmod (wrap64 (Int.tdiv a0 4096)) 64))) % 256, (wrap64 (128 + (Int.tmod (wrap64 (Int.tdiv a0 64)) 64))) % 256, (wrap64 (128 + (Int.tmod a0 64))) % 256] : List Int)), 0))))) = some (r1, r2) := by rw [if_neg (show ¬ (false = true) by decide)] at H; exact H
    clear H;have H := H1;clear H1;by_cases c7 : a0 < 128
    ·rw [if_pos c7] at H
     have c7b0 : decide (a0 < 128) = true := decide_eq_true c7;clear c7
     obtain ⟨y499, hy499⟩ : ∃ y_ : List Int, y_ = (([(a0) % 256] : List Int)) := ⟨_, rfl⟩
     replace H : (some (y499, 0)) = some (r1, r2) := by first | (rw [hy499]; with_reducible exact H) | (have H2_ := (Option.bind_some _ _).symm.trans H; rw [hy499]; with_reducible exact H2_) | (have H2_ := (Option.bind_some _ _).symm.trans H; with_reducible exact H2_) | with_reducible exact H | (rw [hy499]; exact H) | exact H
     have Ny499 := Sdq.mk hy499;clear hy499;simp only [Option.some.injEq, Prod.mk.injEq] at H;obtain ⟨rfl, rfl⟩ := H;go_wp2_with (first | ((with_reducible refine gate_dst (N := 22) rfl ?_); refine Kd.R_lit (Kd.int .u8) _ 5 ?hg (N := 22) ?hd (xs := ([(a0) % 256] : List Int)) (inner := [.int .u8 ((a0) % 256)]) (ok := fun _ => True) (okp := fun _ => True) ?hr ?hp (fun _ hk => hk) trivial (Below.refl _ _) (Nat.le_refl _) (by simp) ?_; (case hd => rfl); (case hg => rfl); (case hr => first | (go_simp; done) | (go_simp; rfl)); (case hp => exact (Reps.one (show Kd.M (Kd.int .u8) _ _ _ ((a0) % 256) [.int .u8 ((a0) % 256)] from rfl) (Reps.none _ _))); intro v500 w8 ho9 hb hg_ hnew_; clear hg_ hnew_; (first | rw [← Ny499.out] at ho9 | (simp only [Int.reduceToNat] at ho9; rw [← Ny499.out] at ho9)); have n0_ := Sdq.mk (Kd.R_lower ho9 (below_size (by repeat (first | (with_reducible first | exact HB.out | apply bal | apply pbdN | apply bdr1) | exact HB.out)))); have n1_ := Sdq.mk (below_step (by repeat (first | (with_reducible first | exact HB.out | apply bal | apply pbdN | apply bdr1) | exact HB.out)) hb); clear HB; have HO501 := n0_; have HB := n1_; clear n0_ n1_; clear hb ho9))
     go_ret2
     exact ⟨_, by first | rfl | (simp [errW_none, errW_some] <;> rfl) | (simp [*, errW_none, errW_some] <;> rfl), by (with_reducible repeat (first | apply Kd.R_alloc | apply Kd.R_drewN | apply Kd.R_drew)); exact HO501.out, by repeat (first | (with_reducible first | exact HB.out | apply bal | apply pbdN | apply bdr1) | exact HB.out)⟩
    ·rw [if_neg c7] at H
     have c7b0 : decide (a0 < 128) = false := decide_eq_false c7;clear c7;by_cases c10 : a0 < 2048
     ·rw [if_pos c10] at H
      have c10b0 : decide (a0 < 2048) = true := decide_eq_true c10;clear c10
      obtain ⟨y502, hy502⟩ : ∃ y_ : List Int, y_ = (([(wrap64 (192 + (wrap64 (Int.tdiv a0 64)))) % 256, (wrap64 (128 + (Int.tmod a0 64))) % 256] : List Int)) := ⟨_, rfl⟩
      replace H : (some (y502, 0)) = some (r1, r2) := by first | (rw [hy502]; with_reducible exact H) | (have H2_ := (Option.bind_some _ _).symm.trans H; rw [hy502]; with_reducible exact H2_) | (have H2_ := (Option.bind_some _ _).symm.trans H; with_reducible exact H2_) | with_reducible exact H | (rw [hy502]; exact H) | exact H
      have Ny502 := Sdq.mk hy502;clear hy502;simp only [Option.some.injEq, Prod.mk.injEq] at H;obtain ⟨rfl, rfl⟩ := H;go_wp2_with (first | ((with_reducible refine gate_dst (N := 33) rfl ?_); refine Kd.R_lit (Kd.int .u8) _ 5 ?hg (N := 33) ?hd (xs := ([(wrap64 (192 + (wrap64 (Int.tdiv a0 64)))) % 256, (wrap64 (128 + (Int.tmod a0 64))) % 256] : List Int)) (inner := [.int .u8 ((wrap64 (192 + (wrap64 (Int.tdiv a0 64)))) % 256), .int .u8 ((wrap64 (128 + (Int.tmod a0 64))) % 256)]) (ok := fun _ => True) (okp := fun _ => True) ?hr ?hp (fun _ hk => hk) trivial (Below.refl _ _) (Nat.le_refl _) (by simp) ?_; (case hd => rfl); (case hg => rfl); (case hr => first | (go_simp; done) | (go_simp; rfl)); (case hp => exact (Reps.one (show Kd.M (Kd.int .u8) _ _ _ ((wrap64 (192 + (wrap64 (Int.tdiv a0 64)))) % 256) [.int .u8 ((wrap64 (192 + (wrap64 (Int.tdiv a0 64)))) % 256)] from rfl) (Reps.one (show Kd.M (Kd.int .u8) _ _ _ ((wrap64 (128 + (Int.tmod a0 64))) % 256) [.int .u8 ((wrap64 (128 + (Int.tmod a0 64))) % 256)] from rfl) (Reps.none _ _)))); intro v503 w11 ho12 hb hg_ hnew_; clear hg_ hnew_; (first | rw [← Ny502.out] at ho12 | (simp only [Int.reduceToNat] at ho12; rw [← Ny502.out] at ho12)); have n0_ := Sdq.mk (Kd.R_lower ho12 (below_size (by repeat (first | (with_reducible first | exact HB.out | apply bal | apply pbdN | apply bdr1) | exact HB.out)))); have n1_ := Sdq.mk (below_step (by repeat (first | (with_reducible first | exact HB.out | apply bal | apply pbdN | apply bdr1) | exact HB.out)) hb); clear HB; have HO504 := n0_; have HB := n1_; clear n0_ n1_; clear hb ho12))
      go_ret2
      exact ⟨_, by first | rfl | (simp [errW_none, errW_some] <;> rfl) | (simp [*, errW_none, errW_some] <;> rfl), by (with_reducible repeat (first | apply Kd.R_alloc | apply Kd.R_drewN | apply Kd.R_drew)); exact HO504.out, by repeat (first | (with_reducible first | exact HB.out | apply bal | apply pbdN | apply bdr1) | exact HB.out)⟩
     ·rw [if_neg c10] at H
      have c10b0 : decide (a0 < 2048) = false := decide_eq_false c10;clear c10;by_cases c13 : a0 < 65536
      ·rw [if_pos c13] at H
       have c13b0 : decide (a0 < 65536) = true := decide_eq_true c13;clear c13
       obtain ⟨y505, hy505⟩ : ∃ y_ : List Int, y_ = (([(wrap64 (224 + (wrap64 (Int.tdiv a0 4096)))) % 256, (wrap64 (128 + (Int.tmod (wrap64 (Int.tdiv a0 64)) 64))) % 256, (wrap64 (128 + (Int.tmod a0 64))) % 256] : List Int)) := ⟨_, rfl⟩
       replace H : (some (y505, 0)) = some (r1, r2) := by first | (rw [hy505]; with_reducible exact H) | (have H2_ := (Option.bind_some _ _).symm.trans H; rw [hy505]; with_reducible exact H2_) | (have H2_ := (Option.bind_some _ _).symm.trans H; with_reducible exact H2_) | with_reducible exact H | (rw [hy505]; exact H) | exact H
       have Ny505 := Sdq.mk hy505;clear hy505;simp only [Option.some.injEq, Prod.mk.injEq] at H;obtain ⟨rfl, rfl⟩ := H;go_wp2_with (first | ((with_reducible refine gate_dst (N := 49) rfl ?_); refine Kd.R_lit (Kd.int .u8) _ 5 ?hg (N := 49) ?hd (xs := ([(wrap64 (224 + (wrap64 (Int.tdiv a0 4096)))) % 256, (wrap64 (128 + (Int.tmod (wrap64 (Int.tdiv a0 64)) 64))) % 256, (wrap64 (128 + (Int.tmod a0 64))) % 256] : List Int)) (inner := [.int .u8 ((wrap64 (224 + (wrap64 (Int.tdiv a0 4096)))) % 256), .int .u8 ((wrap64 (128 + (Int.tmod (wrap64 (Int.tdiv a0 64)) 64))) % 256), .int .u8 ((wrap64 (128 + (Int.tmod a0 64))) % 256)]) (ok := fun _ => True) (okp := fun _ => True) ?hr ?hp (fun _ hk => hk) trivial (Below.refl _ _) (Nat.le_refl _) (by simp) ?_; (case hd => rfl); (case hg => rfl); (case hr => first | (go_simp; done) | (go_simp; rfl)); (case hp => exact (Reps.one (show Kd.M (Kd.int .u8) _ _ _ ((wrap64 (224 + (wrap64 (Int.tdiv a0 4096)))) % 256) [.int .u8 ((wrap64 (224 + (wrap64 (Int.tdiv a0 4096)))) % 256)] from rfl) (Reps.one (show Kd.M (Kd.int .u8) _ _ _ ((wrap64 (128 + (Int.tmod (wrap64 (Int.tdiv a0 64)) 64))) % 256) [.int .u8 ((wrap64 (128 + (Int.tmod (wrap64 (Int.tdiv a0 64)) 64))) % 256)] from rfl) (Reps.one (show Kd.M (Kd.int .u8) _ _ _ ((wrap64 (128 + (Int.tmod a0 64))) % 256) [.int .u8 ((wrap64 (128 + (Int.tmod a0 64))) % 256)] from rfl) (Reps.none _ _))))); intro v506 w14 ho15 hb hg_ hnew_; clear hg_ hnew_; (first | rw [← Ny505.out] at ho15 | (simp only [Int.reduceToNat] at ho15; rw [← Ny505.out] at ho15)); have n0_ := Sdq.mk (Kd.R_lower ho15 (below_size (by repeat (first | (with_reducible first | exact HB.out | apply bal | apply pbdN | apply bdr1) | exact HB.out)))); have n1_ := Sdq.mk (below_step (by repeat (first | (with_reducible first | exact HB.out | apply bal | apply pbdN | apply bdr1) | exact HB.out)) hb); clear HB; have HO507 := n0_; have HB := n1_; clear n0_ n1_; clear hb ho15))
       go_ret2
       exact ⟨_, by first | rfl | (simp [errW_none, errW_some] <;> rfl) | (simp [*, errW_none, errW_some] <;> rfl), by (with_reducible repeat (first | apply Kd.R_alloc | apply Kd.R_drewN | apply Kd.R_drew)); exact HO507.out, by repeat (first | (with_reducible first | exact HB.out | apply bal | apply pbdN | apply bdr1) | exact HB.out)⟩
      ·rw [if_neg c13] at H
       have c13b0 : decide (a0 < 65536) = false := decide_eq_false c13;clear c13
       obtain ⟨y508, hy508⟩ : ∃ y_ : List Int, y_ = (([(wrap64 (240 + (wrap64 (Int.tdiv a0 262144)))) % 256, (wrap64 (128 + (Int.tmod (wrap64 (Int.tdiv a0 4096)) 64))) % 256, (wrap64 (128 + (Int.tmod (wrap64 (Int.tdiv a0 64)) 64))) % 256, (wrap64 (128 + (Int.tmod a0 64))) % 256] : List Int)) := ⟨_, rfl⟩
       replace H : (some (y508, 0)) = some (r1, r2) := by first | (rw [hy508]; with_reducible exact H) | (have H2_ := (Option.bind_some _ _).symm.trans H; rw [hy508]; with_reducible exact H2_) | (have H2_ := (Option.bind_some _ _).symm.trans H; with_reducible exact H2_) | with_reducible exact H | (rw [hy508]; exact H) | exact H
       have Ny508 := Sdq.mk hy508;clear hy508;simp only [Option.some.injEq, Prod.mk.injEq] at H;obtain ⟨rfl, rfl⟩ := H;go_wp2_with (first | ((with_reducible refine gate_dst (N := 68) rfl ?_); refine Kd.R_lit (Kd.int .u8) _ 5 ?hg (N := 68) ?hd (xs := ([(wrap64 (240 + (wrap64 (Int.tdiv a0 262144)))) % 256, (wrap64 (128 + (Int.tmod (wrap64 (Int.tdiv a0 4096)) 64))) % 256, (wrap64 (128 + (Int.tmod (wrap64 (Int.tdiv a0 64)) 64))) % 256, (wrap64 (128 + (Int.tmod a0 64))) % 256] : List Int)) (inner := [.int .u8 ((wrap64 (240 + (wrap64 (Int.tdiv a0 262144)))) % 256), .int .u8 ((wrap64 (128 + (Int.tmod (wrap64 (Int.tdiv a0 4096)) 64))) % 256), .int .u8 ((wrap64 (128 + (Int.tmod (wrap64 (Int.tdiv a0 64)) 64))) % 256), .int .u8 ((wrap64 (128 + (Int.tmod a0 64))) % 256)]) (ok := fun _ => True) (okp := fun _ => True) ?hr ?hp (fun _ hk => hk) trivial (Below.refl _ _) (Nat.le_refl _) (by simp) ?_; (case hd => rfl); (case hg => rfl); (case hr => first | (go_simp; done) | (go_simp; rfl)); (case hp => exact (Reps.one (show Kd.M (Kd.int .u8) _ _ _ ((wrap64 (240 + (wrap64 (Int.tdiv a0 262144)))) % 256) [.int .u8 ((wrap64 (240 + (wrap64 (Int.tdiv a0 262144)))) % 256)] from rfl) (Reps.one (show Kd.M (Kd.int .u8) _ _ _ ((wrap64 (128 + (Int.tmod (wrap64 (Int.tdiv a0 4096)) 64))) % 256) [.int .u8 ((wrap64 (128 + (Int.tmod (wrap64 (Int.tdiv a0 4096)) 64))) % 256)] from rfl) (Reps.one (show Kd.M (Kd.int .u8) _ _ _ ((wrap64 (128 + (Int.tmod (wrap64 (Int.tdiv a0 64)) 64))) % 256) [.int .u8 ((wrap64 (128 + (Int.tmod (wrap64 (Int.tdiv a0 64)) 64))) % 256)] from rfl) (Reps.one (show Kd.M (Kd.int .u8) _ _ _ ((wrap64 (128 + (Int.tmod a0 64))) % 256) [.int .u8 ((wrap64 (128 + (Int.tmod a0 64))) % 256)] from rfl) (Reps.none _ _)))))); intro v509 w16 ho17 hb hg_ hnew_; clear hg_ hnew_; (first | rw [← Ny508.out] at ho17 | (simp only [Int.reduceToNat] at ho17; rw [← Ny508.out] at ho17)); have n0_ := Sdq.mk (Kd.R_lower ho17 (below_size (by repeat (first | (with_reducible first | exact HB.out | apply bal | apply pbdN | apply bdr1) | exact HB.out)))); have n1_ := Sdq.mk (below_step (by repeat (first | (with_reducible first | exact HB.out | apply bal | apply pbdN | apply bdr1) | exact HB.out)) hb); clear HB; have HO510 := n0_; have HB := n1_; clear n0_ n1_; clear hb ho17))
       go_ret2
       exact ⟨_, by first | rfl | (simp [errW_none, errW_some] <;> rfl) | (simp [*, errW_none, errW_some] <;> rfl), by (with_reducible repeat (first | apply Kd.R_alloc | apply Kd.R_drewN | apply Kd.R_drew)); exact HO510.out, by repeat (first | (with_reducible first | exact HB.out | apply bal | apply pbdN | apply bdr1) | exact HB.out)⟩
mutual
def R3q_One.l0 : Nat → List Int → Int → Int → Option (Int × Int)
 | 0, _, _, _ => none
 | k + 1, x0, x1, x6 => if x6 ≤ 4 then (R3q_One.j1 k x0 x1 x6 (decide ((wrap64 (x1 + x6)) ≤ (x0.length : Int)))) else (R3q_One.j1 k x0 x1 x6 false)
def R3q_One.j1 : Nat → List Int → Int → Int → Bool → Option (Int × Int)
 | 0, _, _, _, _ => none
 | k + 1, x0, x1, x6, x20 => if x20 = true then (if 0 ≤ x1 then (if x1 < (x0.length : Int) then (if x6 = 2 then (R3q_One.j2 k x0 x1 x6 (wrap64 ((wrap64 (rd x0 x1)) - 192))) else (R3q_One.j2 k x0 x1 x6 (wrap64 (rd x0 x1)))) else (none)) else (none)) else (some ((-1), 0))
def R3q_One.j2 : Nat → List Int → Int → Int → Int → Option (Int × Int)
 | 0, _, _, _, _ => none
 | k + 1, x0, x1, x6, x7 => if x6 = 3 then (R3q_One.j3 k x0 x1 x6 (wrap64 (x7 - 224))) else (R3q_One.j3 k x0 x1 x6 x7)
def R3q_One.j3 : Nat → List Int → Int → Int → Int → Option (Int × Int)
 | 0, _, _, _, _ => none
 | k + 1, x0, x1, x6, x7 => if x6 = 4 then (R3q_One.j4 k x0 x1 x6 (wrap64 (x7 - 240))) else (R3q_One.j4 k x0 x1 x6 x7)
def R3q_One.j4 : Nat → List Int → Int → Int → Int → Option (Int × Int)
 | 0, _, _, _, _ => none
 | k + 1, x0, x1, x6, x7 => R3q_One.l1 k x0 x1 x6 x7 1
def R3q_One.l1 : Nat → List Int → Int → Int → Int → Int → Option (Int × Int)
 | 0, _, _, _, _, _ => none
 | k + 1, x0, x1, x6, x7, x8 => if x8 < x6 then (if 0 ≤ (wrap64 (x1 + x8)) then (if (wrap64 (x1 + x8)) < (x0.length : Int) then (R3q_One.l1 k x0 x1 x6 (wrap64 ((wrap64 ((wrap64 (x7 * 64)) + (wrap64 (rd x0 (wrap64 (x1 + x8)))))) - 128)) (wrap64 (x8 + 1))) else (none)) else (none)) else ((R3q_Encode.f k x7).bind fun bt513 => (if bt513.2 = 0 then (if 0 ≤ x1 then (if x1 ≤ (wrap64 (x1 + x6)) then (if (wrap64 (x1 + x6)) ≤ (x0.length : Int) then (if (strOfNums bt513.1).toList = (strOfNums ((x0.take ((wrap64 (x1 + x6)) : Int).toNat).drop (x1 : Int).toNat)).toList then (some (x7, x6)) else (R3q_One.l0 k x0 x1 (wrap64 (x6 + 1)))) else (none)) else (none)) else (none)) else (R3q_One.l0 k x0 x1 (wrap64 (x6 + 1)))))
end
def R3q_One.f (k : Nat) (l0 : List Int) (a1 : Int) : Option (Int × Int) := R3q_One.l0 k l0 a1 1
set_option maxHeartbeats 8000000 in
set_option maxRecDepth 100000 in
theorem R3q_One.calls (k : Nat) (A0 : Option Addr) (c0 : Nat) (l0 : List Int) (a1 : Int) (r1 : Int) (r2 : Int) (w : World) (hr0 : Kd.C (Kd.int .u8) w A0 l0.length l0) (hc0 : l0.length ≤ c0) (h : R3q_One.f k l0 a1 = some (r1, r2)) :
  Calls Tryd.prog 85 #[.slice A0 l0.length c0, .int .i64 a1] w fun e w' => e = .returned (.tuple #[.int .i64 r1, .int .i64 r2]) ∧ Below w.heap.size w w' := by
 have HR0 := Sdq.mk hr0;have HC0 := Sdq.mk hc0;clear hr0 hc0;have HB := Sdq.mk (Below.refl w.heap.size w);have H : (R3q_One.l0 k l0 a1 1) = some (r1, r2) := h;clear h;have H' := Sdq.mk H;clear H;go_enter Tryd.func85, Tryd.ntmps85;go_wp2
 repeat (go_quiet (fail); try go_wp2)
 go_loopg [6] k (fun kq v6 w' => ∃ (x6_1 : Int), v6 = .int .i64 x6_1 ∧ Sdq (R3q_One.l0 kq l0 a1 x6_1 = some (r1, r2)) ∧ Sdq (kq ≤ k) ∧ Sdq (Below w.heap.size w w'))
 case atStart => exact ⟨(1), (by first | rfl | (simp; done) | (simp [*]; done)), H', ⟨Nat.le_refl _⟩, ⟨by repeat (first | (with_reducible first | exact HB.out | apply bal | apply pbdN | apply bdr1) | exact HB.out)⟩⟩
 case round =>
  clear H'
  try clear p2
  obtain ⟨x6_1, rfl, HA, HK1, HB⟩ := hrel
  cases gk with
  | zero => exact absurd HA.out (by simp [R3q_One.l0])
  | succ k1 =>
   have H := HA.out;clear HA;simp only [R3q_One.l0] at H;have HC3 := Sdq.mk H;clear H
   go_upto_region 2 with (fail)
   repeat (go_quiet (fail); go_upto_region 2 with (fail))
   go_cut [20] (fun v20 wc => ∃ (kq : Nat) (x20_2 : Bool), v20 = .bool x20_2 ∧ Sdq (R3q_One.j1 kq l0 a1 x6_1 x20_2 = some (r1, r2)) ∧ Sdq (kq ≤ k1) ∧ Sdq (Below w.heap.size w wc))
   case first =>
    have H := HC3.out;clear HC3;by_cases c4 : x6_1 ≤ 4
    ·rw [if_pos c4] at H
     have c4b0 : decide (x6_1 ≤ 4) = true := decide_eq_true c4;clear c4
     (first | rw [c4b0] | (simp only [i64_w, i32_w]; rw [c4b0]) | skip)
     have H' := Sdq.mk H;clear H;go_wp2
     repeat (go_quiet (fail); try go_wp2)
     go_meet
     case rel => exact ⟨_, (decide ((wrap64 (a1 + x6_1)) ≤ (l0.length : Int))), (by first | rfl | (simp; done) | (simp [*]; done)), H', ⟨by have := HK1.out; first | omega | exact Nat.le_refl _⟩, ⟨by repeat (first | (with_reducible first | exact HB.out | apply bal | apply pbdN | apply bdr1) | exact HB.out)⟩⟩
    ·rw [if_neg c4] at H
     have c4b0 : decide (x6_1 ≤ 4) = false := decide_eq_false c4;clear c4
     (first | rw [c4b0] | (simp only [i64_w, i32_w]; rw [c4b0]) | skip)
     have H' := Sdq.mk H;clear H;go_wp2
     repeat (go_quiet (fail); try go_wp2)
     go_meet
     case rel => exact ⟨_, (false), (by first | rfl | (simp; done) | (simp [*]; done)), H', ⟨by have := HK1.out; first | omega | exact Nat.le_refl _⟩, ⟨by repeat (first | (with_reducible first | exact HB.out | apply bal | apply pbdN | apply bdr1) | exact HB.out)⟩⟩
   case rest =>
    clear HC3
    try clear p2; try clear c4; try clear c4b0; try clear p2
    obtain ⟨kq, x20_2, rfl, HA, HJ2, HB⟩ := hcut
    cases kq with
    | zero => exact absurd HA.out (by simp [R3q_One.j1])
    | succ kj2 =>
     have H := HA.out;clear HA;simp only [R3q_One.j1] at H;by_cases c5 : x20_2 = true
     ·subst c5
      have H1 : (if 0 ≤ a1 then (if a1 < (l0.length : Int) then (if x6_1 = 2 then (R3q_One.j2 kj2 l0 a1 x6_1 (wrap64 ((wrap64 (rd l0 a1)) - 192))) else (R3q_One.j2 kj2 l0 a1 x6_1 (wrap64 (rd l0 a1)))) else (none)) else (none)) = some (r1, r2) := by rw [if_pos rfl] at H; exact H
      clear H;have H := H1;clear H1;by_cases c6 : 0 ≤ a1
      ·rw [if_pos c6] at H
       have c6b0 : decide (0 ≤ a1) = true := decide_eq_true c6;clear c6;by_cases c7 : a1 < (l0.length : Int)
       ·rw [if_pos c7] at H
        have c7b0 : decide (a1 < (l0.length : Int)) = true := decide_eq_true c7;clear c7;have HC8 := Sdq.mk H;clear H;have p511 : 0 ≤ (a1 : Int) := of_decide_eq_true (by assumption);have q511 : a1 < (l0.length : Int) := of_decide_eq_true (by assumption);obtain ⟨ad511, e511, hx511_0⟩ := Kd.at_int HR0.out a1 p511 q511;cases e511;replace hx511_0 := (HB.out.cell (World.block_lt_of_cell? w _ hx511_0)).trans hx511_0;replace p511 := eq_true p511;replace q511 := eq_true q511
        go_upto_if 29 with (fail)
        repeat (go_quiet (fail); go_upto_if 29 with (fail))
        go_cut [7] (fun v7 wc => ∃ (kq : Nat) (x7_7 : Int), v7 = .int .i64 x7_7 ∧ Sdq (R3q_One.j2 kq l0 a1 x6_1 x7_7 = some (r1, r2)) ∧ Sdq (kq ≤ kj2) ∧ Sdq (Below w.heap.size w wc))
        case first =>
         have H := HC8.out;clear HC8;by_cases c9 : x6_1 = 2
         ·rw [if_pos c9] at H
          have c9b0 : (x6_1 == 2) = true := beq_iff_eq.mpr c9;have c9b1 : (x6_1 != 2) = false := bne_eq_false_iff_eq.mpr c9;clear c9
          (first | rw [c9b0] | (simp only [i64_w, i32_w]; rw [c9b0]) | skip)
          have H' := Sdq.mk H;clear H;go_wp2
          repeat (go_quiet (fail); try go_wp2)
          go_meet
          case rel => exact ⟨_, (wrap64 ((wrap64 (rd l0 a1)) - 192)), (by first | rfl | (simp; done) | (simp [*]; done)), H', ⟨by have := HK1.out; have := HJ2.out; first | omega | exact Nat.le_refl _⟩, ⟨by repeat (first | (with_reducible first | exact HB.out | apply bal | apply pbdN | apply bdr1) | exact HB.out)⟩⟩
         ·rw [if_neg c9] at H
          have c9b0 : (x6_1 == 2) = false := beq_eq_false_iff_ne.mpr c9;have c9b1 : (x6_1 != 2) = true := bne_iff_ne.mpr c9
          (first | rw [c9b0] | (simp only [i64_w, i32_w]; rw [c9b0]) | skip)
          have H' := Sdq.mk H;clear H;go_wp2
          repeat (go_quiet (fail); try go_wp2)
          go_meet
          case rel => exact ⟨_, (wrap64 (rd l0 a1)), (by first | rfl | (simp; done) | (simp [*]; done)), H', ⟨by have := HK1.out; have := HJ2.out; first | omega | exact Nat.le_refl _⟩, ⟨by repeat (first | (with_reducible first | exact HB.out | apply bal | apply pbdN | apply bdr1) | exact HB.out)⟩⟩
        case rest =>
         clear HC8
         try clear p2; try clear c4; try clear c4b0; try clear c5; try clear p5; try clear q5; try clear hx5; try clear c6; try clear c6b0; try clear p6; try clear c7; try clear c7b0; try clear c8; try clear c9; try clear c9b0; try clear c9b1; try clear hx511_0; try clear p2; try clear p511; try clear q511
         obtain ⟨kq, x7_7, rfl, HA, HJ7, HB⟩ := hcut
         cases kq with
         | zero => exact absurd HA.out (by simp [R3q_One.j2])
         | succ kj7 =>
          have H := HA.out;clear HA;simp only [R3q_One.j2] at H;have HC10 := Sdq.mk H;clear H
          go_upto_if 33 with (fail)
          repeat (go_quiet (fail); go_upto_if 33 with (fail))
          go_cut [7] (fun v7 wc => ∃ (kq : Nat) (x7_9 : Int), v7 = .int .i64 x7_9 ∧ Sdq (R3q_One.j3 kq l0 a1 x6_1 x7_9 = some (r1, r2)) ∧ Sdq (kq ≤ kj7) ∧ Sdq (Below w.heap.size w wc))
          case first =>
           have H := HC10.out;clear HC10;by_cases c11 : x6_1 = 3
           ·rw [if_pos c11] at H
            have c11b0 : (x6_1 == 3) = true := beq_iff_eq.mpr c11;have c11b1 : (x6_1 != 3) = false := bne_eq_false_iff_eq.mpr c11;clear c11
            (first | rw [c11b0] | (simp only [i64_w, i32_w]; rw [c11b0]) | skip)
            have H' := Sdq.mk H;clear H;go_wp2
            repeat (go_quiet (fail); try go_wp2)
            go_meet
            case rel => exact ⟨_, (wrap64 (x7_7 - 224)), (by first | rfl | (simp; done) | (simp [*]; done)), H', ⟨by have := HK1.out; have := HJ2.out; have := HJ7.out; first | omega | exact Nat.le_refl _⟩, ⟨by repeat (first | (with_reducible first | exact HB.out | apply bal | apply pbdN | apply bdr1) | exact HB.out)⟩⟩
           ·rw [if_neg c11] at H
            have c11b0 : (x6_1 == 3) = false := beq_eq_false_iff_ne.mpr c11;have c11b1 : (x6_1 != 3) = true := bne_iff_ne.mpr c11
            (first | rw [c11b0] | (simp only [i64_w, i32_w]; rw [c11b0]) | skip)
            have H' := Sdq.mk H;clear H;go_wp2
            repeat (go_quiet (fail); try go_wp2)
            go_meet
            case rel => exact ⟨_, (x7_7), (by first | rfl | (simp; done) | (simp [*]; done)), H', ⟨by have := HK1.out; have := HJ2.out; have := HJ7.out; first | omega | exact Nat.le_refl _⟩, ⟨by repeat (first | (with_reducible first | exact HB.out | apply bal | apply pbdN | apply bdr1) | exact HB.out)⟩⟩
          case rest =>
           clear HC10
           try clear c1; try clear p2; try clear c4; try clear c4b0; try clear c5; try clear p5; try clear q5; try clear hx5; try clear c6; try clear c6b0; try clear p6; try clear c7; try clear c7b0; try clear c8; try clear c9; try clear c9b0; try clear c9b1; try clear c11; try clear c11b0; try clear c11b1; try clear hx511_0; try clear p2; try clear p5; try clear p511; try clear p6; try clear q5; try clear q511
           obtain ⟨kq, x7_9, rfl, HA, HJ9, HB⟩ := hcut
           cases kq with
           | zero => exact absurd HA.out (by simp [R3q_One.j3])
           | succ kj9 =>
            have H := HA.out;clear HA;simp only [R3q_One.j3] at H;have HC12 := Sdq.mk H;clear H
            go_upto_if 37 with (fail)
            repeat (go_quiet (fail); go_upto_if 37 with (fail))
            go_cut [7] (fun v7 wc => ∃ (kq : Nat) (x7_11 : Int), v7 = .int .i64 x7_11 ∧ Sdq (R3q_One.j4 kq l0 a1 x6_1 x7_11 = some (r1, r2)) ∧ Sdq (kq ≤ kj9) ∧ Sdq (Below w.heap.size w wc))
            case first =>
             have H := HC12.out;clear HC12;by_cases c13 : x6_1 = 4
             ·rw [if_pos c13] at H
              have c13b0 : (x6_1 == 4) = true := beq_iff_eq.mpr c13;have c13b1 : (x6_1 != 4) = false := bne_eq_false_iff_eq.mpr c13;clear c13
              (first | rw [c13b0] | (simp only [i64_w, i32_w]; rw [c13b0]) | skip)
              have H' := Sdq.mk H;clear H;go_wp2
              repeat (go_quiet (fail); try go_wp2)
              go_meet
              case rel => exact ⟨_, (wrap64 (x7_9 - 240)), (by first | rfl | (simp; done) | (simp [*]; done)), H', ⟨by have := HK1.out; have := HJ2.out; have := HJ7.out; have := HJ9.out; first | omega | exact Nat.le_refl _⟩, ⟨by repeat (first | (with_reducible first | exact HB.out | apply bal | apply pbdN | apply bdr1) | exact HB.out)⟩⟩
             ·rw [if_neg c13] at H
              have c13b0 : (x6_1 == 4) = false := beq_eq_false_iff_ne.mpr c13;have c13b1 : (x6_1 != 4) = true := bne_iff_ne.mpr c13
              (first | rw [c13b0] | (simp only [i64_w, i32_w]; rw [c13b0]) | skip)
              have H' := Sdq.mk H;clear H;go_wp2
              repeat (go_quiet (fail); try go_wp2)
              go_meet
              case rel => exact ⟨_, (x7_9), (by first | rfl | (simp; done) | (simp [*]; done)), H', ⟨by have := HK1.out; have := HJ2.out; have := HJ7.out; have := HJ9.out; first | omega | exact Nat.le_refl _⟩, ⟨by repeat (first | (with_reducible first | exact HB.out | apply bal | apply pbdN | apply bdr1) | exact HB.out)⟩⟩
            case rest =>
             clear HC12
             try clear c1; try clear p2; try clear c4; try clear c4b0; try clear c5; try clear p5; try clear q5; try clear hx5; try clear c6; try clear c6b0; try clear p6; try clear c7; try clear c7b0; try clear c8; try clear c9; try clear c9b0; try clear c9b1; try clear c11; try clear c11b0; try clear c11b1; try clear c13; try clear c13b0; try clear c13b1; try clear hx511_0; try clear p2; try clear p5; try clear p511; try clear p6; try clear q5; try clear q511
             obtain ⟨kq, x7_11, rfl, HA, HJ11, HB⟩ := hcut
             cases kq with
             | zero => exact absurd HA.out (by simp [R3q_One.j4])
             | succ kj11 =>
              have H := HA.out;clear HA;simp only [R3q_One.j4] at H;have H' := Sdq.mk H;clear H;go_wp2
              repeat (go_quiet (fail); try go_wp2)
              go_loopg [7, 8] kj11 (fun kq v7 v8 w' => ∃ (x7_6 : Int) (x8_6 : Int), v7 = .int .i64 x7_6 ∧ v8 = .int .i64 x8_6 ∧ Sdq (R3q_One.l1 kq l0 a1 x6_1 x7_6 x8_6 = some (r1, r2)) ∧ Sdq (kq ≤ kj11) ∧ Sdq (Below w.heap.size w w'))
              case atStart => exact ⟨(x7_11), (1), (by first | rfl | (simp; done) | (simp [*]; done)), (by first | rfl | (simp; done) | (simp [*]; done)), H', ⟨Nat.le_refl _⟩, ⟨by repeat (first | (with_reducible first | exact HB.out | apply bal | apply pbdN | apply bdr1) | exact HB.out)⟩⟩
              case round =>
               clear H'
               try clear c1; try clear p2; try clear c4; try clear c4b0; try clear c5; try clear p5; try clear q5; try clear hx5; try clear c6; try clear c6b0; try clear p6; try clear c7; try clear c7b0; try clear c8; try clear c9; try clear c9b0; try clear c9b1; try clear c11; try clear c11b0; try clear c11b1; try clear c13; try clear c13b0; try clear c13b1; try clear hx511_0; try clear p2; try clear p5; try clear p511; try clear p6; try clear q5; try clear q511
               obtain ⟨x7_6, x8_6, rfl, rfl, HA, HK6, HB⟩ := hrel
               cases gk with
               | zero => exact absurd HA.out (by simp [R3q_One.l1])
               | succ k6 =>
                have H := HA.out;clear HA;simp only [R3q_One.l1] at H;by_cases c14 : x8_6 < x6_1
                ·rw [if_pos c14] at H
                 have c14b0 : decide (x8_6 < x6_1) = true := decide_eq_true c14;clear c14
                 obtain ⟨ji15, hji15⟩ : ∃ j_ : Int, (wrap64 (a1 + x8_6)) = j_ := ⟨_, rfl⟩
                 replace H : (if 0 ≤ (ji15) then (if (ji15) < (l0.length : Int) then (R3q_One.l1 k6 l0 a1 x6_1 (wrap64 ((wrap64 ((wrap64 (x7_6 * 64)) + (wrap64 (rd l0 (ji15))))) - 128)) (wrap64 (x8_6 + 1))) else (none)) else (none)) = some (r1, r2) := by first | (rw [hji15] at H; exact H) | (simp only [hji15] at H ⊢; exact H)
                 have hji15w : (IntKind.i64.wrap (a1 + x8_6)) = ji15 := (i64_w _).trans hji15;by_cases c16 : 0 ≤ (ji15)
                 ·rw [if_pos c16] at H
                  have c16b0 : decide (0 ≤ (ji15)) = true := decide_eq_true c16;clear c16;by_cases c17 : (ji15) < (l0.length : Int)
                  ·rw [if_pos c17] at H
                   have c17b0 : decide ((ji15) < (l0.length : Int)) = true := decide_eq_true c17;clear c17;have H' := Sdq.mk H;clear H;have p512 : 0 ≤ ((ji15) : Int) := of_decide_eq_true (by assumption);have q512 : (ji15) < (l0.length : Int) := of_decide_eq_true (by assumption);obtain ⟨ad512, e512, hx512_0⟩ := Kd.at_int HR0.out (ji15) p512 q512
                   obtain rfl : ad511 = ad512 := (by injection e512)
                   replace hx512_0 := (HB.out.cell (World.block_lt_of_cell? w _ hx512_0)).trans hx512_0;replace p512 := eq_true p512;replace q512 := eq_true q512;go_wp2
                   repeat (go_quiet (fail); try go_wp2)
                   go_roundg k6
                   case measure => have := HK1.out; have := HJ2.out; have := HJ7.out; have := HJ9.out; have := HJ11.out; have := HK6.out; omega
                   case rel => exact ⟨(wrap64 ((wrap64 ((wrap64 (x7_6 * 64)) + (wrap64 (rd l0 (ji15))))) - 128)), (wrap64 (x8_6 + 1)), (by first | rfl | (simp; done) | (simp only [← hji15] <;> (first | rfl | simp)) | (simp [*]; done)), (by first | rfl | (simp; done) | (simp [*]; done)), H', ⟨by have := HK1.out; have := HJ2.out; have := HJ7.out; have := HJ9.out; have := HJ11.out; have := HK6.out; omega⟩, ⟨by repeat (first | (with_reducible first | exact HB.out | apply bal | apply pbdN | apply bdr1) | exact HB.out)⟩⟩
                  ·rw [if_neg c17] at H
                   exact absurd H (by simp)
                 ·rw [if_neg c16] at H
                  exact absurd H (by simp)
                ·rw [if_neg c14] at H
                 have c14b0 : decide (x8_6 < x6_1) = false := decide_eq_false c14;clear c14;replace H := Option.bind_eq_some_iff.mp H;obtain ⟨⟨t513, t514⟩, A180, H⟩ := H;replace H : (if t514 = 0 then (if 0 ≤ a1 then (if a1 ≤ (wrap64 (a1 + x6_1)) then (if (wrap64 (a1 + x6_1)) ≤ (l0.length : Int) then (if (strOfNums t513).toList = (strOfNums ((l0.take ((wrap64 (a1 + x6_1)) : Int).toNat).drop (a1 : Int).toNat)).toList then (some (x7_6, x6_1)) else (R3q_One.l0 k6 l0 a1 (wrap64 (x6_1 + 1)))) else (none)) else (none)) else (none)) else (R3q_One.l0 k6 l0 a1 (wrap64 (x6_1 + 1)))) = some (r1, r2) := H;have A18 := Sdq.mk A180;clear A180;by_cases c19 : t514 = 0
                 ·rw [if_pos c19] at H
                  have c19b0 : (t514 == 0) = true := beq_iff_eq.mpr c19;have c19b1 : (t514 != 0) = false := bne_eq_false_iff_eq.mpr c19;clear c19;by_cases c20 : 0 ≤ a1
                  ·rw [if_pos c20] at H
                   have c20b0 := eq_true c20;have c20b1 : decide (0 ≤ a1) = true := decide_eq_true c20;clear c20;by_cases c21 : a1 ≤ (wrap64 (a1 + x6_1))
                   ·rw [if_pos c21] at H
                    have c21b0 := eq_true c21;have c21b1 : decide (a1 ≤ (wrap64 (a1 + x6_1))) = true := decide_eq_true c21;by_cases c22 : (wrap64 (a1 + x6_1)) ≤ (l0.length : Int)
                    ·rw [if_pos c22] at H
                     have c22b0 := eq_true c22;have c22b1 : decide ((wrap64 (a1 + x6_1)) ≤ (l0.length : Int)) = true := decide_eq_true c22;by_cases c23 : (strOfNums t513).toList = (strOfNums ((l0.take ((wrap64 (a1 + x6_1)) : Int).toNat).drop (a1 : Int).toNat)).toList
                     ·rw [if_pos c23] at H
                      have c23b0 : ((strOfNums t513).toList == (strOfNums ((l0.take ((wrap64 (a1 + x6_1)) : Int).toNat).drop (a1 : Int).toNat)).toList) = true := beq_iff_eq.mpr c23;have c23b1 : ((strOfNums t513).toList != (strOfNums ((l0.take ((wrap64 (a1 + x6_1)) : Int).toNat).drop (a1 : Int).toNat)).toList) = false := bne_eq_false_iff_eq.mpr c23;clear c23;simp only [Option.some.injEq, Prod.mk.injEq] at H;obtain ⟨rfl, rfl⟩ := H;go_wp2_with (first | (go_at_call 106; (with_reducible refine (R3q_Encode.calls k6 x7_6 t513 t514 _ A18.out).mono ?_); rintro e w24 ⟨v515, rfl, ho0, hb⟩; have n0_ := Sdq.mk (Kd.R_lower ho0 (below_size (by repeat (first | (with_reducible first | exact HB.out | apply bal | apply pbdN | apply bdr1) | exact HB.out)))); have n1_ := Sdq.mk (below_step (by repeat (first | (with_reducible first | exact HB.out | apply bal | apply pbdN | apply bdr1) | exact HB.out)) hb); clear HB; have HO516 := n0_; have HB := n1_; clear n0_ n1_; (try clear hb); (try clear hb2); (try clear hk); (try clear hi); (try clear ho0); have hcv25 := own_string (P := Tryd.prog) Tryd.underlying35 Tryd.underlying5 Tryd.underlying9 (Kd.own_of_R HO516.out); obtain ⟨i026, hi026, _, hsz26, _⟩ := info_parts info5; obtain ⟨A26, hcut26, hA26, hC26⟩ := print_mid_of (P := Tryd.prog) (Value.int .u8) 0 35 5 .i64 .i64 Tryd.underlying35 hi026 hsz26 (some ad511) c0 l0 a1 (wrap64 (a1 + x6_1)) (of_decide_eq_true (by assumption)) (by first | omega | exact of_decide_eq_true (by assumption)) (of_decide_eq_true (by assumption)) HC0.out; have HR517 := Sdq.mk (Kd.C_of_reads (h1 := fun _ => rfl) (hA26 _ (Kd.reads_of_C HR0.out))); have HC517 := Sdq.mk hC26; clear hA26 hC26 hi026 hsz26; have hcv27 := Kd.C_string (P := Tryd.prog) (A := A26) (c := (c0 - a1.toNat)) Tryd.underlying35 Tryd.underlying5 Tryd.underlying9 (Kd.C_below HR517.out HB.out)));generalize hL_ : ((l0.take ((wrap64 (a1 + x6_1)) : Int).toNat).drop (a1 : Int).toNat) = L_ at *;clear hL_;have hwr_ := IntWalk.i64_left (a1 + x6_1);have hS_ := Sdq.mk (show ∀ W, Below w24.heap.size w24 W → ((convert 35 9 v515).run Tryd.prog W = .ok (.string (strOfNums t513)) W ∧ (convert 35 9 (.slice A26 L_.length (c0 - a1.toNat))).run Tryd.prog W = .ok (.string (strOfNums L_)) W) from fun W h_ => ⟨own_string (P := Tryd.prog) Tryd.underlying35 Tryd.underlying5 Tryd.underlying9 (Kd.own_of_R (Kd.R_below HO516.out h_)), Kd.C_string (P := Tryd.prog) (c := (c0 - a1.toNat)) Tryd.underlying35 Tryd.underlying5 Tryd.underlying9 (Kd.C_below (Kd.C_below HR517.out HB.out) h_)⟩)
                      go_region_held3 (fun W => ((convert 35 9 v515).run Tryd.prog W = .ok (.string (strOfNums t513)) W ∧ (convert 35 9 (.slice A26 L_.length (c0 - a1.toNat))).run Tryd.prog W = .ok (.string (strOfNums L_)) W)) (exact hS_.out _ (by first | exact below_drew (Below.refl _ _) | assumption)) (fail)
                      try go_wp2_with fail
                      go_ret2
                      exact ⟨by first | rfl | (simp [errW_none, errW_some] <;> rfl) | (simp [*, errW_none, errW_some] <;> rfl), by repeat (first | (with_reducible first | exact HB.out | apply bal | apply pbdN | apply bdr1) | exact HB.out)⟩
                     ·rw [if_neg c23] at H
                      have c23b0 : ((strOfNums t513).toList == (strOfNums ((l0.take ((wrap64 (a1 + x6_1)) : Int).toNat).drop (a1 : Int).toNat)).toList) = false := beq_eq_false_iff_ne.mpr c23;have c23b1 : ((strOfNums t513).toList != (strOfNums ((l0.take ((wrap64 (a1 + x6_1)) : Int).toNat).drop (a1 : Int).toNat)).toList) = true := bne_iff_ne.mpr c23;have H' := Sdq.mk H;clear H;go_wp2_with (first | (go_at_call 106; (with_reducible refine (R3q_Encode.calls k6 x7_6 t513 t514 _ A18.out).mono ?_); rintro e w28 ⟨v515, rfl, ho0, hb⟩; have n0_ := Sdq.mk (Kd.R_lower ho0 (below_size (by repeat (first | (with_reducible first | exact HB.out | apply bal | apply pbdN | apply bdr1) | exact HB.out)))); have n1_ := Sdq.mk (below_step (by repeat (first | (with_reducible first | exact HB.out | apply bal | apply pbdN | apply bdr1) | exact HB.out)) hb); clear HB; have HO516 := n0_; have HB := n1_; clear n0_ n1_; (try clear hb); (try clear hb2); (try clear hk); (try clear hi); (try clear ho0); have hcv29 := own_string (P := Tryd.prog) Tryd.underlying35 Tryd.underlying5 Tryd.underlying9 (Kd.own_of_R HO516.out); obtain ⟨i030, hi030, _, hsz30, _⟩ := info_parts info5; obtain ⟨A30, hcut30, hA30, hC30⟩ := print_mid_of (P := Tryd.prog) (Value.int .u8) 0 35 5 .i64 .i64 Tryd.underlying35 hi030 hsz30 (some ad511) c0 l0 a1 (wrap64 (a1 + x6_1)) (of_decide_eq_true (by assumption)) (by first | omega | exact of_decide_eq_true (by assumption)) (of_decide_eq_true (by assumption)) HC0.out; have HR517 := Sdq.mk (Kd.C_of_reads (h1 := fun _ => rfl) (hA30 _ (Kd.reads_of_C HR0.out))); have HC517 := Sdq.mk hC30; clear hA30 hC30 hi030 hsz30; have hcv31 := Kd.C_string (P := Tryd.prog) (A := A30) (c := (c0 - a1.toNat)) Tryd.underlying35 Tryd.underlying5 Tryd.underlying9 (Kd.C_below HR517.out HB.out)));generalize hL_ : ((l0.take ((wrap64 (a1 + x6_1)) : Int).toNat).drop (a1 : Int).toNat) = L_ at *;clear hL_;have hwr_ := IntWalk.i64_left (a1 + x6_1);have hS_ := Sdq.mk (show ∀ W, Below w28.heap.size w28 W → ((convert 35 9 v515).run Tryd.prog W = .ok (.string (strOfNums t513)) W ∧ (convert 35 9 (.slice A30 L_.length (c0 - a1.toNat))).run Tryd.prog W = .ok (.string (strOfNums L_)) W) from fun W h_ => ⟨own_string (P := Tryd.prog) Tryd.underlying35 Tryd.underlying5 Tryd.underlying9 (Kd.own_of_R (Kd.R_below HO516.out h_)), Kd.C_string (P := Tryd.prog) (c := (c0 - a1.toNat)) Tryd.underlying35 Tryd.underlying5 Tryd.underlying9 (Kd.C_below (Kd.C_below HR517.out HB.out) h_)⟩)
                      go_region_held3 (fun W => ((convert 35 9 v515).run Tryd.prog W = .ok (.string (strOfNums t513)) W ∧ (convert 35 9 (.slice A30 L_.length (c0 - a1.toNat))).run Tryd.prog W = .ok (.string (strOfNums L_)) W)) (exact hS_.out _ (by first | exact below_drew (Below.refl _ _) | assumption)) (fail)
                      try go_wp2_with fail
                      go_roundg k6
                      case measure => have := HK1.out; have := HJ2.out; have := HJ7.out; have := HJ9.out; have := HJ11.out; have := HK6.out; omega
                      case rel => exact ⟨(wrap64 (x6_1 + 1)), (by first | rfl | (simp; done) | (simp [*]; done)), H', ⟨by have := HK1.out; have := HJ2.out; have := HJ7.out; have := HJ9.out; have := HJ11.out; have := HK6.out; omega⟩, ⟨by repeat (first | (with_reducible first | exact HB.out | apply bal | apply pbdN | apply bdr1) | exact HB.out)⟩⟩
                    ·rw [if_neg c22] at H
                     exact absurd H (by simp)
                   ·rw [if_neg c21] at H
                    exact absurd H (by simp)
                  ·rw [if_neg c20] at H
                   exact absurd H (by simp)
                 ·rw [if_neg c19] at H
                  have c19b0 : (t514 == 0) = false := beq_eq_false_iff_ne.mpr c19;have c19b1 : (t514 != 0) = true := bne_iff_ne.mpr c19;have H' := Sdq.mk H;clear H;go_wp2_with (first | (go_at_call 106; (with_reducible refine (R3q_Encode.calls k6 x7_6 t513 t514 _ A18.out).mono ?_); rintro e w32 ⟨v515, rfl, ho0, hb⟩; have n0_ := Sdq.mk (Kd.R_lower ho0 (below_size (by repeat (first | (with_reducible first | exact HB.out | apply bal | apply pbdN | apply bdr1) | exact HB.out)))); have n1_ := Sdq.mk (below_step (by repeat (first | (with_reducible first | exact HB.out | apply bal | apply pbdN | apply bdr1) | exact HB.out)) hb); clear HB; have HO516 := n0_; have HB := n1_; clear n0_ n1_; (try clear hb); (try clear hb2); (try clear hk); (try clear hi); (try clear ho0)))
                  repeat (go_quiet (first | (go_at_call 106; (with_reducible refine (R3q_Encode.calls k6 x7_6 t513 t514 _ A18.out).mono ?_); rintro e w32 ⟨v515, rfl, ho0, hb⟩; have n0_ := Sdq.mk (Kd.R_lower ho0 (below_size (by repeat (first | (with_reducible first | exact HB.out | apply bal | apply pbdN | apply bdr1) | exact HB.out)))); have n1_ := Sdq.mk (below_step (by repeat (first | (with_reducible first | exact HB.out | apply bal | apply pbdN | apply bdr1) | exact HB.out)) hb); clear HB; have HO516 := n0_; have HB := n1_; clear n0_ n1_; (try clear hb); (try clear hb2); (try clear hk); (try clear hi); (try clear ho0))); try go_wp2_with (first | (go_at_call 106; (with_reducible refine (R3q_Encode.calls k6 x7_6 t513 t514 _ A18.out).mono ?_); rintro e w32 ⟨v515, rfl, ho0, hb⟩; have n0_ := Sdq.mk (Kd.R_lower ho0 (below_size (by repeat (first | (with_reducible first | exact HB.out | apply bal | apply pbdN | apply bdr1) | exact HB.out)))); have n1_ := Sdq.mk (below_step (by repeat (first | (with_reducible first | exact HB.out | apply bal | apply pbdN | apply bdr1) | exact HB.out)) hb); clear HB; have HO516 := n0_; have HB := n1_; clear n0_ n1_; (try clear hb); (try clear hb2); (try clear hk); (try clear hi); (try clear ho0))))
                  go_roundg k6
                  case measure => have := HK1.out; have := HJ2.out; have := HJ7.out; have := HJ9.out; have := HJ11.out; have := HK6.out; omega
                  case rel => exact ⟨(wrap64 (x6_1 + 1)), (by first | rfl | (simp; done) | (simp [*]; done)), H', ⟨by have := HK1.out; have := HJ2.out; have := HJ7.out; have := HJ9.out; have := HJ11.out; have := HK6.out; omega⟩, ⟨by repeat (first | (with_reducible first | exact HB.out | apply bal | apply pbdN | apply bdr1) | exact HB.out)⟩⟩
       ·rw [if_neg c7] at H
        exact absurd H (by simp)
      ·rw [if_neg c6] at H
       exact absurd H (by simp)
     ·replace c5 := Bool.eq_false_iff.mpr c5
      subst c5
      have H1 : (some ((-1), 0)) = some (r1, r2) := by rw [if_neg (show ¬ (false = true) by decide)] at H; exact H
      clear H;have H := H1;clear H1;simp only [Option.some.injEq, Prod.mk.injEq] at H;obtain ⟨rfl, rfl⟩ := H;go_wp2
      repeat (go_quiet (fail); try go_wp2)
      go_ret2
      exact ⟨by first | rfl | (simp [errW_none, errW_some] <;> rfl) | (simp [*, errW_none, errW_some] <;> rfl), by repeat (first | (with_reducible first | exact HB.out | apply bal | apply pbdN | apply bdr1) | exact HB.out)⟩
end Go.Proofs.YteighppcdpaekaaDoor.P
end
