/- Walks and words of this session, put together by a program of this session (pack.py). Conditions: as each text says. -/
import Derived.Laws.BitsLemmas
import Derived.OwnWalk
import Derived.Test.YteighppcdpaekaaDoorQ2
import Derived.Test.YteighppcdpaekaaDoorQ8
set_option linter.unusedVariables false
set_option linter.unusedSimpArgs false
section
namespace Go.Proofs.YteighppcdpaekaaDoor.P
open Go.RowKit Go.Proofs.YteighppcdpaekaaDoorW.PrintWords Go.Proofs.YteighppcdpaekaaDoorW.PrintLast Go.Proofs.YteighppcdpaekaaDoorW.PrintMore
attribute [local go_sem] max2_int min2_int max_two min_two max_three min_three max_four min_four
set_option linter.unusedVariables false
set_option linter.unusedSimpArgs false
def utf_more.f (l0 : List Int) (a1 : Int) : Option (Bool) := if a1 < (l0.length : Int) then (if 0 ≤ a1 then (some ((Go.bits .and .u8 (rd l0 a1) 192) == 128)) else (none)) else (some false)
set_option maxHeartbeats 8000000 in
set_option maxRecDepth 100000 in
theorem utf_more.calls (A0 : Option Addr) (c0 : Nat) (l0 : List Int) (a1 : Int) (r : Bool) (w : World) (hr0 : Kd.C (Kd.int .u8) w A0 l0.length l0) (hc0 : l0.length ≤ c0) (h : utf_more.f l0 a1 = some r) :
  Calls Tryd.prog 96 #[.slice A0 l0.length c0, .int .i64 a1] w fun e w' => e = .returned (.bool r) ∧ Drawn0 w w' := by
 have HR0 := Sdq.mk hr0;have HC0 := Sdq.mk hc0;clear hr0 hc0;have H : (if a1 < (l0.length : Int) then (if 0 ≤ a1 then (some ((Go.bits .and .u8 (rd l0 a1) 192) == 128)) else (none)) else (some false)) = some r := h;clear h;by_cases c3 : a1 < (l0.length : Int)
 ·rw [if_pos c3] at H
  have c3b0 : decide (a1 < (l0.length : Int)) = true := decide_eq_true c3;clear c3;by_cases c4 : 0 ≤ a1
  ·rw [if_pos c4] at H
   have c4b0 : decide (0 ≤ a1) = true := decide_eq_true c4;clear c4;obtain rfl := Option.some.inj H;have p101 : 0 ≤ (a1 : Int) := of_decide_eq_true (by assumption);have q101 : a1 < (l0.length : Int) := of_decide_eq_true (by assumption);obtain ⟨ad101, e101, hx101_0⟩ := Kd.at_int HR0.out a1 p101 q101;cases e101;replace p101 := eq_true p101;replace q101 := eq_true q101;go_enter Tryd.func96, Tryd.ntmps96;go_wp2;go_ret;exact ⟨by first | rfl | (simp; done) | (simp [*]; done), by repeat (first | exact Drawn0.refl _ | apply Drawn0.step)⟩
  ·rw [if_neg c4] at H
   exact absurd H (by simp)
 ·rw [if_neg c3] at H
  have c3b0 : decide (a1 < (l0.length : Int)) = false := decide_eq_false c3;clear c3;obtain rfl := Option.some.inj H;go_enter Tryd.func96, Tryd.ntmps96;go_wp2;go_ret;exact ⟨by first | rfl | (simp; done) | (simp [*]; done), by repeat (first | exact Drawn0.refl _ | apply Drawn0.step)⟩
mutual
def utf_letter.j0 : Nat → List Int → Int → Int → Bool → Option (Int × Int)
 | 0, _, _, _, _ => none
 | k + 1, x0, x1, x6, x18 => if x18 = true then (if 0 ≤ (wrap64 (x1 + 1)) then (if (wrap64 (x1 + 1)) < (x0.length : Int) then (some (Go.bits .or .i32 (wrap32 ((Go.bits .and .i32 x6 31) * 64)) (wrap32 (Go.bits .and .u8 (rd x0 (wrap64 (x1 + 1))) 63)), 2)) else (none)) else (none)) else (if x6 ≥ 224 then (if x6 ≤ 239 then ((utf_more.f x0 (wrap64 (x1 + 1))).bind fun t105 => (if t105 = true then ((utf_more.f x0 (wrap64 (x1 + 2))).bind fun t106 => (utf_letter.j1 k x0 x1 x6 t106)) else (utf_letter.j1 k x0 x1 x6 false))) else (utf_letter.j1 k x0 x1 x6 false)) else (utf_letter.j1 k x0 x1 x6 false))
def utf_letter.j1 : Nat → List Int → Int → Int → Bool → Option (Int × Int)
 | 0, _, _, _, _ => none
 | k + 1, x0, x1, x6, x42 => if x42 = true then (if 0 ≤ (wrap64 (x1 + 1)) then (if (wrap64 (x1 + 1)) < (x0.length : Int) then (if 0 ≤ (wrap64 (x1 + 2)) then (if (wrap64 (x1 + 2)) < (x0.length : Int) then (if (Go.bits .or .i32 (Go.bits .or .i32 (wrap32 ((Go.bits .and .i32 x6 15) * 4096)) (wrap32 ((wrap32 (Go.bits .and .u8 (rd x0 (wrap64 (x1 + 1))) 63)) * 64))) (wrap32 (Go.bits .and .u8 (rd x0 (wrap64 (x1 + 2))) 63))) ≥ 2048 then (if (Go.bits .or .i32 (Go.bits .or .i32 (wrap32 ((Go.bits .and .i32 x6 15) * 4096)) (wrap32 ((wrap32 (Go.bits .and .u8 (rd x0 (wrap64 (x1 + 1))) 63)) * 64))) (wrap32 (Go.bits .and .u8 (rd x0 (wrap64 (x1 + 2))) 63))) < 55296 then (some (Go.bits .or .i32 (Go.bits .or .i32 (wrap32 ((Go.bits .and .i32 x6 15) * 4096)) (wrap32 ((wrap32 (Go.bits .and .u8 (rd x0 (wrap64 (x1 + 1))) 63)) * 64))) (wrap32 (Go.bits .and .u8 (rd x0 (wrap64 (x1 + 2))) 63)), 3)) else (if (Go.bits .or .i32 (Go.bits .or .i32 (wrap32 ((Go.bits .and .i32 x6 15) * 4096)) (wrap32 ((wrap32 (Go.bits .and .u8 (rd x0 (wrap64 (x1 + 1))) 63)) * 64))) (wrap32 (Go.bits .and .u8 (rd x0 (wrap64 (x1 + 2))) 63))) > 57343 then (some (Go.bits .or .i32 (Go.bits .or .i32 (wrap32 ((Go.bits .and .i32 x6 15) * 4096)) (wrap32 ((wrap32 (Go.bits .and .u8 (rd x0 (wrap64 (x1 + 1))) 63)) * 64))) (wrap32 (Go.bits .and .u8 (rd x0 (wrap64 (x1 + 2))) 63)), 3)) else (some (0, 0)))) else (some (0, 0))) else (none)) else (none)) else (none)) else (none)) else (if x6 ≥ 240 then (if x6 ≤ 244 then ((utf_more.f x0 (wrap64 (x1 + 1))).bind fun t109 => (if t109 = true then ((utf_more.f x0 (wrap64 (x1 + 2))).bind fun t110 => (if t110 = true then ((utf_more.f x0 (wrap64 (x1 + 3))).bind fun t111 => (utf_letter.j2 k x0 x1 x6 t111)) else (utf_letter.j2 k x0 x1 x6 false))) else (utf_letter.j2 k x0 x1 x6 false))) else (utf_letter.j2 k x0 x1 x6 false)) else (utf_letter.j2 k x0 x1 x6 false))
def utf_letter.j2 : Nat → List Int → Int → Int → Bool → Option (Int × Int)
 | 0, _, _, _, _ => none
 | k + 1, x0, x1, x6, x92 => if x92 = true then (if 0 ≤ (wrap64 (x1 + 1)) then (if (wrap64 (x1 + 1)) < (x0.length : Int) then (if 0 ≤ (wrap64 (x1 + 2)) then (if (wrap64 (x1 + 2)) < (x0.length : Int) then (if 0 ≤ (wrap64 (x1 + 3)) then (if (wrap64 (x1 + 3)) < (x0.length : Int) then (if (Go.bits .or .i32 (Go.bits .or .i32 (Go.bits .or .i32 (wrap32 ((Go.bits .and .i32 x6 7) * 262144)) (wrap32 ((wrap32 (Go.bits .and .u8 (rd x0 (wrap64 (x1 + 1))) 63)) * 4096))) (wrap32 ((wrap32 (Go.bits .and .u8 (rd x0 (wrap64 (x1 + 2))) 63)) * 64))) (wrap32 (Go.bits .and .u8 (rd x0 (wrap64 (x1 + 3))) 63))) ≥ 65536 then (if (Go.bits .or .i32 (Go.bits .or .i32 (Go.bits .or .i32 (wrap32 ((Go.bits .and .i32 x6 7) * 262144)) (wrap32 ((wrap32 (Go.bits .and .u8 (rd x0 (wrap64 (x1 + 1))) 63)) * 4096))) (wrap32 ((wrap32 (Go.bits .and .u8 (rd x0 (wrap64 (x1 + 2))) 63)) * 64))) (wrap32 (Go.bits .and .u8 (rd x0 (wrap64 (x1 + 3))) 63))) ≤ 1114111 then (some (Go.bits .or .i32 (Go.bits .or .i32 (Go.bits .or .i32 (wrap32 ((Go.bits .and .i32 x6 7) * 262144)) (wrap32 ((wrap32 (Go.bits .and .u8 (rd x0 (wrap64 (x1 + 1))) 63)) * 4096))) (wrap32 ((wrap32 (Go.bits .and .u8 (rd x0 (wrap64 (x1 + 2))) 63)) * 64))) (wrap32 (Go.bits .and .u8 (rd x0 (wrap64 (x1 + 3))) 63)), 4)) else (some (0, 0))) else (some (0, 0))) else (none)) else (none)) else (none)) else (none)) else (none)) else (none)) else (some (0, 0))
end
def utf_letter.f (k : Nat) (l0 : List Int) (a1 : Int) : Option (Int × Int) := if 0 ≤ a1 then (if a1 < (l0.length : Int) then (if (wrap32 (rd l0 a1)) < 128 then (some (wrap32 (rd l0 a1), 1)) else (if (wrap32 (rd l0 a1)) ≥ 194 then (if (wrap32 (rd l0 a1)) ≤ 223 then ((utf_more.f l0 (wrap64 (a1 + 1))).bind fun t103 => (utf_letter.j0 k l0 a1 (wrap32 (rd l0 a1)) t103)) else (utf_letter.j0 k l0 a1 (wrap32 (rd l0 a1)) false)) else (utf_letter.j0 k l0 a1 (wrap32 (rd l0 a1)) false))) else (none)) else (none)
set_option maxHeartbeats 8000000 in
set_option maxRecDepth 100000 in
theorem utf_letter.calls (k : Nat) (A0 : Option Addr) (c0 : Nat) (l0 : List Int) (a1 : Int) (r1 : Int) (r2 : Int) (w : World) (hr0 : Kd.C (Kd.int .u8) w A0 l0.length l0) (hc0 : l0.length ≤ c0) (h : utf_letter.f k l0 a1 = some (r1, r2)) :
  Calls Tryd.prog 73 #[.slice A0 l0.length c0, .int .i64 a1] w fun e w' => e = .returned (.tuple #[.int .i32 r1, .int .i64 r2]) ∧ Drawn0 w w' := by
 have HR0 := Sdq.mk hr0;have HC0 := Sdq.mk hc0;clear hr0 hc0;have H : (if 0 ≤ a1 then (if a1 < (l0.length : Int) then (if (wrap32 (rd l0 a1)) < 128 then (some (wrap32 (rd l0 a1), 1)) else (if (wrap32 (rd l0 a1)) ≥ 194 then (if (wrap32 (rd l0 a1)) ≤ 223 then ((utf_more.f l0 (wrap64 (a1 + 1))).bind fun t103 => (utf_letter.j0 k l0 a1 (wrap32 (rd l0 a1)) t103)) else (utf_letter.j0 k l0 a1 (wrap32 (rd l0 a1)) false)) else (utf_letter.j0 k l0 a1 (wrap32 (rd l0 a1)) false))) else (none)) else (none)) = some (r1, r2) := h;clear h;by_cases c3 : 0 ≤ a1
 ·rw [if_pos c3] at H
  have c3b0 : decide (0 ≤ a1) = true := decide_eq_true c3;clear c3;by_cases c4 : a1 < (l0.length : Int)
  ·rw [if_pos c4] at H
   have c4b0 : decide (a1 < (l0.length : Int)) = true := decide_eq_true c4;clear c4;by_cases c5 : (wrap32 (rd l0 a1)) < 128
   ·rw [if_pos c5] at H
    have c5b0 : decide ((wrap32 (rd l0 a1)) < 128) = true := decide_eq_true c5;clear c5;simp only [Option.some.injEq, Prod.mk.injEq] at H;obtain ⟨rfl, rfl⟩ := H;have p102 : 0 ≤ (a1 : Int) := of_decide_eq_true (by assumption);have q102 : a1 < (l0.length : Int) := of_decide_eq_true (by assumption);obtain ⟨ad102, e102, hx102_0⟩ := Kd.at_int HR0.out a1 p102 q102;cases e102;replace p102 := eq_true p102;replace q102 := eq_true q102;go_enter Tryd.func73, Tryd.ntmps73;go_wp2
    repeat (go_quiet (fail); try go_wp2)
    go_ret2
    exact ⟨by first | rfl | (simp; done) | (simp [*]; done), by repeat (first | exact Drawn0.refl _ | apply Drawn0.step)⟩
   ·rw [if_neg c5] at H
    have c5b0 : decide ((wrap32 (rd l0 a1)) < 128) = false := decide_eq_false c5;clear c5;have HC6 := Sdq.mk H;clear H;have p102 : 0 ≤ (a1 : Int) := of_decide_eq_true (by assumption);have q102 : a1 < (l0.length : Int) := of_decide_eq_true (by assumption);obtain ⟨ad102, e102, hx102_0⟩ := Kd.at_int HR0.out a1 p102 q102;cases e102;replace p102 := eq_true p102;replace q102 := eq_true q102;go_enter Tryd.func73, Tryd.ntmps73
    go_upto_region 4 with (fail)
    repeat (go_quiet (fail); go_upto_region 4 with (fail))
    go_cut [18] (fun v18 wc => ∃ (kq : Nat) (x18_5 : Bool), v18 = .bool x18_5 ∧ Sdq (utf_letter.j0 kq l0 a1 (wrap32 (rd l0 a1)) x18_5 = some (r1, r2)) ∧ Sdq (kq ≤ k) ∧ Drawn0 w wc)
    case first =>
     have H := HC6.out;clear HC6;by_cases c7 : (wrap32 (rd l0 a1)) ≥ 194
     ·rw [if_pos c7] at H
      have c7b0 : decide (194 ≤ (wrap32 (rd l0 a1))) = true := decide_eq_true c7;clear c7
      (first | rw [c7b0] | (simp only [i64_w, i32_w]; rw [c7b0]) | skip)
      by_cases c8 : (wrap32 (rd l0 a1)) ≤ 223
      ·rw [if_pos c8] at H
       have c8b0 : decide ((wrap32 (rd l0 a1)) ≤ 223) = true := decide_eq_true c8;clear c8;replace H := Option.bind_eq_some_iff.mp H;obtain ⟨t103, A90, H⟩ := H;replace H : (utf_letter.j0 k l0 a1 (wrap32 (rd l0 a1)) t103) = some (r1, r2) := H;have A9 := Sdq.mk A90;clear A90;have H' := Sdq.mk H;clear H;go_wp2_with (first | (go_at_call 96; (with_reducible refine (utf_more.calls _ _ l0 (wrap64 (a1 + 1)) t103 _ ?side1 ?side2 A9.out).mono ?_); (case side1 => repeat (first | exact HR0.out | (with_reducible refine Kd.C_alloc ?_ _) | (with_reducible refine Kd.C_drewN ?_ _) | (with_reducible refine Kd.C_drew ?_))); (case side2 => exact HC0.out); rintro e w' ⟨rfl, ⟨nd, rfl⟩⟩; (try first | exact ⟨rfl, _, World.drewN_drewN _ _ _⟩ | exact ⟨rfl, _, Eq.trans (World.drewN_drewN _ _ _) (congrArg (World.drewN _) (Nat.add_assoc _ _ _))⟩)))
       repeat (go_quiet (first | (go_at_call 96; (with_reducible refine (utf_more.calls _ _ l0 (wrap64 (a1 + 1)) t103 _ ?side1 ?side2 A9.out).mono ?_); (case side1 => repeat (first | exact HR0.out | (with_reducible refine Kd.C_alloc ?_ _) | (with_reducible refine Kd.C_drewN ?_ _) | (with_reducible refine Kd.C_drew ?_))); (case side2 => exact HC0.out); rintro e w' ⟨rfl, ⟨nd, rfl⟩⟩; (try first | exact ⟨rfl, _, World.drewN_drewN _ _ _⟩ | exact ⟨rfl, _, Eq.trans (World.drewN_drewN _ _ _) (congrArg (World.drewN _) (Nat.add_assoc _ _ _))⟩))); try go_wp2_with (first | (go_at_call 96; (with_reducible refine (utf_more.calls _ _ l0 (wrap64 (a1 + 1)) t103 _ ?side1 ?side2 A9.out).mono ?_); (case side1 => repeat (first | exact HR0.out | (with_reducible refine Kd.C_alloc ?_ _) | (with_reducible refine Kd.C_drewN ?_ _) | (with_reducible refine Kd.C_drew ?_))); (case side2 => exact HC0.out); rintro e w' ⟨rfl, ⟨nd, rfl⟩⟩; (try first | exact ⟨rfl, _, World.drewN_drewN _ _ _⟩ | exact ⟨rfl, _, Eq.trans (World.drewN_drewN _ _ _) (congrArg (World.drewN _) (Nat.add_assoc _ _ _))⟩))))
       go_meet
       case rel => exact ⟨_, (t103), (by first | rfl | (simp; done) | (simp [*]; done)), H', ⟨by first | omega | exact Nat.le_refl _⟩, by repeat (first | exact Drawn0.refl _ | apply Drawn0.step)⟩
      ·rw [if_neg c8] at H
       have c8b0 : decide ((wrap32 (rd l0 a1)) ≤ 223) = false := decide_eq_false c8;clear c8;have H' := Sdq.mk H;clear H;go_wp2
       repeat (go_quiet (fail); try go_wp2)
       go_meet
       case rel => exact ⟨_, (false), (by first | rfl | (simp; done) | (simp [*]; done)), H', ⟨by first | omega | exact Nat.le_refl _⟩, by repeat (first | exact Drawn0.refl _ | apply Drawn0.step)⟩
     ·rw [if_neg c7] at H
      have c7b0 : decide (194 ≤ (wrap32 (rd l0 a1))) = false := decide_eq_false c7;clear c7
      (first | rw [c7b0] | (simp only [i64_w, i32_w]; rw [c7b0]) | skip)
      have H' := Sdq.mk H;clear H;go_wp2
      repeat (go_quiet (fail); try go_wp2)
      go_meet
      case rel => exact ⟨_, (false), (by first | rfl | (simp; done) | (simp [*]; done)), H', ⟨by first | omega | exact Nat.le_refl _⟩, by repeat (first | exact Drawn0.refl _ | apply Drawn0.step)⟩
    case rest =>
     clear HC6
     try clear p1; try clear q1; try clear hx1; try clear p2; try clear c3; try clear c3b0; try clear p3; try clear c4; try clear c4b0; try clear c5; try clear c5b0; try clear p6; try clear c7; try clear c7b0; try clear c8; try clear c8b0; try clear hx102_0; try clear p102; try clear q102
     obtain ⟨kq, x18_5, rfl, HA, HJ5, ⟨mc5, rfl⟩⟩ := hcut
     cases kq with
     | zero => exact absurd HA.out (by simp [utf_letter.j0])
     | succ kj5 =>
      have H := HA.out;clear HA;simp only [utf_letter.j0] at H;by_cases c10 : x18_5 = true
      ·subst c10
       have H1 : (if 0 ≤ (wrap64 (a1 + 1)) then (if (wrap64 (a1 + 1)) < (l0.length : Int) then (some (Go.bits .or .i32 (wrap32 ((Go.bits .and .i32 (wrap32 (rd l0 a1)) 31) * 64)) (wrap32 (Go.bits .and .u8 (rd l0 (wrap64 (a1 + 1))) 63)), 2)) else (none)) else (none)) = some (r1, r2) := by rw [if_pos rfl] at H; exact H
       clear H;have H := H1;clear H1
       obtain ⟨ji11, hji11⟩ : ∃ j_ : Int, (wrap64 (a1 + 1)) = j_ := ⟨_, rfl⟩
       replace H : (if 0 ≤ (ji11) then (if (ji11) < (l0.length : Int) then (some (Go.bits .or .i32 (wrap32 ((Go.bits .and .i32 (wrap32 (rd l0 a1)) 31) * 64)) (wrap32 (Go.bits .and .u8 (rd l0 (ji11)) 63)), 2)) else (none)) else (none)) = some (r1, r2) := by first | (rw [hji11] at H; exact H) | (simp only [hji11] at H ⊢; exact H)
       have hji11w : (IntKind.i64.wrap (a1 + 1)) = ji11 := (i64_w _).trans hji11;by_cases c12 : 0 ≤ (ji11)
       ·rw [if_pos c12] at H
        have c12b0 : decide (0 ≤ (ji11)) = true := decide_eq_true c12;clear c12;by_cases c13 : (ji11) < (l0.length : Int)
        ·rw [if_pos c13] at H
         have c13b0 : decide ((ji11) < (l0.length : Int)) = true := decide_eq_true c13;clear c13;simp only [Option.some.injEq, Prod.mk.injEq] at H;obtain ⟨rfl, rfl⟩ := H;have p104 : 0 ≤ ((ji11) : Int) := of_decide_eq_true (by assumption);have q104 : (ji11) < (l0.length : Int) := of_decide_eq_true (by assumption);obtain ⟨ad104, e104, hx104_0⟩ := Kd.at_int HR0.out (ji11) p104 q104
         obtain rfl : ad102 = ad104 := (by injection e104)
         replace p104 := eq_true p104;replace q104 := eq_true q104;go_wp2
         repeat (go_quiet (fail); try go_wp2)
         go_ret2
         exact ⟨by first | rfl | (simp; done) | (simp only [← hji11] <;> (first | rfl | simp)) | (simp [*]; done), by repeat (first | exact Drawn0.refl _ | apply Drawn0.step)⟩
        ·rw [if_neg c13] at H
         exact absurd H (by simp)
       ·rw [if_neg c12] at H
        exact absurd H (by simp)
      ·replace c10 := Bool.eq_false_iff.mpr c10
       subst c10
       have H1 : (if (wrap32 (rd l0 a1)) ≥ 224 then (if (wrap32 (rd l0 a1)) ≤ 239 then ((utf_more.f l0 (wrap64 (a1 + 1))).bind fun t105 => (if t105 = true then ((utf_more.f l0 (wrap64 (a1 + 2))).bind fun t106 => (utf_letter.j1 kj5 l0 a1 (wrap32 (rd l0 a1)) t106)) else (utf_letter.j1 kj5 l0 a1 (wrap32 (rd l0 a1)) false))) else (utf_letter.j1 kj5 l0 a1 (wrap32 (rd l0 a1)) false)) else (utf_letter.j1 kj5 l0 a1 (wrap32 (rd l0 a1)) false)) = some (r1, r2) := by rw [if_neg (show ¬ (false = true) by decide)] at H; exact H
       clear H;have H := H1;clear H1;have HC14 := Sdq.mk H;clear H
       go_upto_region 6 with (fail)
       repeat (go_quiet (fail); go_upto_region 6 with (fail))
       go_cut [42] (fun v42 wc => ∃ (kq : Nat) (x42_13 : Bool), v42 = .bool x42_13 ∧ Sdq (utf_letter.j1 kq l0 a1 (wrap32 (rd l0 a1)) x42_13 = some (r1, r2)) ∧ Sdq (kq ≤ kj5) ∧ Drawn0 w wc)
       case first =>
        have H := HC14.out;clear HC14;by_cases c15 : (wrap32 (rd l0 a1)) ≥ 224
        ·rw [if_pos c15] at H
         have c15b0 : decide (224 ≤ (wrap32 (rd l0 a1))) = true := decide_eq_true c15;clear c15
         (first | rw [c15b0] | (simp only [i64_w, i32_w]; rw [c15b0]) | skip)
         by_cases c16 : (wrap32 (rd l0 a1)) ≤ 239
         ·rw [if_pos c16] at H
          have c16b0 : decide ((wrap32 (rd l0 a1)) ≤ 239) = true := decide_eq_true c16;clear c16;replace H := Option.bind_eq_some_iff.mp H;obtain ⟨t105, A170, H⟩ := H;replace H : (if t105 = true then ((utf_more.f l0 (wrap64 (a1 + 2))).bind fun t106 => (utf_letter.j1 kj5 l0 a1 (wrap32 (rd l0 a1)) t106)) else (utf_letter.j1 kj5 l0 a1 (wrap32 (rd l0 a1)) false)) = some (r1, r2) := H;have A17 := Sdq.mk A170;clear A170;by_cases c18 : t105 = true
          ·subst c18
           have H1 : ((utf_more.f l0 (wrap64 (a1 + 2))).bind fun t106 => (utf_letter.j1 kj5 l0 a1 (wrap32 (rd l0 a1)) t106)) = some (r1, r2) := by rw [if_pos rfl] at H; exact H
           clear H;have H := H1;clear H1;replace H := Option.bind_eq_some_iff.mp H;obtain ⟨t106, A190, H⟩ := H;replace H : (utf_letter.j1 kj5 l0 a1 (wrap32 (rd l0 a1)) t106) = some (r1, r2) := H;have A19 := Sdq.mk A190;clear A190;have H' := Sdq.mk H;clear H;go_wp2_with (first | (go_at_call 96; (with_reducible refine (utf_more.calls _ _ l0 (wrap64 (a1 + 1)) true _ ?side1 ?side2 A17.out).mono ?_); (case side1 => repeat (first | exact HR0.out | (with_reducible refine Kd.C_alloc ?_ _) | (with_reducible refine Kd.C_drewN ?_ _) | (with_reducible refine Kd.C_drew ?_))); (case side2 => exact HC0.out); rintro e w' ⟨rfl, ⟨nd, rfl⟩⟩; (try first | exact ⟨rfl, _, World.drewN_drewN _ _ _⟩ | exact ⟨rfl, _, Eq.trans (World.drewN_drewN _ _ _) (congrArg (World.drewN _) (Nat.add_assoc _ _ _))⟩)) | (go_at_call 96; (with_reducible refine (utf_more.calls _ _ l0 (wrap64 (a1 + 2)) t106 _ ?side1 ?side2 A19.out).mono ?_); (case side1 => repeat (first | exact HR0.out | (with_reducible refine Kd.C_alloc ?_ _) | (with_reducible refine Kd.C_drewN ?_ _) | (with_reducible refine Kd.C_drew ?_))); (case side2 => exact HC0.out); rintro e w' ⟨rfl, ⟨nd, rfl⟩⟩; (try first | exact ⟨rfl, _, World.drewN_drewN _ _ _⟩ | exact ⟨rfl, _, Eq.trans (World.drewN_drewN _ _ _) (congrArg (World.drewN _) (Nat.add_assoc _ _ _))⟩)))
           repeat (go_quiet (first | (go_at_call 96; (with_reducible refine (utf_more.calls _ _ l0 (wrap64 (a1 + 1)) true _ ?side1 ?side2 A17.out).mono ?_); (case side1 => repeat (first | exact HR0.out | (with_reducible refine Kd.C_alloc ?_ _) | (with_reducible refine Kd.C_drewN ?_ _) | (with_reducible refine Kd.C_drew ?_))); (case side2 => exact HC0.out); rintro e w' ⟨rfl, ⟨nd, rfl⟩⟩; (try first | exact ⟨rfl, _, World.drewN_drewN _ _ _⟩ | exact ⟨rfl, _, Eq.trans (World.drewN_drewN _ _ _) (congrArg (World.drewN _) (Nat.add_assoc _ _ _))⟩)) | (go_at_call 96; (with_reducible refine (utf_more.calls _ _ l0 (wrap64 (a1 + 2)) t106 _ ?side1 ?side2 A19.out).mono ?_); (case side1 => repeat (first | exact HR0.out | (with_reducible refine Kd.C_alloc ?_ _) | (with_reducible refine Kd.C_drewN ?_ _) | (with_reducible refine Kd.C_drew ?_))); (case side2 => exact HC0.out); rintro e w' ⟨rfl, ⟨nd, rfl⟩⟩; (try first | exact ⟨rfl, _, World.drewN_drewN _ _ _⟩ | exact ⟨rfl, _, Eq.trans (World.drewN_drewN _ _ _) (congrArg (World.drewN _) (Nat.add_assoc _ _ _))⟩))); try go_wp2_with (first | (go_at_call 96; (with_reducible refine (utf_more.calls _ _ l0 (wrap64 (a1 + 1)) true _ ?side1 ?side2 A17.out).mono ?_); (case side1 => repeat (first | exact HR0.out | (with_reducible refine Kd.C_alloc ?_ _) | (with_reducible refine Kd.C_drewN ?_ _) | (with_reducible refine Kd.C_drew ?_))); (case side2 => exact HC0.out); rintro e w' ⟨rfl, ⟨nd, rfl⟩⟩; (try first | exact ⟨rfl, _, World.drewN_drewN _ _ _⟩ | exact ⟨rfl, _, Eq.trans (World.drewN_drewN _ _ _) (congrArg (World.drewN _) (Nat.add_assoc _ _ _))⟩)) | (go_at_call 96; (with_reducible refine (utf_more.calls _ _ l0 (wrap64 (a1 + 2)) t106 _ ?side1 ?side2 A19.out).mono ?_); (case side1 => repeat (first | exact HR0.out | (with_reducible refine Kd.C_alloc ?_ _) | (with_reducible refine Kd.C_drewN ?_ _) | (with_reducible refine Kd.C_drew ?_))); (case side2 => exact HC0.out); rintro e w' ⟨rfl, ⟨nd, rfl⟩⟩; (try first | exact ⟨rfl, _, World.drewN_drewN _ _ _⟩ | exact ⟨rfl, _, Eq.trans (World.drewN_drewN _ _ _) (congrArg (World.drewN _) (Nat.add_assoc _ _ _))⟩))))
           go_meet
           case rel => exact ⟨_, (t106), (by first | rfl | (simp; done) | (simp [*]; done)), H', ⟨by have := HJ5.out; first | omega | exact Nat.le_refl _⟩, by repeat (first | exact Drawn0.refl _ | apply Drawn0.step)⟩
          ·replace c18 := Bool.eq_false_iff.mpr c18
           subst c18
           have H1 : (utf_letter.j1 kj5 l0 a1 (wrap32 (rd l0 a1)) false) = some (r1, r2) := by rw [if_neg (show ¬ (false = true) by decide)] at H; exact H
           clear H;have H := H1;clear H1;have H' := Sdq.mk H;clear H;go_wp2_with (first | (go_at_call 96; (with_reducible refine (utf_more.calls _ _ l0 (wrap64 (a1 + 1)) false _ ?side1 ?side2 A17.out).mono ?_); (case side1 => repeat (first | exact HR0.out | (with_reducible refine Kd.C_alloc ?_ _) | (with_reducible refine Kd.C_drewN ?_ _) | (with_reducible refine Kd.C_drew ?_))); (case side2 => exact HC0.out); rintro e w' ⟨rfl, ⟨nd, rfl⟩⟩; (try first | exact ⟨rfl, _, World.drewN_drewN _ _ _⟩ | exact ⟨rfl, _, Eq.trans (World.drewN_drewN _ _ _) (congrArg (World.drewN _) (Nat.add_assoc _ _ _))⟩)))
           repeat (go_quiet (first | (go_at_call 96; (with_reducible refine (utf_more.calls _ _ l0 (wrap64 (a1 + 1)) false _ ?side1 ?side2 A17.out).mono ?_); (case side1 => repeat (first | exact HR0.out | (with_reducible refine Kd.C_alloc ?_ _) | (with_reducible refine Kd.C_drewN ?_ _) | (with_reducible refine Kd.C_drew ?_))); (case side2 => exact HC0.out); rintro e w' ⟨rfl, ⟨nd, rfl⟩⟩; (try first | exact ⟨rfl, _, World.drewN_drewN _ _ _⟩ | exact ⟨rfl, _, Eq.trans (World.drewN_drewN _ _ _) (congrArg (World.drewN _) (Nat.add_assoc _ _ _))⟩))); try go_wp2_with (first | (go_at_call 96; (with_reducible refine (utf_more.calls _ _ l0 (wrap64 (a1 + 1)) false _ ?side1 ?side2 A17.out).mono ?_); (case side1 => repeat (first | exact HR0.out | (with_reducible refine Kd.C_alloc ?_ _) | (with_reducible refine Kd.C_drewN ?_ _) | (with_reducible refine Kd.C_drew ?_))); (case side2 => exact HC0.out); rintro e w' ⟨rfl, ⟨nd, rfl⟩⟩; (try first | exact ⟨rfl, _, World.drewN_drewN _ _ _⟩ | exact ⟨rfl, _, Eq.trans (World.drewN_drewN _ _ _) (congrArg (World.drewN _) (Nat.add_assoc _ _ _))⟩))))
           go_meet
           case rel => exact ⟨_, (false), (by first | rfl | (simp; done) | (simp [*]; done)), H', ⟨by have := HJ5.out; first | omega | exact Nat.le_refl _⟩, by repeat (first | exact Drawn0.refl _ | apply Drawn0.step)⟩
         ·rw [if_neg c16] at H
          have c16b0 : decide ((wrap32 (rd l0 a1)) ≤ 239) = false := decide_eq_false c16;clear c16;have H' := Sdq.mk H;clear H;go_wp2
          repeat (go_quiet (fail); try go_wp2)
          go_meet
          case rel => exact ⟨_, (false), (by first | rfl | (simp; done) | (simp [*]; done)), H', ⟨by have := HJ5.out; first | omega | exact Nat.le_refl _⟩, by repeat (first | exact Drawn0.refl _ | apply Drawn0.step)⟩
        ·rw [if_neg c15] at H
         have c15b0 : decide (224 ≤ (wrap32 (rd l0 a1))) = false := decide_eq_false c15;clear c15
         (first | rw [c15b0] | (simp only [i64_w, i32_w]; rw [c15b0]) | skip)
         have H' := Sdq.mk H;clear H;go_wp2
         repeat (go_quiet (fail); try go_wp2)
         go_meet
         case rel => exact ⟨_, (false), (by first | rfl | (simp; done) | (simp [*]; done)), H', ⟨by have := HJ5.out; first | omega | exact Nat.le_refl _⟩, by repeat (first | exact Drawn0.refl _ | apply Drawn0.step)⟩
       case rest =>
        clear HC14
        try clear c1; try clear p1; try clear q1; try clear hx1; try clear p2; try clear c3; try clear c3b0; try clear p3; try clear c4; try clear c4b0; try clear c5; try clear c5b0; try clear p6; try clear c7; try clear c7b0; try clear c8; try clear c8b0; try clear c10; try clear p10; try clear q10; try clear hx10; try clear c12; try clear c12b0; try clear c13; try clear c13b0; try clear c15; try clear c15b0; try clear c16; try clear c16b0; try clear c18; try clear hx102_0; try clear hx104_0; try clear p1; try clear p102; try clear p104; try clear p2; try clear p3; try clear p6; try clear q1; try clear q102; try clear q104
        obtain ⟨kq, x42_13, rfl, HA, HJ13, ⟨mc13, rfl⟩⟩ := hcut
        cases kq with
        | zero => exact absurd HA.out (by simp [utf_letter.j1])
        | succ kj13 =>
         have H := HA.out;clear HA;simp only [utf_letter.j1] at H;by_cases c20 : x42_13 = true
         ·subst c20
          have H1 : (if 0 ≤ (wrap64 (a1 + 1)) then (if (wrap64 (a1 + 1)) < (l0.length : Int) then (if 0 ≤ (wrap64 (a1 + 2)) then (if (wrap64 (a1 + 2)) < (l0.length : Int) then (if (Go.bits .or .i32 (Go.bits .or .i32 (wrap32 ((Go.bits .and .i32 (wrap32 (rd l0 a1)) 15) * 4096)) (wrap32 ((wrap32 (Go.bits .and .u8 (rd l0 (wrap64 (a1 + 1))) 63)) * 64))) (wrap32 (Go.bits .and .u8 (rd l0 (wrap64 (a1 + 2))) 63))) ≥ 2048 then (if (Go.bits .or .i32 (Go.bits .or .i32 (wrap32 ((Go.bits .and .i32 (wrap32 (rd l0 a1)) 15) * 4096)) (wrap32 ((wrap32 (Go.bits .and .u8 (rd l0 (wrap64 (a1 + 1))) 63)) * 64))) (wrap32 (Go.bits .and .u8 (rd l0 (wrap64 (a1 + 2))) 63))) < 55296 then (some (Go.bits .or .i32 (Go.bits .or .i32 (wrap32 ((Go.bits .and .i32 (wrap32 (rd l0 a1)) 15) * 4096)) (wrap32 ((wrap32 (Go.bits .and .u8 (rd l0 (wrap64 (a1 + 1))) 63)) * 64))) (wrap32 (Go.bits .and .u8 (rd l0 (wrap64 (a1 + 2))) 63)), 3)) else (if (Go.bits .or .i32 (Go.bits .or .i32 (wrap32 ((Go.bits .and .i32 (wrap32 (rd l0 a1)) 15) * 4096)) (wrap32 ((wrap32 (Go.bits .and .u8 (rd l0 (wrap64 (a1 + 1))) 63)) * 64))) (wrap32 (Go.bits .and .u8 (rd l0 (wrap64 (a1 + 2))) 63))) > 57343 then (some (Go.bits .or .i32 (Go.bits .or .i32 (wrap32 ((Go.bits .and .i32 (wrap32 (rd l0 a1)) 15) * 4096)) (wrap32 ((wrap32 (Go.bits .and .u8 (rd l0 (wrap64 (a1 + 1))) 63)) * 64))) (wrap32 (Go.bits .and .u8 (rd l0 (wrap64 (a1 + 2))) 63)), 3)) else (some (0, 0)))) else (some (0, 0))) else (none)) else (none)) else (none)) else (none)) = some (r1, r2) := by rw [if_pos rfl] at H; exact H
          clear H;have H := H1;clear H1
          obtain ⟨ji21, hji21⟩ : ∃ j_ : Int, (wrap64 (a1 + 1)) = j_ := ⟨_, rfl⟩
          replace H : (if 0 ≤ (ji21) then (if (ji21) < (l0.length : Int) then (if 0 ≤ (wrap64 (a1 + 2)) then (if (wrap64 (a1 + 2)) < (l0.length : Int) then (if (Go.bits .or .i32 (Go.bits .or .i32 (wrap32 ((Go.bits .and .i32 (wrap32 (rd l0 a1)) 15) * 4096)) (wrap32 ((wrap32 (Go.bits .and .u8 (rd l0 (ji21)) 63)) * 64))) (wrap32 (Go.bits .and .u8 (rd l0 (wrap64 (a1 + 2))) 63))) ≥ 2048 then (if (Go.bits .or .i32 (Go.bits .or .i32 (wrap32 ((Go.bits .and .i32 (wrap32 (rd l0 a1)) 15) * 4096)) (wrap32 ((wrap32 (Go.bits .and .u8 (rd l0 (ji21)) 63)) * 64))) (wrap32 (Go.bits .and .u8 (rd l0 (wrap64 (a1 + 2))) 63))) < 55296 then (some (Go.bits .or .i32 (Go.bits .or .i32 (wrap32 ((Go.bits .and .i32 (wrap32 (rd l0 a1)) 15) * 4096)) (wrap32 ((wrap32 (Go.bits .and .u8 (rd l0 (ji21)) 63)) * 64))) (wrap32 (Go.bits .and .u8 (rd l0 (wrap64 (a1 + 2))) 63)), 3)) else (if (Go.bits .or .i32 (Go.bits .or .i32 (wrap32 ((Go.bits .and .i32 (wrap32 (rd l0 a1)) 15) * 4096)) (wrap32 ((wrap32 (Go.bits .and .u8 (rd l0 (ji21)) 63)) * 64))) (wrap32 (Go.bits .and .u8 (rd l0 (wrap64 (a1 + 2))) 63))) > 57343 then (some (Go.bits .or .i32 (Go.bits .or .i32 (wrap32 ((Go.bits .and .i32 (wrap32 (rd l0 a1)) 15) * 4096)) (wrap32 ((wrap32 (Go.bits .and .u8 (rd l0 (ji21)) 63)) * 64))) (wrap32 (Go.bits .and .u8 (rd l0 (wrap64 (a1 + 2))) 63)), 3)) else (some (0, 0)))) else (some (0, 0))) else (none)) else (none)) else (none)) else (none)) = some (r1, r2) := by first | (rw [hji21] at H; exact H) | (simp only [hji21] at H ⊢; exact H)
          have hji21w : (IntKind.i64.wrap (a1 + 1)) = ji21 := (i64_w _).trans hji21;by_cases c22 : 0 ≤ (ji21)
          ·rw [if_pos c22] at H
           have c22b0 : decide (0 ≤ (ji21)) = true := decide_eq_true c22;clear c22;by_cases c23 : (ji21) < (l0.length : Int)
           ·rw [if_pos c23] at H
            have c23b0 : decide ((ji21) < (l0.length : Int)) = true := decide_eq_true c23;clear c23
            obtain ⟨ji24, hji24⟩ : ∃ j_ : Int, (wrap64 (a1 + 2)) = j_ := ⟨_, rfl⟩
            replace H : (if 0 ≤ (ji24) then (if (ji24) < (l0.length : Int) then (if (Go.bits .or .i32 (Go.bits .or .i32 (wrap32 ((Go.bits .and .i32 (wrap32 (rd l0 a1)) 15) * 4096)) (wrap32 ((wrap32 (Go.bits .and .u8 (rd l0 (ji21)) 63)) * 64))) (wrap32 (Go.bits .and .u8 (rd l0 (ji24)) 63))) ≥ 2048 then (if (Go.bits .or .i32 (Go.bits .or .i32 (wrap32 ((Go.bits .and .i32 (wrap32 (rd l0 a1)) 15) * 4096)) (wrap32 ((wrap32 (Go.bits .and .u8 (rd l0 (ji21)) 63)) * 64))) (wrap32 (Go.bits .and .u8 (rd l0 (ji24)) 63))) < 55296 then (some (Go.bits .or .i32 (Go.bits .or .i32 (wrap32 ((Go.bits .and .i32 (wrap32 (rd l0 a1)) 15) * 4096)) (wrap32 ((wrap32 (Go.bits .and .u8 (rd l0 (ji21)) 63)) * 64))) (wrap32 (Go.bits .and .u8 (rd l0 (ji24)) 63)), 3)) else (if (Go.bits .or .i32 (Go.bits .or .i32 (wrap32 ((Go.bits .and .i32 (wrap32 (rd l0 a1)) 15) * 4096)) (wrap32 ((wrap32 (Go.bits .and .u8 (rd l0 (ji21)) 63)) * 64))) (wrap32 (Go.bits .and .u8 (rd l0 (ji24)) 63))) > 57343 then (some (Go.bits .or .i32 (Go.bits .or .i32 (wrap32 ((Go.bits .and .i32 (wrap32 (rd l0 a1)) 15) * 4096)) (wrap32 ((wrap32 (Go.bits .and .u8 (rd l0 (ji21)) 63)) * 64))) (wrap32 (Go.bits .and .u8 (rd l0 (ji24)) 63)), 3)) else (some (0, 0)))) else (some (0, 0))) else (none)) else (none)) = some (r1, r2) := by first | (rw [hji24] at H; exact H) | (simp only [hji24] at H ⊢; exact H)
            have hji24w : (IntKind.i64.wrap (a1 + 2)) = ji24 := (i64_w _).trans hji24;by_cases c25 : 0 ≤ (ji24)
            ·rw [if_pos c25] at H
             have c25b0 : decide (0 ≤ (ji24)) = true := decide_eq_true c25;clear c25;by_cases c26 : (ji24) < (l0.length : Int)
             ·rw [if_pos c26] at H
              have c26b0 : decide ((ji24) < (l0.length : Int)) = true := decide_eq_true c26;clear c26;by_cases c27 : (Go.bits .or .i32 (Go.bits .or .i32 (wrap32 ((Go.bits .and .i32 (wrap32 (rd l0 a1)) 15) * 4096)) (wrap32 ((wrap32 (Go.bits .and .u8 (rd l0 (ji21)) 63)) * 64))) (wrap32 (Go.bits .and .u8 (rd l0 (ji24)) 63))) ≥ 2048
              ·rw [if_pos c27] at H
               have c27b0 : decide (2048 ≤ (Go.bits .or .i32 (Go.bits .or .i32 (wrap32 ((Go.bits .and .i32 (wrap32 (rd l0 a1)) 15) * 4096)) (wrap32 ((wrap32 (Go.bits .and .u8 (rd l0 (ji21)) 63)) * 64))) (wrap32 (Go.bits .and .u8 (rd l0 (ji24)) 63)))) = true := decide_eq_true c27;clear c27;by_cases c28 : (Go.bits .or .i32 (Go.bits .or .i32 (wrap32 ((Go.bits .and .i32 (wrap32 (rd l0 a1)) 15) * 4096)) (wrap32 ((wrap32 (Go.bits .and .u8 (rd l0 (ji21)) 63)) * 64))) (wrap32 (Go.bits .and .u8 (rd l0 (ji24)) 63))) < 55296
               ·rw [if_pos c28] at H
                have c28b0 : decide ((Go.bits .or .i32 (Go.bits .or .i32 (wrap32 ((Go.bits .and .i32 (wrap32 (rd l0 a1)) 15) * 4096)) (wrap32 ((wrap32 (Go.bits .and .u8 (rd l0 (ji21)) 63)) * 64))) (wrap32 (Go.bits .and .u8 (rd l0 (ji24)) 63))) < 55296) = true := decide_eq_true c28;clear c28;simp only [Option.some.injEq, Prod.mk.injEq] at H;obtain ⟨rfl, rfl⟩ := H;have p107 : 0 ≤ ((ji21) : Int) := of_decide_eq_true (by assumption);have q107 : (ji21) < (l0.length : Int) := of_decide_eq_true (by assumption);obtain ⟨ad107, e107, hx107_0⟩ := Kd.at_int HR0.out (ji21) p107 q107
                obtain rfl : ad102 = ad107 := (by injection e107)
                replace p107 := eq_true p107;replace q107 := eq_true q107;have p108 : 0 ≤ ((ji24) : Int) := of_decide_eq_true (by assumption);have q108 : (ji24) < (l0.length : Int) := of_decide_eq_true (by assumption);obtain ⟨ad108, e108, hx108_0⟩ := Kd.at_int HR0.out (ji24) p108 q108
                obtain rfl : ad102 = ad108 := (by injection e108)
                replace p108 := eq_true p108;replace q108 := eq_true q108;go_wp2
                repeat (go_quiet (fail); try go_wp2)
                go_ret2
                exact ⟨by first | rfl | (simp; done) | (simp only [← hji21, ← hji24] <;> (first | rfl | simp)) | (simp [*]; done), by repeat (first | exact Drawn0.refl _ | apply Drawn0.step)⟩
               ·rw [if_neg c28] at H
                have c28b0 : decide ((Go.bits .or .i32 (Go.bits .or .i32 (wrap32 ((Go.bits .and .i32 (wrap32 (rd l0 a1)) 15) * 4096)) (wrap32 ((wrap32 (Go.bits .and .u8 (rd l0 (ji21)) 63)) * 64))) (wrap32 (Go.bits .and .u8 (rd l0 (ji24)) 63))) < 55296) = false := decide_eq_false c28;clear c28;by_cases c29 : (Go.bits .or .i32 (Go.bits .or .i32 (wrap32 ((Go.bits .and .i32 (wrap32 (rd l0 a1)) 15) * 4096)) (wrap32 ((wrap32 (Go.bits .and .u8 (rd l0 (ji21)) 63)) * 64))) (wrap32 (Go.bits .and .u8 (rd l0 (ji24)) 63))) > 57343
                ·rw [if_pos c29] at H
                 have c29b0 : decide (57343 < (Go.bits .or .i32 (Go.bits .or .i32 (wrap32 ((Go.bits .and .i32 (wrap32 (rd l0 a1)) 15) * 4096)) (wrap32 ((wrap32 (Go.bits .and .u8 (rd l0 (ji21)) 63)) * 64))) (wrap32 (Go.bits .and .u8 (rd l0 (ji24)) 63)))) = true := decide_eq_true c29;clear c29;simp only [Option.some.injEq, Prod.mk.injEq] at H;obtain ⟨rfl, rfl⟩ := H;have p107 : 0 ≤ ((ji21) : Int) := of_decide_eq_true (by assumption);have q107 : (ji21) < (l0.length : Int) := of_decide_eq_true (by assumption);obtain ⟨ad107, e107, hx107_0⟩ := Kd.at_int HR0.out (ji21) p107 q107
                 obtain rfl : ad102 = ad107 := (by injection e107)
                 replace p107 := eq_true p107;replace q107 := eq_true q107;have p108 : 0 ≤ ((ji24) : Int) := of_decide_eq_true (by assumption);have q108 : (ji24) < (l0.length : Int) := of_decide_eq_true (by assumption);obtain ⟨ad108, e108, hx108_0⟩ := Kd.at_int HR0.out (ji24) p108 q108
                 obtain rfl : ad102 = ad108 := (by injection e108)
                 replace p108 := eq_true p108;replace q108 := eq_true q108;go_wp2
                 repeat (go_quiet (fail); try go_wp2)
                 go_ret2
                 exact ⟨by first | rfl | (simp; done) | (simp only [← hji21, ← hji24] <;> (first | rfl | simp)) | (simp [*]; done), by repeat (first | exact Drawn0.refl _ | apply Drawn0.step)⟩
                ·rw [if_neg c29] at H
                 have c29b0 : decide (57343 < (Go.bits .or .i32 (Go.bits .or .i32 (wrap32 ((Go.bits .and .i32 (wrap32 (rd l0 a1)) 15) * 4096)) (wrap32 ((wrap32 (Go.bits .and .u8 (rd l0 (ji21)) 63)) * 64))) (wrap32 (Go.bits .and .u8 (rd l0 (ji24)) 63)))) = false := decide_eq_false c29;clear c29;simp only [Option.some.injEq, Prod.mk.injEq] at H;obtain ⟨rfl, rfl⟩ := H;have p107 : 0 ≤ ((ji21) : Int) := of_decide_eq_true (by assumption);have q107 : (ji21) < (l0.length : Int) := of_decide_eq_true (by assumption);obtain ⟨ad107, e107, hx107_0⟩ := Kd.at_int HR0.out (ji21) p107 q107
                 obtain rfl : ad102 = ad107 := (by injection e107)
                 replace p107 := eq_true p107;replace q107 := eq_true q107;have p108 : 0 ≤ ((ji24) : Int) := of_decide_eq_true (by assumption);have q108 : (ji24) < (l0.length : Int) := of_decide_eq_true (by assumption);obtain ⟨ad108, e108, hx108_0⟩ := Kd.at_int HR0.out (ji24) p108 q108
                 obtain rfl : ad102 = ad108 := (by injection e108)
                 replace p108 := eq_true p108;replace q108 := eq_true q108;go_wp2
                 repeat (go_quiet (fail); try go_wp2)
                 go_ret2
                 exact ⟨by first | rfl | (simp; done) | (simp only [← hji21, ← hji24] <;> (first | rfl | simp)) | (simp [*]; done), by repeat (first | exact Drawn0.refl _ | apply Drawn0.step)⟩
              ·rw [if_neg c27] at H
               have c27b0 : decide (2048 ≤ (Go.bits .or .i32 (Go.bits .or .i32 (wrap32 ((Go.bits .and .i32 (wrap32 (rd l0 a1)) 15) * 4096)) (wrap32 ((wrap32 (Go.bits .and .u8 (rd l0 (ji21)) 63)) * 64))) (wrap32 (Go.bits .and .u8 (rd l0 (ji24)) 63)))) = false := decide_eq_false c27;clear c27;simp only [Option.some.injEq, Prod.mk.injEq] at H;obtain ⟨rfl, rfl⟩ := H;have p107 : 0 ≤ ((ji21) : Int) := of_decide_eq_true (by assumption);have q107 : (ji21) < (l0.length : Int) := of_decide_eq_true (by assumption);obtain ⟨ad107, e107, hx107_0⟩ := Kd.at_int HR0.out (ji21) p107 q107
               obtain rfl : ad102 = ad107 := (by injection e107)
               replace p107 := eq_true p107;replace q107 := eq_true q107;have p108 : 0 ≤ ((ji24) : Int) := of_decide_eq_true (by assumption);have q108 : (ji24) < (l0.length : Int) := of_decide_eq_true (by assumption);obtain ⟨ad108, e108, hx108_0⟩ := Kd.at_int HR0.out (ji24) p108 q108
               obtain rfl : ad102 = ad108 := (by injection e108)
               replace p108 := eq_true p108;replace q108 := eq_true q108;go_wp2
               repeat (go_quiet (fail); try go_wp2)
               go_ret2
               exact ⟨by first | rfl | (simp; done) | (simp only [← hji21, ← hji24] <;> (first | rfl | simp)) | (simp [*]; done), by repeat (first | exact Drawn0.refl _ | apply Drawn0.step)⟩
             ·rw [if_neg c26] at H
              exact absurd H (by simp)
            ·rw [if_neg c25] at H
             exact absurd H (by simp)
           ·rw [if_neg c23] at H
            exact absurd H (by simp)
          ·rw [if_neg c22] at H
           exact absurd H (by simp)
         ·replace c20 := Bool.eq_false_iff.mpr c20
          subst c20
          have H1 : (if (wrap32 (rd l0 a1)) ≥ 240 then (if (wrap32 (rd l0 a1)) ≤ 244 then ((utf_more.f l0 (wrap64 (a1 + 1))).bind fun t109 => (if t109 = true then ((utf_more.f l0 (wrap64 (a1 + 2))).bind fun t110 => (if t110 = true then ((utf_more.f l0 (wrap64 (a1 + 3))).bind fun t111 => (utf_letter.j2 kj13 l0 a1 (wrap32 (rd l0 a1)) t111)) else (utf_letter.j2 kj13 l0 a1 (wrap32 (rd l0 a1)) false))) else (utf_letter.j2 kj13 l0 a1 (wrap32 (rd l0 a1)) false))) else (utf_letter.j2 kj13 l0 a1 (wrap32 (rd l0 a1)) false)) else (utf_letter.j2 kj13 l0 a1 (wrap32 (rd l0 a1)) false)) = some (r1, r2) := by rw [if_neg (show ¬ (false = true) by decide)] at H; exact H
          clear H;have H := H1;clear H1;have HC30 := Sdq.mk H;clear H
          go_upto_region 10 with (fail)
          repeat (go_quiet (fail); go_upto_region 10 with (fail))
          go_cut [92] (fun v92 wc => ∃ (kq : Nat) (x92_29 : Bool), v92 = .bool x92_29 ∧ Sdq (utf_letter.j2 kq l0 a1 (wrap32 (rd l0 a1)) x92_29 = some (r1, r2)) ∧ Sdq (kq ≤ kj13) ∧ Drawn0 w wc)
          case first =>
           have H := HC30.out;clear HC30;by_cases c31 : (wrap32 (rd l0 a1)) ≥ 240
           ·rw [if_pos c31] at H
            have c31b0 : decide (240 ≤ (wrap32 (rd l0 a1))) = true := decide_eq_true c31;clear c31
            (first | rw [c31b0] | (simp only [i64_w, i32_w]; rw [c31b0]) | skip)
            by_cases c32 : (wrap32 (rd l0 a1)) ≤ 244
            ·rw [if_pos c32] at H
             have c32b0 : decide ((wrap32 (rd l0 a1)) ≤ 244) = true := decide_eq_true c32;clear c32;replace H := Option.bind_eq_some_iff.mp H;obtain ⟨t109, A330, H⟩ := H;replace H : (if t109 = true then ((utf_more.f l0 (wrap64 (a1 + 2))).bind fun t110 => (if t110 = true then ((utf_more.f l0 (wrap64 (a1 + 3))).bind fun t111 => (utf_letter.j2 kj13 l0 a1 (wrap32 (rd l0 a1)) t111)) else (utf_letter.j2 kj13 l0 a1 (wrap32 (rd l0 a1)) false))) else (utf_letter.j2 kj13 l0 a1 (wrap32 (rd l0 a1)) false)) = some (r1, r2) := H;have A33 := Sdq.mk A330;clear A330;by_cases c34 : t109 = true
             ·subst c34
              have H1 : ((utf_more.f l0 (wrap64 (a1 + 2))).bind fun t110 => (if t110 = true then ((utf_more.f l0 (wrap64 (a1 + 3))).bind fun t111 => (utf_letter.j2 kj13 l0 a1 (wrap32 (rd l0 a1)) t111)) else (utf_letter.j2 kj13 l0 a1 (wrap32 (rd l0 a1)) false))) = some (r1, r2) := by rw [if_pos rfl] at H; exact H
              clear H;have H := H1;clear H1;replace H := Option.bind_eq_some_iff.mp H;obtain ⟨t110, A350, H⟩ := H;replace H : (if t110 = true then ((utf_more.f l0 (wrap64 (a1 + 3))).bind fun t111 => (utf_letter.j2 kj13 l0 a1 (wrap32 (rd l0 a1)) t111)) else (utf_letter.j2 kj13 l0 a1 (wrap32 (rd l0 a1)) false)) = some (r1, r2) := H;have A35 := Sdq.mk A350;clear A350;by_cases c36 : t110 = true
              ·subst c36
               have H1 : ((utf_more.f l0 (wrap64 (a1 + 3))).bind fun t111 => (utf_letter.j2 kj13 l0 a1 (wrap32 (rd l0 a1)) t111)) = some (r1, r2) := by rw [if_pos rfl] at H; exact H
               clear H;have H := H1;clear H1;replace H := Option.bind_eq_some_iff.mp H;obtain ⟨t111, A370, H⟩ := H;replace H : (utf_letter.j2 kj13 l0 a1 (wrap32 (rd l0 a1)) t111) = some (r1, r2) := H;have A37 := Sdq.mk A370;clear A370;have H' := Sdq.mk H;clear H;go_wp2_with (first | (go_at_call 96; (with_reducible refine (utf_more.calls _ _ l0 (wrap64 (a1 + 1)) true _ ?side1 ?side2 A33.out).mono ?_); (case side1 => repeat (first | exact HR0.out | (with_reducible refine Kd.C_alloc ?_ _) | (with_reducible refine Kd.C_drewN ?_ _) | (with_reducible refine Kd.C_drew ?_))); (case side2 => exact HC0.out); rintro e w' ⟨rfl, ⟨nd, rfl⟩⟩; (try first | exact ⟨rfl, _, World.drewN_drewN _ _ _⟩ | exact ⟨rfl, _, Eq.trans (World.drewN_drewN _ _ _) (congrArg (World.drewN _) (Nat.add_assoc _ _ _))⟩)) | (go_at_call 96; (with_reducible refine (utf_more.calls _ _ l0 (wrap64 (a1 + 2)) true _ ?side1 ?side2 A35.out).mono ?_); (case side1 => repeat (first | exact HR0.out | (with_reducible refine Kd.C_alloc ?_ _) | (with_reducible refine Kd.C_drewN ?_ _) | (with_reducible refine Kd.C_drew ?_))); (case side2 => exact HC0.out); rintro e w' ⟨rfl, ⟨nd, rfl⟩⟩; (try first | exact ⟨rfl, _, World.drewN_drewN _ _ _⟩ | exact ⟨rfl, _, Eq.trans (World.drewN_drewN _ _ _) (congrArg (World.drewN _) (Nat.add_assoc _ _ _))⟩)) | (go_at_call 96; (with_reducible refine (utf_more.calls _ _ l0 (wrap64 (a1 + 3)) t111 _ ?side1 ?side2 A37.out).mono ?_); (case side1 => repeat (first | exact HR0.out | (with_reducible refine Kd.C_alloc ?_ _) | (with_reducible refine Kd.C_drewN ?_ _) | (with_reducible refine Kd.C_drew ?_))); (case side2 => exact HC0.out); rintro e w' ⟨rfl, ⟨nd, rfl⟩⟩; (try first | exact ⟨rfl, _, World.drewN_drewN _ _ _⟩ | exact ⟨rfl, _, Eq.trans (World.drewN_drewN _ _ _) (congrArg (World.drewN _) (Nat.add_assoc _ _ _))⟩)))
               repeat (go_quiet (first | (go_at_call 96; (with_reducible refine (utf_more.calls _ _ l0 (wrap64 (a1 + 1)) true _ ?side1 ?side2 A33.out).mono ?_); (case side1 => repeat (first | exact HR0.out | (with_reducible refine Kd.C_alloc ?_ _) | (with_reducible refine Kd.C_drewN ?_ _) | (with_reducible refine Kd.C_drew ?_))); (case side2 => exact HC0.out); rintro e w' ⟨rfl, ⟨nd, rfl⟩⟩; (try first | exact ⟨rfl, _, World.drewN_drewN _ _ _⟩ | exact ⟨rfl, _, Eq.trans (World.drewN_drewN _ _ _) (congrArg (World.drewN _) (Nat.add_assoc _ _ _))⟩)) | (go_at_call 96; (with_reducible refine (utf_more.calls _ _ l0 (wrap64 (a1 + 2)) true _ ?side1 ?side2 A35.out).mono ?_); (case side1 => repeat (first | exact HR0.out | (with_reducible refine Kd.C_alloc ?_ _) | (with_reducible refine Kd.C_drewN ?_ _) | (with_reducible refine Kd.C_drew ?_))); (case side2 => exact HC0.out); rintro e w' ⟨rfl, ⟨nd, rfl⟩⟩; (try first | exact ⟨rfl, _, World.drewN_drewN _ _ _⟩ | exact ⟨rfl, _, Eq.trans (World.drewN_drewN _ _ _) (congrArg (World.drewN _) (Nat.add_assoc _ _ _))⟩)) | (go_at_call 96; (with_reducible refine (utf_more.calls _ _ l0 (wrap64 (a1 + 3)) t111 _ ?side1 ?side2 A37.out).mono ?_); (case side1 => repeat (first | exact HR0.out | (with_reducible refine Kd.C_alloc ?_ _) | (with_reducible refine Kd.C_drewN ?_ _) | (with_reducible refine Kd.C_drew ?_))); (case side2 => exact HC0.out); rintro e w' ⟨rfl, ⟨nd, rfl⟩⟩; (try first | exact ⟨rfl, _, World.drewN_drewN _ _ _⟩ | exact ⟨rfl, _, Eq.trans (World.drewN_drewN _ _ _) (congrArg (World.drewN _) (Nat.add_assoc _ _ _))⟩))); try go_wp2_with (first | (go_at_call 96; (with_reducible refine (utf_more.calls _ _ l0 (wrap64 (a1 + 1)) true _ ?side1 ?side2 A33.out).mono ?_); (case side1 => repeat (first | exact HR0.out | (with_reducible refine Kd.C_alloc ?_ _) | (with_reducible refine Kd.C_drewN ?_ _) | (with_reducible refine Kd.C_drew ?_))); (case side2 => exact HC0.out); rintro e w' ⟨rfl, ⟨nd, rfl⟩⟩; (try first | exact ⟨rfl, _, World.drewN_drewN _ _ _⟩ | exact ⟨rfl, _, Eq.trans (World.drewN_drewN _ _ _) (congrArg (World.drewN _) (Nat.add_assoc _ _ _))⟩)) | (go_at_call 96; (with_reducible refine (utf_more.calls _ _ l0 (wrap64 (a1 + 2)) true _ ?side1 ?side2 A35.out).mono ?_); (case side1 => repeat (first | exact HR0.out | (with_reducible refine Kd.C_alloc ?_ _) | (with_reducible refine Kd.C_drewN ?_ _) | (with_reducible refine Kd.C_drew ?_))); (case side2 => exact HC0.out); rintro e w' ⟨rfl, ⟨nd, rfl⟩⟩; (try first | exact ⟨rfl, _, World.drewN_drewN _ _ _⟩ | exact ⟨rfl, _, Eq.trans (World.drewN_drewN _ _ _) (congrArg (World.drewN _) (Nat.add_assoc _ _ _))⟩)) | (go_at_call 96; (with_reducible refine (utf_more.calls _ _ l0 (wrap64 (a1 + 3)) t111 _ ?side1 ?side2 A37.out).mono ?_); (case side1 => repeat (first | exact HR0.out | (with_reducible refine Kd.C_alloc ?_ _) | (with_reducible refine Kd.C_drewN ?_ _) | (with_reducible refine Kd.C_drew ?_))); (case side2 => exact HC0.out); rintro e w' ⟨rfl, ⟨nd, rfl⟩⟩; (try first | exact ⟨rfl, _, World.drewN_drewN _ _ _⟩ | exact ⟨rfl, _, Eq.trans (World.drewN_drewN _ _ _) (congrArg (World.drewN _) (Nat.add_assoc _ _ _))⟩))))
               go_meet
               case rel => exact ⟨_, (t111), (by first | rfl | (simp; done) | (simp [*]; done)), H', ⟨by have := HJ5.out; have := HJ13.out; first | omega | exact Nat.le_refl _⟩, by repeat (first | exact Drawn0.refl _ | apply Drawn0.step)⟩
              ·replace c36 := Bool.eq_false_iff.mpr c36
               subst c36
               have H1 : (utf_letter.j2 kj13 l0 a1 (wrap32 (rd l0 a1)) false) = some (r1, r2) := by rw [if_neg (show ¬ (false = true) by decide)] at H; exact H
               clear H;have H := H1;clear H1;have H' := Sdq.mk H;clear H;go_wp2_with (first | (go_at_call 96; (with_reducible refine (utf_more.calls _ _ l0 (wrap64 (a1 + 1)) true _ ?side1 ?side2 A33.out).mono ?_); (case side1 => repeat (first | exact HR0.out | (with_reducible refine Kd.C_alloc ?_ _) | (with_reducible refine Kd.C_drewN ?_ _) | (with_reducible refine Kd.C_drew ?_))); (case side2 => exact HC0.out); rintro e w' ⟨rfl, ⟨nd, rfl⟩⟩; (try first | exact ⟨rfl, _, World.drewN_drewN _ _ _⟩ | exact ⟨rfl, _, Eq.trans (World.drewN_drewN _ _ _) (congrArg (World.drewN _) (Nat.add_assoc _ _ _))⟩)) | (go_at_call 96; (with_reducible refine (utf_more.calls _ _ l0 (wrap64 (a1 + 2)) false _ ?side1 ?side2 A35.out).mono ?_); (case side1 => repeat (first | exact HR0.out | (with_reducible refine Kd.C_alloc ?_ _) | (with_reducible refine Kd.C_drewN ?_ _) | (with_reducible refine Kd.C_drew ?_))); (case side2 => exact HC0.out); rintro e w' ⟨rfl, ⟨nd, rfl⟩⟩; (try first | exact ⟨rfl, _, World.drewN_drewN _ _ _⟩ | exact ⟨rfl, _, Eq.trans (World.drewN_drewN _ _ _) (congrArg (World.drewN _) (Nat.add_assoc _ _ _))⟩)))
               repeat (go_quiet (first | (go_at_call 96; (with_reducible refine (utf_more.calls _ _ l0 (wrap64 (a1 + 1)) true _ ?side1 ?side2 A33.out).mono ?_); (case side1 => repeat (first | exact HR0.out | (with_reducible refine Kd.C_alloc ?_ _) | (with_reducible refine Kd.C_drewN ?_ _) | (with_reducible refine Kd.C_drew ?_))); (case side2 => exact HC0.out); rintro e w' ⟨rfl, ⟨nd, rfl⟩⟩; (try first | exact ⟨rfl, _, World.drewN_drewN _ _ _⟩ | exact ⟨rfl, _, Eq.trans (World.drewN_drewN _ _ _) (congrArg (World.drewN _) (Nat.add_assoc _ _ _))⟩)) | (go_at_call 96; (with_reducible refine (utf_more.calls _ _ l0 (wrap64 (a1 + 2)) false _ ?side1 ?side2 A35.out).mono ?_); (case side1 => repeat (first | exact HR0.out | (with_reducible refine Kd.C_alloc ?_ _) | (with_reducible refine Kd.C_drewN ?_ _) | (with_reducible refine Kd.C_drew ?_))); (case side2 => exact HC0.out); rintro e w' ⟨rfl, ⟨nd, rfl⟩⟩; (try first | exact ⟨rfl, _, World.drewN_drewN _ _ _⟩ | exact ⟨rfl, _, Eq.trans (World.drewN_drewN _ _ _) (congrArg (World.drewN _) (Nat.add_assoc _ _ _))⟩))); try go_wp2_with (first | (go_at_call 96; (with_reducible refine (utf_more.calls _ _ l0 (wrap64 (a1 + 1)) true _ ?side1 ?side2 A33.out).mono ?_); (case side1 => repeat (first | exact HR0.out | (with_reducible refine Kd.C_alloc ?_ _) | (with_reducible refine Kd.C_drewN ?_ _) | (with_reducible refine Kd.C_drew ?_))); (case side2 => exact HC0.out); rintro e w' ⟨rfl, ⟨nd, rfl⟩⟩; (try first | exact ⟨rfl, _, World.drewN_drewN _ _ _⟩ | exact ⟨rfl, _, Eq.trans (World.drewN_drewN _ _ _) (congrArg (World.drewN _) (Nat.add_assoc _ _ _))⟩)) | (go_at_call 96; (with_reducible refine (utf_more.calls _ _ l0 (wrap64 (a1 + 2)) false _ ?side1 ?side2 A35.out).mono ?_); (case side1 => repeat (first | exact HR0.out | (with_reducible refine Kd.C_alloc ?_ _) | (with_reducible refine Kd.C_drewN ?_ _) | (with_reducible refine Kd.C_drew ?_))); (case side2 => exact HC0.out); rintro e w' ⟨rfl, ⟨nd, rfl⟩⟩; (try first | exact ⟨rfl, _, World.drewN_drewN _ _ _⟩ | exact ⟨rfl, _, Eq.trans (World.drewN_drewN _ _ _) (congrArg (World.drewN _) (Nat.add_assoc _ _ _))⟩))))
               go_meet
               case rel => exact ⟨_, (false), (by first | rfl | (simp; done) | (simp [*]; done)), H', ⟨by have := HJ5.out; have := HJ13.out; first | omega | exact Nat.le_refl _⟩, by repeat (first | exact Drawn0.refl _ | apply Drawn0.step)⟩
             ·replace c34 := Bool.eq_false_iff.mpr c34
              subst c34
              have H1 : (utf_letter.j2 kj13 l0 a1 (wrap32 (rd l0 a1)) false) = some (r1, r2) := by rw [if_neg (show ¬ (false = true) by decide)] at H; exact H
              clear H;have H := H1;clear H1;have H' := Sdq.mk H;clear H;go_wp2_with (first | (go_at_call 96; (with_reducible refine (utf_more.calls _ _ l0 (wrap64 (a1 + 1)) false _ ?side1 ?side2 A33.out).mono ?_); (case side1 => repeat (first | exact HR0.out | (with_reducible refine Kd.C_alloc ?_ _) | (with_reducible refine Kd.C_drewN ?_ _) | (with_reducible refine Kd.C_drew ?_))); (case side2 => exact HC0.out); rintro e w' ⟨rfl, ⟨nd, rfl⟩⟩; (try first | exact ⟨rfl, _, World.drewN_drewN _ _ _⟩ | exact ⟨rfl, _, Eq.trans (World.drewN_drewN _ _ _) (congrArg (World.drewN _) (Nat.add_assoc _ _ _))⟩)))
              repeat (go_quiet (first | (go_at_call 96; (with_reducible refine (utf_more.calls _ _ l0 (wrap64 (a1 + 1)) false _ ?side1 ?side2 A33.out).mono ?_); (case side1 => repeat (first | exact HR0.out | (with_reducible refine Kd.C_alloc ?_ _) | (with_reducible refine Kd.C_drewN ?_ _) | (with_reducible refine Kd.C_drew ?_))); (case side2 => exact HC0.out); rintro e w' ⟨rfl, ⟨nd, rfl⟩⟩; (try first | exact ⟨rfl, _, World.drewN_drewN _ _ _⟩ | exact ⟨rfl, _, Eq.trans (World.drewN_drewN _ _ _) (congrArg (World.drewN _) (Nat.add_assoc _ _ _))⟩))); try go_wp2_with (first | (go_at_call 96; (with_reducible refine (utf_more.calls _ _ l0 (wrap64 (a1 + 1)) false _ ?side1 ?side2 A33.out).mono ?_); (case side1 => repeat (first | exact HR0.out | (with_reducible refine Kd.C_alloc ?_ _) | (with_reducible refine Kd.C_drewN ?_ _) | (with_reducible refine Kd.C_drew ?_))); (case side2 => exact HC0.out); rintro e w' ⟨rfl, ⟨nd, rfl⟩⟩; (try first | exact ⟨rfl, _, World.drewN_drewN _ _ _⟩ | exact ⟨rfl, _, Eq.trans (World.drewN_drewN _ _ _) (congrArg (World.drewN _) (Nat.add_assoc _ _ _))⟩))))
              go_meet
              case rel => exact ⟨_, (false), (by first | rfl | (simp; done) | (simp [*]; done)), H', ⟨by have := HJ5.out; have := HJ13.out; first | omega | exact Nat.le_refl _⟩, by repeat (first | exact Drawn0.refl _ | apply Drawn0.step)⟩
            ·rw [if_neg c32] at H
             have c32b0 : decide ((wrap32 (rd l0 a1)) ≤ 244) = false := decide_eq_false c32;clear c32;have H' := Sdq.mk H;clear H;go_wp2
             repeat (go_quiet (fail); try go_wp2)
             go_meet
             case rel => exact ⟨_, (false), (by first | rfl | (simp; done) | (simp [*]; done)), H', ⟨by have := HJ5.out; have := HJ13.out; first | omega | exact Nat.le_refl _⟩, by repeat (first | exact Drawn0.refl _ | apply Drawn0.step)⟩
           ·rw [if_neg c31] at H
            have c31b0 : decide (240 ≤ (wrap32 (rd l0 a1))) = false := decide_eq_false c31;clear c31
            (first | rw [c31b0] | (simp only [i64_w, i32_w]; rw [c31b0]) | skip)
            have H' := Sdq.mk H;clear H;go_wp2
            repeat (go_quiet (fail); try go_wp2)
            go_meet
            case rel => exact ⟨_, (false), (by first | rfl | (simp; done) | (simp [*]; done)), H', ⟨by have := HJ5.out; have := HJ13.out; first | omega | exact Nat.le_refl _⟩, by repeat (first | exact Drawn0.refl _ | apply Drawn0.step)⟩
          case rest =>
           clear HC30
           try clear c1; try clear p1; try clear q1; try clear hx1; try clear c2; try clear p2; try clear c3; try clear c3b0; try clear p3; try clear c4; try clear c4b0; try clear c5; try clear c5b0; try clear p6; try clear c7; try clear c7b0; try clear c8; try clear c8b0; try clear c10; try clear p10; try clear q10; try clear hx10; try clear c12; try clear c12b0; try clear c13; try clear c13b0; try clear c15; try clear c15b0; try clear c16; try clear c16b0; try clear c18; try clear c20; try clear c22; try clear c22b0; try clear c23; try clear c23b0; try clear c25; try clear c25b0; try clear c26; try clear c26b0; try clear c27; try clear c27b0; try clear c28; try clear c28b0; try clear c29; try clear c29b0; try clear c31; try clear c31b0; try clear c32; try clear c32b0; try clear p32; try clear c34; try clear c36; try clear hx102_0; try clear hx104_0; try clear hx107_0; try clear hx108_0; try clear p1; try clear p10; try clear p102; try clear p104; try clear p107; try clear p108; try clear p2; try clear p3; try clear p6; try clear q1; try clear q10; try clear q102; try clear q104; try clear q107; try clear q108
           obtain ⟨kq, x92_29, rfl, HA, HJ29, ⟨mc29, rfl⟩⟩ := hcut
           cases kq with
           | zero => exact absurd HA.out (by simp [utf_letter.j2])
           | succ kj29 =>
            have H := HA.out;clear HA;simp only [utf_letter.j2] at H;by_cases c38 : x92_29 = true
            ·subst c38
             have H1 : (if 0 ≤ (wrap64 (a1 + 1)) then (if (wrap64 (a1 + 1)) < (l0.length : Int) then (if 0 ≤ (wrap64 (a1 + 2)) then (if (wrap64 (a1 + 2)) < (l0.length : Int) then (if 0 ≤ (wrap64 (a1 + 3)) then (if (wrap64 (a1 + 3)) < (l0.length : Int) then (if (Go.bits .or .i32 (Go.bits .or .i32 (Go.bits .or .i32 (wrap32 ((Go.bits .and .i32 (wrap32 (rd l0 a1)) 7) * 262144)) (wrap32 ((wrap32 (Go.bits .and .u8 (rd l0 (wrap64 (a1 + 1))) 63)) * 4096))) (wrap32 ((wrap32 (Go.bits .and .u8 (rd l0 (wrap64 (a1 + 2))) 63)) * 64))) (wrap32 (Go.bits .and .u8 (rd l0 (wrap64 (a1 + 3))) 63))) ≥ 65536 then (if (Go.bits .or .i32 (Go.bits .or .i32 (Go.bits .or .i32 (wrap32 ((Go.bits .and .i32 (wrap32 (rd l0 a1)) 7) * 262144)) (wrap32 ((wrap32 (Go.bits .and .u8 (rd l0 (wrap64 (a1 + 1))) 63)) * 4096))) (wrap32 ((wrap32 (Go.bits .and .u8 (rd l0 (wrap64 (a1 + 2))) 63)) * 64))) (wrap32 (Go.bits .and .u8 (rd l0 (wrap64 (a1 + 3))) 63))) ≤ 1114111 then (some (Go.bits .or .i32 (Go.bits .or .i32 (Go.bits .or .i32 (wrap32 ((Go.bits .and .i32 (wrap32 (rd l0 a1)) 7) * 262144)) (wrap32 ((wrap32 (Go.bits .and .u8 (rd l0 (wrap64 (a1 + 1))) 63)) * 4096))) (wrap32 ((wrap32 (Go.bits .and .u8 (rd l0 (wrap64 (a1 + 2))) 63)) * 64))) (wrap32 (Go.bits .and .u8 (rd l0 (wrap64 (a1 + 3))) 63)), 4)) else (some (0, 0))) else (some (0, 0))) else (none)) else (none)) else (none)) else (none)) else (none)) else (none)) = some (r1, r2) := by rw [if_pos rfl] at H; exact H
             clear H;have H := H1;clear H1
             obtain ⟨ji39, hji39⟩ : ∃ j_ : Int, (wrap64 (a1 + 1)) = j_ := ⟨_, rfl⟩
             replace H : (if 0 ≤ (ji39) then (if (ji39) < (l0.length : Int) then (if 0 ≤ (wrap64 (a1 + 2)) then (if (wrap64 (a1 + 2)) < (l0.length : Int) then (if 0 ≤ (wrap64 (a1 + 3)) then (if (wrap64 (a1 + 3)) < (l0.length : Int) then (if (Go.bits .or .i32 (Go.bits .or .i32 (Go.bits .or .i32 (wrap32 ((Go.bits .and .i32 (wrap32 (rd l0 a1)) 7) * 262144)) (wrap32 ((wrap32 (Go.bits .and .u8 (rd l0 (ji39)) 63)) * 4096))) (wrap32 ((wrap32 (Go.bits .and .u8 (rd l0 (wrap64 (a1 + 2))) 63)) * 64))) (wrap32 (Go.bits .and .u8 (rd l0 (wrap64 (a1 + 3))) 63))) ≥ 65536 then (if (Go.bits .or .i32 (Go.bits .or .i32 (Go.bits .or .i32 (wrap32 ((Go.bits .and .i32 (wrap32 (rd l0 a1)) 7) * 262144)) (wrap32 ((wrap32 (Go.bits .and .u8 (rd l0 (ji39)) 63)) * 4096))) (wrap32 ((wrap32 (Go.bits .and .u8 (rd l0 (wrap64 (a1 + 2))) 63)) * 64))) (wrap32 (Go.bits .and .u8 (rd l0 (wrap64 (a1 + 3))) 63))) ≤ 1114111 then (some (Go.bits .or .i32 (Go.bits .or .i32 (Go.bits .or .i32 (wrap32 ((Go.bits .and .i32 (wrap32 (rd l0 a1)) 7) * 262144)) (wrap32 ((wrap32 (Go.bits .and .u8 (rd l0 (ji39)) 63)) * 4096))) (wrap32 ((wrap32 (Go.bits .and .u8 (rd l0 (wrap64 (a1 + 2))) 63)) * 64))) (wrap32 (Go.bits .and .u8 (rd l0 (wrap64 (a1 + 3))) 63)), 4)) else (some (0, 0))) else (some (0, 0))) else (none)) else (none)) else (none)) else (none)) else (none)) else (none)) = some (r1, r2) := by first | (rw [hji39] at H; exact H) | (simp only [hji39] at H ⊢; exact H)
             have hji39w : (IntKind.i64.wrap (a1 + 1)) = ji39 := (i64_w _).trans hji39;by_cases c40 : 0 ≤ (ji39)
             ·rw [if_pos c40] at H
              have c40b0 : decide (0 ≤ (ji39)) = true := decide_eq_true c40;clear c40;by_cases c41 : (ji39) < (l0.length : Int)
              ·rw [if_pos c41] at H
               have c41b0 : decide ((ji39) < (l0.length : Int)) = true := decide_eq_true c41;clear c41
               obtain ⟨ji42, hji42⟩ : ∃ j_ : Int, (wrap64 (a1 + 2)) = j_ := ⟨_, rfl⟩
               replace H : (if 0 ≤ (ji42) then (if (ji42) < (l0.length : Int) then (if 0 ≤ (wrap64 (a1 + 3)) then (if (wrap64 (a1 + 3)) < (l0.length : Int) then (if (Go.bits .or .i32 (Go.bits .or .i32 (Go.bits .or .i32 (wrap32 ((Go.bits .and .i32 (wrap32 (rd l0 a1)) 7) * 262144)) (wrap32 ((wrap32 (Go.bits .and .u8 (rd l0 (ji39)) 63)) * 4096))) (wrap32 ((wrap32 (Go.bits .and .u8 (rd l0 (ji42)) 63)) * 64))) (wrap32 (Go.bits .and .u8 (rd l0 (wrap64 (a1 + 3))) 63))) ≥ 65536 then (if (Go.bits .or .i32 (Go.bits .or .i32 (Go.bits .or .i32 (wrap32 ((Go.bits .and .i32 (wrap32 (rd l0 a1)) 7) * 262144)) (wrap32 ((wrap32 (Go.bits .and .u8 (rd l0 (ji39)) 63)) * 4096))) (wrap32 ((wrap32 (Go.bits .and .u8 (rd l0 (ji42)) 63)) * 64))) (wrap32 (Go.bits .and .u8 (rd l0 (wrap64 (a1 + 3))) 63))) ≤ 1114111 then (some (Go.bits .or .i32 (Go.bits .or .i32 (Go.bits .or .i32 (wrap32 ((Go.bits .and .i32 (wrap32 (rd l0 a1)) 7) * 262144)) (wrap32 ((wrap32 (Go.bits .and .u8 (rd l0 (ji39)) 63)) * 4096))) (wrap32 ((wrap32 (Go.bits .and .u8 (rd l0 (ji42)) 63)) * 64))) (wrap32 (Go.bits .and .u8 (rd l0 (wrap64 (a1 + 3))) 63)), 4)) else (some (0, 0))) else (some (0, 0))) else (none)) else (none)) else (none)) else (none)) = some (r1, r2) := by first | (rw [hji42] at H; exact H) | (simp only [hji42] at H ⊢; exact H)
               have hji42w : (IntKind.i64.wrap (a1 + 2)) = ji42 := (i64_w _).trans hji42;by_cases c43 : 0 ≤ (ji42)
               ·rw [if_pos c43] at H
                have c43b0 : decide (0 ≤ (ji42)) = true := decide_eq_true c43;clear c43;by_cases c44 : (ji42) < (l0.length : Int)
                ·rw [if_pos c44] at H
                 have c44b0 : decide ((ji42) < (l0.length : Int)) = true := decide_eq_true c44;clear c44
                 obtain ⟨ji45, hji45⟩ : ∃ j_ : Int, (wrap64 (a1 + 3)) = j_ := ⟨_, rfl⟩
                 replace H : (if 0 ≤ (ji45) then (if (ji45) < (l0.length : Int) then (if (Go.bits .or .i32 (Go.bits .or .i32 (Go.bits .or .i32 (wrap32 ((Go.bits .and .i32 (wrap32 (rd l0 a1)) 7) * 262144)) (wrap32 ((wrap32 (Go.bits .and .u8 (rd l0 (ji39)) 63)) * 4096))) (wrap32 ((wrap32 (Go.bits .and .u8 (rd l0 (ji42)) 63)) * 64))) (wrap32 (Go.bits .and .u8 (rd l0 (ji45)) 63))) ≥ 65536 then (if (Go.bits .or .i32 (Go.bits .or .i32 (Go.bits .or .i32 (wrap32 ((Go.bits .and .i32 (wrap32 (rd l0 a1)) 7) * 262144)) (wrap32 ((wrap32 (Go.bits .and .u8 (rd l0 (ji39)) 63)) * 4096))) (wrap32 ((wrap32 (Go.bits .and .u8 (rd l0 (ji42)) 63)) * 64))) (wrap32 (Go.bits .and .u8 (rd l0 (ji45)) 63))) ≤ 1114111 then (some (Go.bits .or .i32 (Go.bits .or .i32 (Go.bits .or .i32 (wrap32 ((Go.bits .and .i32 (wrap32 (rd l0 a1)) 7) * 262144)) (wrap32 ((wrap32 (Go.bits .and .u8 (rd l0 (ji39)) 63)) * 4096))) (wrap32 ((wrap32 (Go.bits .and .u8 (rd l0 (ji42)) 63)) * 64))) (wrap32 (Go.bits .and .u8 (rd l0 (ji45)) 63)), 4)) else (some (0, 0))) else (some (0, 0))) else (none)) else (none)) = some (r1, r2) := by first | (rw [hji45] at H; exact H) | (simp only [hji45] at H ⊢; exact H)
                 have hji45w : (IntKind.i64.wrap (a1 + 3)) = ji45 := (i64_w _).trans hji45;by_cases c46 : 0 ≤ (ji45)
                 ·rw [if_pos c46] at H
                  have c46b0 : decide (0 ≤ (ji45)) = true := decide_eq_true c46;clear c46;by_cases c47 : (ji45) < (l0.length : Int)
                  ·rw [if_pos c47] at H
                   have c47b0 : decide ((ji45) < (l0.length : Int)) = true := decide_eq_true c47;clear c47;by_cases c48 : (Go.bits .or .i32 (Go.bits .or .i32 (Go.bits .or .i32 (wrap32 ((Go.bits .and .i32 (wrap32 (rd l0 a1)) 7) * 262144)) (wrap32 ((wrap32 (Go.bits .and .u8 (rd l0 (ji39)) 63)) * 4096))) (wrap32 ((wrap32 (Go.bits .and .u8 (rd l0 (ji42)) 63)) * 64))) (wrap32 (Go.bits .and .u8 (rd l0 (ji45)) 63))) ≥ 65536
                   ·rw [if_pos c48] at H
                    have c48b0 : decide (65536 ≤ (Go.bits .or .i32 (Go.bits .or .i32 (Go.bits .or .i32 (wrap32 ((Go.bits .and .i32 (wrap32 (rd l0 a1)) 7) * 262144)) (wrap32 ((wrap32 (Go.bits .and .u8 (rd l0 (ji39)) 63)) * 4096))) (wrap32 ((wrap32 (Go.bits .and .u8 (rd l0 (ji42)) 63)) * 64))) (wrap32 (Go.bits .and .u8 (rd l0 (ji45)) 63)))) = true := decide_eq_true c48;clear c48;by_cases c49 : (Go.bits .or .i32 (Go.bits .or .i32 (Go.bits .or .i32 (wrap32 ((Go.bits .and .i32 (wrap32 (rd l0 a1)) 7) * 262144)) (wrap32 ((wrap32 (Go.bits .and .u8 (rd l0 (ji39)) 63)) * 4096))) (wrap32 ((wrap32 (Go.bits .and .u8 (rd l0 (ji42)) 63)) * 64))) (wrap32 (Go.bits .and .u8 (rd l0 (ji45)) 63))) ≤ 1114111
                    ·rw [if_pos c49] at H
                     have c49b0 : decide ((Go.bits .or .i32 (Go.bits .or .i32 (Go.bits .or .i32 (wrap32 ((Go.bits .and .i32 (wrap32 (rd l0 a1)) 7) * 262144)) (wrap32 ((wrap32 (Go.bits .and .u8 (rd l0 (ji39)) 63)) * 4096))) (wrap32 ((wrap32 (Go.bits .and .u8 (rd l0 (ji42)) 63)) * 64))) (wrap32 (Go.bits .and .u8 (rd l0 (ji45)) 63))) ≤ 1114111) = true := decide_eq_true c49;clear c49;simp only [Option.some.injEq, Prod.mk.injEq] at H;obtain ⟨rfl, rfl⟩ := H;have p112 : 0 ≤ ((ji39) : Int) := of_decide_eq_true (by assumption);have q112 : (ji39) < (l0.length : Int) := of_decide_eq_true (by assumption);obtain ⟨ad112, e112, hx112_0⟩ := Kd.at_int HR0.out (ji39) p112 q112
                     obtain rfl : ad102 = ad112 := (by injection e112)
                     replace p112 := eq_true p112;replace q112 := eq_true q112;have p113 : 0 ≤ ((ji42) : Int) := of_decide_eq_true (by assumption);have q113 : (ji42) < (l0.length : Int) := of_decide_eq_true (by assumption);obtain ⟨ad113, e113, hx113_0⟩ := Kd.at_int HR0.out (ji42) p113 q113
                     obtain rfl : ad102 = ad113 := (by injection e113)
                     replace p113 := eq_true p113;replace q113 := eq_true q113;have p114 : 0 ≤ ((ji45) : Int) := of_decide_eq_true (by assumption);have q114 : (ji45) < (l0.length : Int) := of_decide_eq_true (by assumption);obtain ⟨ad114, e114, hx114_0⟩ := Kd.at_int HR0.out (ji45) p114 q114
                     obtain rfl : ad102 = ad114 := (by injection e114)
                     replace p114 := eq_true p114;replace q114 := eq_true q114;go_wp2
                     repeat (go_quiet (fail); try go_wp2)
                     go_ret2
                     exact ⟨by first | rfl | (simp; done) | (simp only [← hji39, ← hji42, ← hji45] <;> (first | rfl | simp)) | (simp [*]; done), by repeat (first | exact Drawn0.refl _ | apply Drawn0.step)⟩
                    ·rw [if_neg c49] at H
                     have c49b0 : decide ((Go.bits .or .i32 (Go.bits .or .i32 (Go.bits .or .i32 (wrap32 ((Go.bits .and .i32 (wrap32 (rd l0 a1)) 7) * 262144)) (wrap32 ((wrap32 (Go.bits .and .u8 (rd l0 (ji39)) 63)) * 4096))) (wrap32 ((wrap32 (Go.bits .and .u8 (rd l0 (ji42)) 63)) * 64))) (wrap32 (Go.bits .and .u8 (rd l0 (ji45)) 63))) ≤ 1114111) = false := decide_eq_false c49;clear c49;simp only [Option.some.injEq, Prod.mk.injEq] at H;obtain ⟨rfl, rfl⟩ := H;have p112 : 0 ≤ ((ji39) : Int) := of_decide_eq_true (by assumption);have q112 : (ji39) < (l0.length : Int) := of_decide_eq_true (by assumption);obtain ⟨ad112, e112, hx112_0⟩ := Kd.at_int HR0.out (ji39) p112 q112
                     obtain rfl : ad102 = ad112 := (by injection e112)
                     replace p112 := eq_true p112;replace q112 := eq_true q112;have p113 : 0 ≤ ((ji42) : Int) := of_decide_eq_true (by assumption);have q113 : (ji42) < (l0.length : Int) := of_decide_eq_true (by assumption);obtain ⟨ad113, e113, hx113_0⟩ := Kd.at_int HR0.out (ji42) p113 q113
                     obtain rfl : ad102 = ad113 := (by injection e113)
                     replace p113 := eq_true p113;replace q113 := eq_true q113;have p114 : 0 ≤ ((ji45) : Int) := of_decide_eq_true (by assumption);have q114 : (ji45) < (l0.length : Int) := of_decide_eq_true (by assumption);obtain ⟨ad114, e114, hx114_0⟩ := Kd.at_int HR0.out (ji45) p114 q114
                     obtain rfl : ad102 = ad114 := (by injection e114)
                     replace p114 := eq_true p114;replace q114 := eq_true q114;go_wp2
                     repeat (go_quiet (fail); try go_wp2)
                     go_ret2
                     exact ⟨by first | rfl | (simp; done) | (simp only [← hji39, ← hji42, ← hji45] <;> (first | rfl | simp)) | (simp [*]; done), by repeat (first | exact Drawn0.refl _ | apply Drawn0.step)⟩
                   ·rw [if_neg c48] at H
                    have c48b0 : decide (65536 ≤ (Go.bits .or .i32 (Go.bits .or .i32 (Go.bits .or .i32 (wrap32 ((Go.bits .and .i32 (wrap32 (rd l0 a1)) 7) * 262144)) (wrap32 ((wrap32 (Go.bits .and .u8 (rd l0 (ji39)) 63)) * 4096))) (wrap32 ((wrap32 (Go.bits .and .u8 (rd l0 (ji42)) 63)) * 64))) (wrap32 (Go.bits .and .u8 (rd l0 (ji45)) 63)))) = false := decide_eq_false c48;clear c48;simp only [Option.some.injEq, Prod.mk.injEq] at H;obtain ⟨rfl, rfl⟩ := H;have p112 : 0 ≤ ((ji39) : Int) := of_decide_eq_true (by assumption);have q112 : (ji39) < (l0.length : Int) := of_decide_eq_true (by assumption);obtain ⟨ad112, e112, hx112_0⟩ := Kd.at_int HR0.out (ji39) p112 q112
                    obtain rfl : ad102 = ad112 := (by injection e112)
                    replace p112 := eq_true p112;replace q112 := eq_true q112;have p113 : 0 ≤ ((ji42) : Int) := of_decide_eq_true (by assumption);have q113 : (ji42) < (l0.length : Int) := of_decide_eq_true (by assumption);obtain ⟨ad113, e113, hx113_0⟩ := Kd.at_int HR0.out (ji42) p113 q113
                    obtain rfl : ad102 = ad113 := (by injection e113)
                    replace p113 := eq_true p113;replace q113 := eq_true q113;have p114 : 0 ≤ ((ji45) : Int) := of_decide_eq_true (by assumption);have q114 : (ji45) < (l0.length : Int) := of_decide_eq_true (by assumption);obtain ⟨ad114, e114, hx114_0⟩ := Kd.at_int HR0.out (ji45) p114 q114
                    obtain rfl : ad102 = ad114 := (by injection e114)
                    replace p114 := eq_true p114;replace q114 := eq_true q114;go_wp2
                    repeat (go_quiet (fail); try go_wp2)
                    go_ret2
                    exact ⟨by first | rfl | (simp; done) | (simp only [← hji39, ← hji42, ← hji45] <;> (first | rfl | simp)) | (simp [*]; done), by repeat (first | exact Drawn0.refl _ | apply Drawn0.step)⟩
                  ·rw [if_neg c47] at H
                   exact absurd H (by simp)
                 ·rw [if_neg c46] at H
                  exact absurd H (by simp)
                ·rw [if_neg c44] at H
                 exact absurd H (by simp)
               ·rw [if_neg c43] at H
                exact absurd H (by simp)
              ·rw [if_neg c41] at H
               exact absurd H (by simp)
             ·rw [if_neg c40] at H
              exact absurd H (by simp)
            ·replace c38 := Bool.eq_false_iff.mpr c38
             subst c38
             have H1 : (some (0, 0)) = some (r1, r2) := by rw [if_neg (show ¬ (false = true) by decide)] at H; exact H
             clear H;have H := H1;clear H1;simp only [Option.some.injEq, Prod.mk.injEq] at H;obtain ⟨rfl, rfl⟩ := H;go_wp2
             repeat (go_quiet (fail); try go_wp2)
             go_ret2
             exact ⟨by first | rfl | (simp; done) | (simp [*]; done), by repeat (first | exact Drawn0.refl _ | apply Drawn0.step)⟩
  ·rw [if_neg c4] at H
   exact absurd H (by simp)
 ·rw [if_neg c3] at H
  exact absurd H (by simp)
end Go.Proofs.YteighppcdpaekaaDoor.P
end
section
namespace Go.Proofs.YteighppcdpaekaaDoor.P
open Go.RowKit Go.Proofs.YteighppcdpaekaaDoorW.PrintWords Go.Proofs.YteighppcdpaekaaDoorW.PrintLast Go.Proofs.YteighppcdpaekaaDoorW.PrintMore
attribute [local go_sem] max2_int min2_int max_two min_two max_three min_three max_four min_four
set_option linter.unusedVariables false
set_option linter.unusedSimpArgs false
def utf_Valid.l0 : Nat → List Int → Int → Option (Int × Int)
 | 0, _, _ => none
 | k + 1, x0, x4 => if x4 < (x0.length : Int) then ((utf_letter.f k x0 x4).bind fun bt115 => (if bt115.2 = 0 then (some (x4, 10)) else (utf_Valid.l0 k x0 (wrap64 (x4 + bt115.2))))) else (some (0, 0))
def utf_Valid.f (k : Nat) (l0 : List Int) : Option (Int × Int) := utf_Valid.l0 k l0 0
set_option maxHeartbeats 8000000 in
set_option maxRecDepth 100000 in
theorem utf_Valid.calls (k : Nat) (A0 : Option Addr) (c0 : Nat) (l0 : List Int) (r1 : Int) (r2 : Int) (w : World) (hr0 : Kd.C (Kd.int .u8) w A0 l0.length l0) (hc0 : l0.length ≤ c0) (h : utf_Valid.f k l0 = some (r1, r2)) :
  Calls Tryd.prog 56 #[.slice A0 l0.length c0] w fun e w' => e = .returned (.tuple #[.int .i64 r1, .int .i64 r2]) ∧ Drawn0 w w' := by
 have HR0 := Sdq.mk hr0;have HC0 := Sdq.mk hc0;clear hr0 hc0;have H : (utf_Valid.l0 k l0 0) = some (r1, r2) := h;clear h;have H' := Sdq.mk H;clear H;go_enter Tryd.func56, Tryd.ntmps56;go_wp2
 go_loopg [4] k (fun kq v4 w' => ∃ (x4_1 : Int), v4 = .int .i64 x4_1 ∧ Sdq (utf_Valid.l0 kq l0 x4_1 = some (r1, r2)) ∧ Sdq (kq ≤ k) ∧ Drawn0 w w')
 case atStart => exact ⟨(0), (by first | rfl | (simp; done) | (simp [*]; done)), H', ⟨Nat.le_refl _⟩, by repeat (first | exact Drawn0.refl _ | apply Drawn0.step)⟩
 case round =>
  clear H';obtain ⟨x4_1, rfl, HA, HK1, ⟨m1, rfl⟩⟩ := hrel
  cases gk with
  | zero => exact absurd HA.out (by simp [utf_Valid.l0])
  | succ k1 =>
   have H := HA.out;clear HA;simp only [utf_Valid.l0] at H;by_cases c2 : x4_1 < (l0.length : Int)
   ·rw [if_pos c2] at H
    have c2b0 : decide (x4_1 < (l0.length : Int)) = true := decide_eq_true c2;clear c2;replace H := Option.bind_eq_some_iff.mp H;obtain ⟨⟨t115, t116⟩, A30, H⟩ := H;replace H : (if t116 = 0 then (some (x4_1, 10)) else (utf_Valid.l0 k1 l0 (wrap64 (x4_1 + t116)))) = some (r1, r2) := H;have A3 := Sdq.mk A30;clear A30;by_cases c4 : t116 = 0
    ·rw [if_pos c4] at H
     have c4b0 : (t116 == 0) = true := beq_iff_eq.mpr c4;have c4b1 : (t116 != 0) = false := bne_eq_false_iff_eq.mpr c4;clear c4;simp only [Option.some.injEq, Prod.mk.injEq] at H;obtain ⟨rfl, rfl⟩ := H;go_wp2_with (first | ((with_reducible refine gate_callee (f := 73) rfl ?_); refine goesL_ (some 14) rfl rfl Tryd.func73 (by kernel_rfl) rfl #[.slice A0 l0.length c0, .int .i64 x4_1] rfl (by (try simp only [List.map_toArray, List.map_cons, List.map_nil]); first | done | rfl | (simp only [List.length_drop, List.length_take]; rfl)) ?_; (with_reducible refine (utf_letter.calls k1 _ _ l0 x4_1 t115 t116 _ ?side1 ?side2 A3.out).mono ?_); (case side1 => repeat (first | exact HR0.out | (with_reducible refine Kd.C_alloc ?_ _) | (with_reducible refine Kd.C_drewN ?_ _) | (with_reducible refine Kd.C_drew ?_))); (case side2 => exact HC0.out); rintro e w' ⟨rfl, ⟨nd, rfl⟩⟩; refine ⟨_, rfl, ?_⟩))
     go_ret2
     exact ⟨by first | rfl | (simp; done) | (simp [*]; done), by repeat (first | exact Drawn0.refl _ | apply Drawn0.step)⟩
    ·rw [if_neg c4] at H
     have c4b0 : (t116 == 0) = false := beq_eq_false_iff_ne.mpr c4;have c4b1 : (t116 != 0) = true := bne_iff_ne.mpr c4;have H' := Sdq.mk H;clear H;go_wp2_with (first | ((with_reducible refine gate_callee (f := 73) rfl ?_); refine goesL_ (some 14) rfl rfl Tryd.func73 (by kernel_rfl) rfl #[.slice A0 l0.length c0, .int .i64 x4_1] rfl (by (try simp only [List.map_toArray, List.map_cons, List.map_nil]); first | done | rfl | (simp only [List.length_drop, List.length_take]; rfl)) ?_; (with_reducible refine (utf_letter.calls k1 _ _ l0 x4_1 t115 t116 _ ?side1 ?side2 A3.out).mono ?_); (case side1 => repeat (first | exact HR0.out | (with_reducible refine Kd.C_alloc ?_ _) | (with_reducible refine Kd.C_drewN ?_ _) | (with_reducible refine Kd.C_drew ?_))); (case side2 => exact HC0.out); rintro e w' ⟨rfl, ⟨nd, rfl⟩⟩; refine ⟨_, rfl, ?_⟩))
     go_roundg k1
     case measure => have := HK1.out; omega
     case rel => exact ⟨(wrap64 (x4_1 + t116)), (by first | rfl | (simp; done) | (simp [*]; done)), H', ⟨by have := HK1.out; omega⟩, by repeat (first | exact Drawn0.refl _ | apply Drawn0.step)⟩
   ·rw [if_neg c2] at H
    have c2b0 : decide (x4_1 < (l0.length : Int)) = false := decide_eq_false c2;clear c2;simp only [Option.some.injEq, Prod.mk.injEq] at H;obtain ⟨rfl, rfl⟩ := H;go_wp2
    go_ret2
    exact ⟨by first | rfl | (simp; done) | (simp [*]; done), by repeat (first | exact Drawn0.refl _ | apply Drawn0.step)⟩
end Go.Proofs.YteighppcdpaekaaDoor.P
end
section
namespace Go.Proofs.YteighppcdpaekaaDoor.Rd
open Go.RowKit Go.Proofs.YteighppcdpaekaaDoorW.PrintWords
open Go.Proofs.YteighppcdpaekaaDoor
def Bytes (b : List Int) : Prop := ∀ x ∈ b, 0 ≤ x ∧ x ≤ 255
theorem hex_or (n y : Int) (h0 : 0 ≤ n) (h1 : n < 4096) (h2 : 0 ≤ y) (h3 : y < 16) : bits .or .i32 (n * 16) y = n * 16 + y :=
 bits_join .i32 31 (by decide) wraps_i32 4 _ _ (by omega) (by omega) (by omega) h2 (by omega) (by omega)
set_option maxRecDepth 100000 in
set_option maxHeartbeats 1600000 in
theorem hex_calls {w0 : World} {g : Nat} {A : Option Addr} {c : Nat} {b : List Int} {w : World} {d : Int} {p : Nat} (hb : Bytes b) (h : RS w0 g A c b w p d) (hp : p ≤ b.length) :
    Calls Tryd.prog 120 #[.pointer (some ⟨g, 0, none⟩)] w (Post w0 g A c b w d (VInt .i32) (Js.hex b p)) := by
  have hsm := h.small;go_enter Tryd.func120, Tryd.ntmps120
  go_wp2_with fail
  go_loopg [3, 5] 4 (fun kq s3 s5 wc => ∃ (k : Nat) (n : Int), kq + k = 4 ∧ s5 = .int .i64 k ∧ s3 = .int .i32 n ∧ 0 ≤ n ∧ n < 16 ^ k ∧ p + k ≤ b.length ∧ Hid (Js.hex b p = Js.hexTo b kq n (p + k)) ∧ RS w0 g A c b wc ((p + k : Nat) : Int) d ∧ Kbt w wc g none)
  case atStart => exact ⟨0, 0, rfl, rfl, rfl, by omega, by decide, hp, rfl, h, Kbt.refl _ _ _⟩
  case round =>
    clear h;obtain ⟨k, n, hk, rfl, rfl, hn0, hn1, hpk, hw, hS, hK⟩ := hrel;by_cases hlt : k < 4
    · obtain ⟨k1, rfl⟩ : ∃ k1, gk = k1 + 1 := ⟨gk - 1, by omega⟩
      have h1 := hS.c1;have f1 := hS.fr 1
      cases hx : b[p + k]? with
      | none =>
        have hn : Hid (Js.hex b p = .no (p + k) 11) := by have := hw.out; show _ = _; rw [this]; simp [Js.hexTo, hx]
        have hp1 := peek_no hS hx;clear hx hw;go_wp2_with (go_at_call 74; refine hp1.mono ?_; rintro e w' ⟨rfl, m, rfl⟩);refine ⟨rfl, ?_⟩;rw [hn.out];exact ⟨rfl, pbdN hS.bel _, kdrN hK _⟩
      | some x =>
        have hxb := hb x (List.mem_of_getElem? hx);have hpl : p + k < b.length := (List.getElem?_eq_some_iff.1 hx).1;have hp1 := peek_ok hS hx
        have hw1 : Hid (Js.hex b p = match Js.hexDigit x with | none => .no (p + k) 6 | some d => Js.hexTo b k1 (n * 16 + d) (p + k + 1)) := by have := hw.out; show _ = _; rw [this]; simp only [Js.hexTo, hx]; rfl
        clear hx hw
        have hlim : n < 4096 := by
          have : (16 : Int) ^ k ≤ 4096 := by have : k = 0 ∨ k = 1 ∨ k = 2 ∨ k = 3 := by omega
                                             rcases this with rfl | rfl | rfl | rfl <;> decide
          omega
        by_cases e1 : 48 ≤ x ∧ x ≤ 57
        · have hn : Hid (Js.hex b p = Js.hexTo b k1 (n * 16 + (x - 48)) (p + k + 1)) := by have := hw1.out; rw [show Js.hexDigit x = some (x - 48) by simp only [Js.hexDigit]; rw [if_pos (by omega)]] at this; exact this
          clear hw1;obtain ⟨b1, b2⟩ := e1;go_wp2_with (go_at_call 74; refine hp1.mono ?_; rintro e w' ⟨rfl, m, rfl⟩)
          go_roundg k1
          case measure => omega
          case rel => exact ⟨k + 1, n * 16 + (x - 48), by omega, by go_num, by first | (rw [hex_or _ _ hn0 hlim (by omega) (by omega)]; done) | (rw [show x - 58 + 10 = x - 48 by omega, hex_or _ _ hn0 hlim (by omega) (by omega)]), by omega, by rw [Int.pow_succ]; omega, by omega, hn, (RS.to (p := ((p + k : Nat) : Int) + 1) (by repeat (first | exact hS | apply RS.drewN | apply RS.drew | apply RS.set1 | apply RS.set2)) (by omega) rfl), (by repeat (first | exact hK | apply Kbt.set_ | apply kdrN | apply keep_drew | apply kal))⟩
        by_cases e2 : 97 ≤ x ∧ x ≤ 102
        · clear e1
          have hn : Hid (Js.hex b p = Js.hexTo b k1 (n * 16 + (x - 87)) (p + k + 1)) := by have := hw1.out; rw [show Js.hexDigit x = some (x - 87) by simp only [Js.hexDigit]; rw [if_neg (by omega), if_pos (by omega)]] at this; exact this
          clear hw1;obtain ⟨b1, b2⟩ := e2;go_wp2_with (go_at_call 74; refine hp1.mono ?_; rintro e w' ⟨rfl, m, rfl⟩)
          go_roundg k1
          case measure => omega
          case rel => exact ⟨k + 1, n * 16 + (x - 87), by omega, by go_num, by first | (rw [hex_or _ _ hn0 hlim (by omega) (by omega)]; done) | (rw [show x - 97 + 10 = x - 87 by omega, hex_or _ _ hn0 hlim (by omega) (by omega)]), by omega, by rw [Int.pow_succ]; omega, by omega, hn, (RS.to (p := ((p + k : Nat) : Int) + 1) (by repeat (first | exact hS | apply RS.drewN | apply RS.drew | apply RS.set1 | apply RS.set2)) (by omega) rfl), (by repeat (first | exact hK | apply Kbt.set_ | apply kdrN | apply keep_drew | apply kal))⟩
        by_cases e3 : 65 ≤ x ∧ x ≤ 70
        · clear e1 e2
          have hn : Hid (Js.hex b p = Js.hexTo b k1 (n * 16 + (x - 55)) (p + k + 1)) := by have := hw1.out; rw [show Js.hexDigit x = some (x - 55) by simp only [Js.hexDigit]; rw [if_neg (by omega), if_neg (by omega), if_pos (by omega)]] at this; exact this
          clear hw1;obtain ⟨b1, b2⟩ := e3;go_wp2_with (go_at_call 74; refine hp1.mono ?_; rintro e w' ⟨rfl, m, rfl⟩)
          go_roundg k1
          case measure => omega
          case rel => exact ⟨k + 1, n * 16 + (x - 55), by omega, by go_num, by first | (rw [hex_or _ _ hn0 hlim (by omega) (by omega)]; done) | (rw [show x - 65 + 10 = x - 55 by omega, hex_or _ _ hn0 hlim (by omega) (by omega)]), by omega, by rw [Int.pow_succ]; omega, by omega, hn, (RS.to (p := ((p + k : Nat) : Int) + 1) (by repeat (first | exact hS | apply RS.drewN | apply RS.drew | apply RS.set1 | apply RS.set2)) (by omega) rfl), (by repeat (first | exact hK | apply Kbt.set_ | apply kdrN | apply keep_drew | apply kal))⟩
        have hn : Hid (Js.hex b p = .no (p + k) 6) := by have := hw1.out; rw [show Js.hexDigit x = none by simp only [Js.hexDigit]; rw [if_neg (by omega), if_neg (by omega), if_neg (by omega)]] at this; exact this
        have e4 : x < 48 ∨ (57 < x ∧ x < 65) ∨ (70 < x ∧ x < 97) ∨ 102 < x := by omega
        clear hw1 e1 e2 e3
        rcases e4 with b1 | ⟨b1, b2⟩ | ⟨b1, b2⟩ | b1
        all_goals
          go_wp2_with (first | (go_at_call 74; refine hp1.mono ?_; rintro e w' ⟨rfl, m, rfl⟩) | (go_at_call 60; refine (fail_calls 6 (hS.drewN _)).mono ?_; rintro e w' ⟨rfl, rfl⟩));refine ⟨rfl, ?_⟩;rw [hn.out];exact ⟨rfl, pbdN hS.bel _, kdrN hK _⟩
    · obtain rfl : k = 4 := by omega
      obtain rfl : gk = 0 := by omega
      have hn : Hid (Js.hex b p = .ok n (p + 4)) := hw.out;clear hw;go_wp2;go_ret;rw [hn.out];exact ⟨_, rfl, rfl, hS, hK⟩
end Go.Proofs.YteighppcdpaekaaDoor.Rd
end
section
namespace Go.Proofs.YteighppcdpaekaaDoor.Rd
open Go.RowKit Go.Proofs.YteighppcdpaekaaDoorW.PrintWords
open Go.Proofs.YteighppcdpaekaaDoor
theorem C_lit (w : World) (l : List Int) (t : TypeId) (hl : l.length ≤ 1000) : Kd.C (Kd.int .u8) (w.alloc (.cells (l.map (Value.int .u8)).toArray t)) (some ⟨w.heap.size, 0, none⟩) l.length l := by
 refine ⟨rfl, by omega, fun _ => ⟨_, rfl, fun j x hj => ⟨[.int .u8 x], rfl, rfl, fun i u hu => ?_⟩⟩⟩;have hjl := (List.getElem?_eq_some_iff.1 hj).1
 have hi : i = 0 := by
  rcases i with _ | i
  ·rfl
  ·simp at hu
 subst hi
 simp at hu
 subst hu;have hb := blk_new w (.cells (l.map (Value.int .u8)).toArray t)
 have ha : (⟨w.heap.size, 0, none⟩ : Addr).add (j * (Kd.int .u8).sz + 0) = ⟨w.heap.size, j, none⟩ := by
  show (⟨w.heap.size, 0, none⟩ : Addr).add (j * 1 + 0) = _
  rw [Nat.mul_one, Nat.add_zero];unfold Addr.add
  split
  ·rename_i h0; rw [h0]
  ·simp
 rw [ha];refine (bceq hb j).trans ?_
 simp [hj]
def VBytes (w : World) (l : List Int) (u : Value) : Prop := ∃ (A : Option Addr) (n c : Nat), u = .slice A n c ∧ n = l.length ∧ n ≤ c ∧ n ≤ 1000 ∧ Kd.C (Kd.int .u8) w A n l
theorem and63 (r : Int) (h0 : 0 ≤ r) (h1 : r < 2147483648) : bits .and .i32 r 63 = r % 64 := bits_mask .i32 31 (by decide) wraps_i32 6 (by decide) r h0 (by omega)
set_option maxRecDepth 100000 in
set_option maxHeartbeats 1600000 in
theorem encode_some {r : Int} {l : List Int} {w : World} (he : Js.encode r = some l) :
  Calls Tryd.prog 121 #[.int .i32 r] w fun e w' => ∃ u, e = .returned (.tuple #[u, .int .i64 0]) ∧ VBytes w' l u ∧ Below w.heap.size w w' := by
 unfold Js.encode at he
 split at he
 ·cases he
 rename_i hno
 have h0 : 0 ≤ r := by omega
 have h1 : r ≤ 1114111 := by omega
 have hsur : r < 55296 ∨ 57343 < r := by omega
 clear hno
 have g192 : r < 2048 → bits .or .u8 192 (r / 64 % 256) = 192 + r / 64 := fun h => by rw [u8_or192 _ (by omega) (by omega)]; omega
 have g224 : r < 65536 → bits .or .u8 224 (r / 4096 % 256) = 224 + r / 4096 := fun h => by rw [u8_or224 _ (by omega) (by omega)]; omega
 have g240 : bits .or .u8 240 (r / 262144 % 256) = 240 + r / 262144 := by rw [u8_or240 _ (by omega) (by omega)]; omega
 have g1 : bits .or .u8 128 (bits .and .i32 r 63 % 256) = 128 + r % 64 := by rw [and63 r h0 (by omega), u8_or128 _ (by omega) (by omega)]; omega
 have g2 : bits .or .u8 128 (bits .and .i32 (r / 64) 63 % 256) = 128 + r / 64 % 64 := by rw [and63 _ (by omega) (by omega), u8_or128 _ (by omega) (by omega)]; omega
 have g3 : bits .or .u8 128 (bits .and .i32 (r / 4096) 63 % 256) = 128 + r / 4096 % 64 := by rw [and63 _ (by omega) (by omega), u8_or128 _ (by omega) (by omega)]; omega
 have G := Lib.hid (And.intro g192 (And.intro g224 (And.intro g240 (And.intro g1 (And.intro g2 g3)))));clear g192 g224 g240 g1 g2 g3;have hL := Lib.hid (fun (l : List Int) (hl : l.length ≤ 1000) => C_lit w l 5 hl)
 have hmod : Hid (r < 128 → r % 256 = r) := fun h => by omega
 have fin : Hid (∀ (cs : Array Value) (n : Nat) (l' : List Int) (w' : World), l' = l → w' = w.alloc (.cells cs 5) → n = l'.length → l'.length ≤ 1000 → cs = (l'.map (Value.int .u8)).toArray → ∃ u, (Ending.returned (.tuple #[.slice (some ⟨w.heap.size, 0, none⟩) n n, .int .i64 0]) : Ending) = .returned (.tuple #[u, .int .i64 0]) ∧ VBytes w' l u ∧ Below w.heap.size w w') := by
  rintro cs n l' w' rfl rfl rfl hl rfl;exact ⟨_, rfl, ⟨_, _, _, rfl, rfl, Nat.le_refl _, hl, hL.out l' hl⟩, (Below.refl _ _).alloc (Nat.le_refl _) _⟩
 split at he
 ·obtain rfl := Option.some.inj he
  clear he
  rcases hsur with h2 | h2
  ·go_enter Tryd.func121, Tryd.ntmps121
   go_wp2
   go_ret2
   exact fin.out _ _ _ _ rfl rfl rfl (by simp) rfl
  ·exfalso; omega
 split at he
 ·rename_i hA hB
  have hl := Option.some.inj he;have hl' := Lib.hid hl;clear he hl
  rcases hsur with h2 | h2
  ·go_enter Tryd.func121, Tryd.ntmps121
   go_wp2
   go_ret2
   obtain ⟨g192, -, -, g1, -, -⟩ := G.out
   (try rw [g192 hB]); (try rw [g1])
   exact fin.out _ _ _ _ hl'.out rfl rfl (by simp) rfl
  ·exfalso; omega
 split at he
 ·rename_i hA hB hC
  have hl := Option.some.inj he;have hl' := Lib.hid hl;clear he hl
  rcases hsur with h2 | h2
  all_goals
   go_enter Tryd.func121, Tryd.ntmps121;go_wp2
   go_ret2
   obtain ⟨-, g224, -, g1, g2, -⟩ := G.out
   (try rw [g224 hC]); (try rw [g1]); (try rw [g2])
   exact fin.out _ _ _ _ hl'.out rfl rfl (by simp) rfl
 ·rename_i hA hB hC
  have hl := Option.some.inj he;have hl' := Lib.hid hl;clear he hl
  rcases hsur with h2 | h2
  ·exfalso; omega
  ·go_enter Tryd.func121, Tryd.ntmps121
   go_wp2
   go_ret2
   obtain ⟨-, -, g240, g1, g2, g3⟩ := G.out
   (try rw [g240]); (try rw [g1]); (try rw [g2]); (try rw [g3])
   exact fin.out _ _ _ _ hl'.out rfl rfl (by simp) rfl
set_option maxRecDepth 100000 in
set_option maxHeartbeats 1600000 in
theorem encode_none {r : Int} {w : World} (he : Js.encode r = none) :
  Calls Tryd.prog 121 #[.int .i32 r] w fun e w' => e = .returned (.tuple #[.slice none 0 0, .int .i64 10]) ∧ w' = w := by
 unfold Js.encode at he
 split at he
 ·rename_i hno
  have h2 : r < 0 ∨ (0 ≤ r ∧ 1114111 < r) ∨ (0 ≤ r ∧ r ≤ 1114111 ∧ 55296 ≤ r ∧ r ≤ 57343) := by omega
  clear hno he
  rcases h2 with h2 | ⟨h2, h3⟩ | ⟨h2, h3, h4, h5⟩
  all_goals
   go_enter Tryd.func121, Tryd.ntmps121;go_wp2
   go_ret2
   exact ⟨rfl, rfl⟩
 ·exfalso
  split at he
  ·cases he
  split at he
  ·cases he
  split at he <;> cases he
end Go.Proofs.YteighppcdpaekaaDoor.Rd
end
section
namespace Go.Proofs.YteighppcdpaekaaDoor.Rd
open Go.RowKit Go.Proofs.YteighppcdpaekaaDoorW.PrintWords
open Go.Proofs.YteighppcdpaekaaDoor
section
variable {w0 : World} {g : Nat} {A : Option Addr} {c : Nat} {b : List Int} {W W1 : World} {p d : Int}
theorem RS.below (h : RS w0 g A c b W p d) (hb : Below W.heap.size W W1) : RS w0 g A c b W1 p d :=
 ⟨blk_below h.blk hb, h.ge, h.read, h.bel.trans (hb.mono (Nat.le_trans h.ge (Nat.le_of_lt h.lt))), h.small⟩
theorem keep_below {w : World} (h : Kbt w W g none) (hb : Below W.heap.size W W1) : Kbt w W1 g none := h.trans (Kbt.of_below hb g none) (.inl rfl)
end
set_option maxRecDepth 100000 in
set_option maxHeartbeats 3200000 in
theorem unit_calls {w0 : World} {g : Nat} {A : Option Addr} {c : Nat} {b : List Int} {w : World} {d : Int} {p : Nat} (hb : Bytes b) (h : RS w0 g A c b w p d) (hp2 : 2 ≤ p) (hp : p ≤ b.length) :
  Calls Tryd.prog 112 #[.pointer (some ⟨g, 0, none⟩)] w (Post w0 g A c b w d VBytes (Js.unit b p)) := by
 have hsm := h.small;have h1 := h.c1;have hx1 := hex_calls hb h hp
 have hpc : ((p - 2 : Nat) : Int) = (p : Int) - 2 := by omega
 have hpc' := Lib.hid hpc;clear hpc
 cases he : Js.hex b p with
 | no x k =>
  rw [he] at hx1
  have hn : Hid (Js.unit b p = .no x k) := by show _ = _; simp [Js.unit, he]
  clear he;go_enter Tryd.func112, Tryd.ntmps112;go_wp2_with (go_at_call 120; refine hx1.mono ?_; rintro e w' ⟨rfl, hB, hK⟩);refine ⟨rfl, ?_⟩;rw [hn.out];exact ⟨rfl, hB, hK⟩
 | ok n q =>
  rw [he] at hx1;by_cases hs : 55296 ≤ n ∧ n ≤ 56319
  ·obtain ⟨hs1, hs2⟩ := hs
   have hn0 : Js.unit b p = if Js.next b q 92 then (match b[q + 1]? with
     | none => .no (q + 1) 11
     | some c => if c == 117 then (match Js.hex b (q + 2) with
       | .no x e => .no x e
       | .ok low q => if low < 0xDC00 ∨ low > 0xDFFF then .no (p - 2) 6 else (match Js.encode (0x10000 + (n - 0xD800) * 1024 + low - 0xDC00) with | some l => .ok l q | none => .no (p - 2) 6))
      else .no (p - 2) 6) else .no (p - 2) 6 := by simp only [Js.unit, he]; rw [if_pos ⟨hs1, hs2⟩]; rfl
   clear he
   cases hq : Js.next b q 92 with
   | false =>
    have hn : Hid (Js.unit b p = .no (p - 2) 6) := by show _ = _; rw [hn0, hq]; rfl
    clear hn0;go_enter Tryd.func112, Tryd.ntmps112;go_wp2_with (go_at_call 120; refine hx1.mono ?_; rintro e w' ⟨u, rfl, rfl, hS, hK⟩; have g1 := hS.c1; have f1 := hS.fr 1);have hnx := next_calls q 92 hS;rw [hq] at hnx;clear hq;go_wp2_with (go_at_call 100; refine hnx.mono ?_; rintro e w' ⟨rfl, m, rfl⟩);refine (fail_calls 6 (RS.set1 (hS.drewN m) _)).mono ?_;rintro e w2 ⟨rfl, rfl⟩;refine ⟨rfl, ?_⟩;rw [hn.out];exact ⟨by rw [hpc'.out]; rfl, (RS.set1 (hS.drewN m) _).bel, (kdrN hK _).set_ _ _⟩
   | true =>
    have hql := Js.next_lt hq;rw [hq, if_pos rfl] at hn0
    cases hc : b[q + 1]? with
    | none =>
     have hn : Hid (Js.unit b p = .no (q + 1) 11) := by show _ = _; rw [hn0, hc]
     clear hn0;go_enter Tryd.func112, Tryd.ntmps112;go_wp2_with (go_at_call 120; refine hx1.mono ?_; rintro e w' ⟨u, rfl, rfl, hS, hK⟩; have g1 := hS.c1; have f1 := hS.fr 1);have hnx := next_calls q 92 hS;rw [hq] at hnx
     have hS2 := fun m => RS.to ((hS.drewN m).set1 ((q : Int) + 1)) (show (q : Int) + 1 = ((q + 1 : Nat) : Int) by omega) rfl
     have hpk := fun m => peek_no (hS2 m) hc
     clear hq hc;go_wp2_with (go_at_call 100; refine hnx.mono ?_; rintro e w' ⟨rfl, m, rfl⟩);refine (hpk m).mono ?_;rintro e w2 ⟨rfl, m2, rfl⟩;refine ⟨rfl, ?_⟩;rw [hn.out];exact ⟨rfl, ((hS2 m).drewN _).bel, kdrN ((kdrN hK _).set_ _ _) _⟩
    | some cc =>
     have hcl : q + 1 < b.length := (List.getElem?_eq_some_iff.1 hc).1;rw [hc] at hn0;simp only at hn0;by_cases hcu : cc = 117
     ·rw [if_pos (by simpa using hcu)] at hn0
      cases he2 : Js.hex b (q + 2) with
      | no x k =>
       have hn : Hid (Js.unit b p = .no x k) := by show _ = _; rw [hn0, he2]
       have hcu' : (cc != 117) = false := by simpa using hcu
       clear hn0 hcu;go_enter Tryd.func112, Tryd.ntmps112;go_wp2_with (go_at_call 120; refine hx1.mono ?_; rintro e w' ⟨u, rfl, rfl, hS, hK⟩; have g1 := hS.c1; have f1 := hS.fr 1);have hnx := next_calls q 92 hS;rw [hq] at hnx
       have hS2 := fun m => RS.to ((hS.drewN m).set1 ((q : Int) + 1)) (show (q : Int) + 1 = ((q + 1 : Nat) : Int) by omega) rfl
       have hpk := fun m => peek_ok (hS2 m) hc
       have hS3 := fun m m2 => RS.to (((hS2 m).drewN m2).set1 ((q : Int) + 1 + 1)) (show (q : Int) + 1 + 1 = ((q + 2 : Nat) : Int) by omega) rfl
       have hx2 := fun m m2 => hex_calls hb (hS3 m m2) (by omega)
       rw [he2] at hx2;clear hq hc he2;go_wp2_with (go_at_call 100; refine hnx.mono ?_; rintro e w' ⟨rfl, m, rfl⟩);refine (hpk m).mono ?_;rintro e w2 ⟨rfl, m2, rfl⟩
       go_wp2_with fail
       refine (hx2 m m2).mono ?_;rintro e w2 ⟨rfl, hB, hK2⟩;refine ⟨rfl, ?_⟩;rw [hn.out];exact ⟨rfl, hB, ((kdrN ((kdrN hK _).set_ _ _) _).set_ _ _).trans hK2 (.inl rfl)⟩
      | ok low q2 =>
       rw [he2] at hn0;simp only at hn0
       have hcu' : (cc != 117) = false := by simpa using hcu
       clear hcu;by_cases hlow : low < 56320 ∨ low > 57343
       ·rw [if_pos hlow] at hn0
        have hn := Lib.hid hn0;clear hn0
        have hlow' : low < 56320 ∨ 56320 ≤ low ∧ 57343 < low := by omega
        clear hlow
        rcases hlow' with hl | ⟨hl, hl'⟩
        all_goals
         go_enter Tryd.func112, Tryd.ntmps112;go_wp2_with (go_at_call 120; refine hx1.mono ?_; rintro e w' ⟨u, rfl, rfl, hS, hK⟩; have g1 := hS.c1; have f1 := hS.fr 1);have hnx := next_calls q 92 hS;rw [hq] at hnx
         have hS2 := fun m => RS.to ((hS.drewN m).set1 ((q : Int) + 1)) (show (q : Int) + 1 = ((q + 1 : Nat) : Int) by omega) rfl
         have hpk := fun m => peek_ok (hS2 m) hc
         have hS3 := fun m m2 => RS.to (((hS2 m).drewN m2).set1 ((q : Int) + 1 + 1)) (show (q : Int) + 1 + 1 = ((q + 2 : Nat) : Int) by omega) rfl
         have hx2 := fun m m2 => hex_calls hb (hS3 m m2) (by omega)
         rw [he2] at hx2;clear hq hc he2;go_wp2_with (go_at_call 100; refine hnx.mono ?_; rintro e w' ⟨rfl, m, rfl⟩);refine (hpk m).mono ?_;rintro e w2 ⟨rfl, m2, rfl⟩
         go_wp2_with fail
         refine (hx2 m m2).mono ?_;rintro e w3 ⟨u, rfl, rfl, hS4, hK4⟩;have g4 := hS4.c1;have f4 := hS4.fr 1;have hK5 := ((kdrN ((kdrN hK _).set_ _ _) _).set_ _ _).trans hK4 (.inl rfl);clear hx2 hpk hnx hS2 hS3 g1 f1 hS
         go_wp2_with fail
         refine (fail_calls 6 (hS4.set1 _)).mono ?_;rintro e w5 ⟨rfl, rfl⟩;refine ⟨rfl, ?_⟩;rw [hn.out];exact ⟨by rw [hpc'.out]; rfl, (hS4.set1 _).bel, hK5.set_ _ _⟩
       ·rw [if_neg hlow] at hn0
        have hl1 : 56320 ≤ low := by omega
        have hl2 : low ≤ 57343 := by omega
        clear hlow;have hr : 65536 + (n - 55296) * 1024 + low - 56320 = 65536 + (n - 55296) * 1024 + low - 56320 := rfl
        cases hen : Js.encode (65536 + (n - 55296) * 1024 + low - 56320) with
        | none =>
         rw [hen] at hn0;have hn := Lib.hid hn0;clear hn0
         have henc := fun W => encode_none (w := W) hen
         clear hen hr;go_enter Tryd.func112, Tryd.ntmps112;go_wp2_with (go_at_call 120; refine hx1.mono ?_; rintro e w' ⟨u, rfl, rfl, hS, hK⟩; have g1 := hS.c1; have f1 := hS.fr 1);have hnx := next_calls q 92 hS;rw [hq] at hnx
         have hS2 := fun m => RS.to ((hS.drewN m).set1 ((q : Int) + 1)) (show (q : Int) + 1 = ((q + 1 : Nat) : Int) by omega) rfl
         have hpk := fun m => peek_ok (hS2 m) hc
         have hS3 := fun m m2 => RS.to (((hS2 m).drewN m2).set1 ((q : Int) + 1 + 1)) (show (q : Int) + 1 + 1 = ((q + 2 : Nat) : Int) by omega) rfl
         have hx2 := fun m m2 => hex_calls hb (hS3 m m2) (by omega)
         rw [he2] at hx2;clear hq hc he2;go_wp2_with (go_at_call 100; refine hnx.mono ?_; rintro e w' ⟨rfl, m, rfl⟩);refine (hpk m).mono ?_;rintro e w2 ⟨rfl, m2, rfl⟩
         go_wp2_with fail
         refine (hx2 m m2).mono ?_;rintro e w3 ⟨u, rfl, rfl, hS4, hK4⟩;have g4 := hS4.c1;have f4 := hS4.fr 1;have hK5 := ((kdrN ((kdrN hK _).set_ _ _) _).set_ _ _).trans hK4 (.inl rfl);clear hx2 hpk hnx hS2 hS3 g1 f1 hS
         go_wp2_with fail
         refine (henc _).mono ?_;rintro e w6 ⟨rfl, rfl⟩
         go_wp2_with fail
         refine (fail_calls 6 (hS4.set1 _)).mono ?_;rintro e w5 ⟨rfl, rfl⟩;refine ⟨rfl, ?_⟩;rw [hn.out];exact ⟨by rw [hpc'.out]; rfl, (hS4.set1 _).bel, hK5.set_ _ _⟩
        | some l =>
         rw [hen] at hn0;have hn := Lib.hid hn0;clear hn0
         have henc := fun W => encode_some (w := W) hen
         clear hen hr;go_enter Tryd.func112, Tryd.ntmps112;go_wp2_with (go_at_call 120; refine hx1.mono ?_; rintro e w' ⟨u, rfl, rfl, hS, hK⟩; have g1 := hS.c1; have f1 := hS.fr 1);have hnx := next_calls q 92 hS;rw [hq] at hnx
         have hS2 := fun m => RS.to ((hS.drewN m).set1 ((q : Int) + 1)) (show (q : Int) + 1 = ((q + 1 : Nat) : Int) by omega) rfl
         have hpk := fun m => peek_ok (hS2 m) hc
         have hS3 := fun m m2 => RS.to (((hS2 m).drewN m2).set1 ((q : Int) + 1 + 1)) (show (q : Int) + 1 + 1 = ((q + 2 : Nat) : Int) by omega) rfl
         have hx2 := fun m m2 => hex_calls hb (hS3 m m2) (by omega)
         rw [he2] at hx2;clear hq hc he2;go_wp2_with (go_at_call 100; refine hnx.mono ?_; rintro e w' ⟨rfl, m, rfl⟩);refine (hpk m).mono ?_;rintro e w2 ⟨rfl, m2, rfl⟩
         go_wp2_with fail
         refine (hx2 m m2).mono ?_;rintro e w3 ⟨u, rfl, rfl, hS4, hK4⟩;have g4 := hS4.c1;have f4 := hS4.fr 1;have hK5 := ((kdrN ((kdrN hK _).set_ _ _) _).set_ _ _).trans hK4 (.inl rfl);clear hx2 hpk hnx hS2 hS3 g1 f1 hS
         go_wp2_with fail
         refine (henc _).mono ?_;rintro e w6 ⟨u, rfl, hV, hB2⟩;go_wp2;go_ret;rw [hn.out];exact ⟨_, rfl, hV, hS4.below hB2, keep_below hK5 hB2⟩
     ·rw [if_neg (by simpa using hcu)] at hn0
      have hn := Lib.hid hn0
      have hcu' : (cc != 117) = true := by simpa using hcu
      clear hn0 hcu;go_enter Tryd.func112, Tryd.ntmps112;go_wp2_with (go_at_call 120; refine hx1.mono ?_; rintro e w' ⟨u, rfl, rfl, hS, hK⟩; have g1 := hS.c1; have f1 := hS.fr 1);have hnx := next_calls q 92 hS;rw [hq] at hnx
      have hS2 := fun m => RS.to ((hS.drewN m).set1 ((q : Int) + 1)) (show (q : Int) + 1 = ((q + 1 : Nat) : Int) by omega) rfl
      have hpk := fun m => peek_ok (hS2 m) hc
      clear hq hc;go_wp2_with (go_at_call 100; refine hnx.mono ?_; rintro e w' ⟨rfl, m, rfl⟩);refine (hpk m).mono ?_;rintro e w2 ⟨rfl, m2, rfl⟩
      go_wp2_with fail
      refine (fail_calls 6 (((hS2 m).drewN m2).set1 _)).mono ?_;rintro e w2 ⟨rfl, rfl⟩;refine ⟨rfl, ?_⟩;rw [hn.out];exact ⟨by rw [hpc'.out]; rfl, (((hS2 m).drewN m2).set1 _).bel, ((kdrN ((kdrN hK _).set_ _ _) _).set_ _ _)⟩
  ·have hs' : n < 55296 ∨ 55296 ≤ n ∧ 56319 < n := by omega
   cases hen : Js.encode n with
   | none =>
    have hn : Hid (Js.unit b p = .no (p - 2) 6) := by show _ = _; simp only [Js.unit, he]; rw [if_neg (by omega)]; simp [hen]
    clear he
    have henc := fun W => encode_none (w := W) hen
    clear hen hs
    rcases hs' with hs | ⟨hs, hs'⟩
    all_goals
     go_enter Tryd.func112, Tryd.ntmps112;go_wp2_with (go_at_call 120; refine hx1.mono ?_; rintro e w' ⟨u, rfl, rfl, hS, hK⟩; have g1 := hS.c1; have f1 := hS.fr 1);refine (henc _).mono ?_;rintro e w2 ⟨rfl, rfl⟩
     go_wp2_with fail
     refine (fail_calls 6 (hS.set1 _)).mono ?_;rintro e w2 ⟨rfl, rfl⟩;refine ⟨rfl, ?_⟩;rw [hn.out];exact ⟨by rw [hpc'.out]; rfl, (hS.set1 _).bel, hK.set_ _ _⟩
   | some l =>
    have hn : Hid (Js.unit b p = .ok l q) := by show _ = _; simp only [Js.unit, he]; rw [if_neg (by omega)]; simp [hen]
    clear he
    have henc := fun W => encode_some (w := W) hen
    clear hen hs
    rcases hs' with hs | ⟨hs, hs'⟩
    all_goals
     go_enter Tryd.func112, Tryd.ntmps112;go_wp2_with (go_at_call 120; refine hx1.mono ?_; rintro e w' ⟨u, rfl, rfl, hS, hK⟩);refine (henc _).mono ?_;rintro e w2 ⟨u, rfl, hV, hB2⟩;go_wp2;go_ret;rw [hn.out];exact ⟨_, rfl, hV, hS.below hB2, keep_below hK hB2⟩
end Go.Proofs.YteighppcdpaekaaDoor.Rd
end
section
namespace Go.Proofs.YteighppcdpaekaaDoor.Rd
open Go.RowKit Go.Proofs.YteighppcdpaekaaDoorW.PrintWords
open Go.Proofs.YteighppcdpaekaaDoor
set_option maxRecDepth 100000 in
set_option maxHeartbeats 3200000 in
theorem escape_calls {w0 : World} {g : Nat} {A : Option Addr} {c : Nat} {b : List Int} {w : World} {d : Int} {p : Nat} (hb : Bytes b) (h : RS w0 g A c b w p d) (hp1 : 1 ≤ p) (hp : p ≤ b.length) :
  Calls Tryd.prog 99 #[.pointer (some ⟨g, 0, none⟩)] w (Post w0 g A c b w d VBytes (Js.escape b p)) := by
 have hsm := h.small;have h1 := h.c1;have f1 := h.fr 1
 cases hx : b[p]? with
 | none =>
  have hn : Hid (Js.escape b p = .no p 11) := by show _ = _; simp [Js.escape, hx]
  have hpk := peek_no h hx;clear hx;go_enter Tryd.func99, Tryd.ntmps99;go_wp2_with (go_at_call 74; refine hpk.mono ?_; rintro e w' ⟨rfl, m, rfl⟩);refine ⟨rfl, ?_⟩;rw [hn.out];exact ⟨rfl, pbdN h.bel _, kdrN (Kbt.refl _ _ _) _⟩
 | some x =>
  have hpl : p < b.length := (List.getElem?_eq_some_iff.1 hx).1;have hpk := peek_ok h hx
  have hS := fun m => RS.to ((h.drewN m).set1 ((p : Int) + 1)) (show (p : Int) + 1 = ((p + 1 : Nat) : Int) by omega) rfl
  have hK := fun m => (kdrN (Kbt.refl w g none) m).set_ 1 (.int .i64 ((p : Int) + 1))
  have hL : Hid (∀ (W : World) (G : Nat) (l : List Int), G = W.heap.size → l.length ≤ 1000 → Kd.C (Kd.int .u8) (W.alloc (.cells (l.map (Value.int .u8)).toArray 5)) (some ⟨G, 0, none⟩) l.length l) := fun W G l hG hl => by subst hG; exact C_lit W l 5 hl
  have hn0 : Js.escape b p = if x == 34 || x == 92 || x == 47 then .ok [x] (p + 1)
   else if x == 98 then .ok [8] (p + 1) else if x == 102 then .ok [12] (p + 1) else if x == 110 then .ok [10] (p + 1)
   else if x == 114 then .ok [13] (p + 1) else if x == 116 then .ok [9] (p + 1) else if x == 117 then Js.unit b (p + 1) else .no p 6 := by simp only [Js.escape, hx]
  clear hx;by_cases e34 : x = 34
  ·have hn : Hid (Js.escape b p = .ok [x] (p + 1)) := by show _ = _; rw [hn0]; simp [e34]
   replace e34 := beq_iff_eq.2 e34;clear hn0;go_enter Tryd.func99, Tryd.ntmps99;go_wp2_with (go_at_call 74; refine hpk.mono ?_; rintro e w' ⟨rfl, m, rfl⟩);go_ret;rw [hn.out];exact ⟨_, rfl, ⟨_, _, _, rfl, rfl, Nat.le_refl _, by simp, hL.out _ _ [x] (by simp) (by simp)⟩, (hS m).alloc _, kal (hK m) _⟩
  by_cases e92 : x = 92
  ·have hn : Hid (Js.escape b p = .ok [x] (p + 1)) := by show _ = _; rw [hn0]; simp [e92]
   replace e34 := beq_eq_false_iff_ne.2 e34;replace e92 := beq_iff_eq.2 e92;clear hn0;go_enter Tryd.func99, Tryd.ntmps99;go_wp2_with (go_at_call 74; refine hpk.mono ?_; rintro e w' ⟨rfl, m, rfl⟩);go_ret;rw [hn.out];exact ⟨_, rfl, ⟨_, _, _, rfl, rfl, Nat.le_refl _, by simp, hL.out _ _ [x] (by simp) (by simp)⟩, (hS m).alloc _, kal (hK m) _⟩
  by_cases e47 : x = 47
  ·have hn : Hid (Js.escape b p = .ok [x] (p + 1)) := by show _ = _; rw [hn0]; simp [e47]
   replace e34 := beq_eq_false_iff_ne.2 e34;replace e92 := beq_eq_false_iff_ne.2 e92;replace e47 := beq_iff_eq.2 e47;clear hn0;go_enter Tryd.func99, Tryd.ntmps99;go_wp2_with (go_at_call 74; refine hpk.mono ?_; rintro e w' ⟨rfl, m, rfl⟩);go_ret;rw [hn.out];exact ⟨_, rfl, ⟨_, _, _, rfl, rfl, Nat.le_refl _, by simp, hL.out _ _ [x] (by simp) (by simp)⟩, (hS m).alloc _, kal (hK m) _⟩
  by_cases e98 : x = 98
  ·have hn : Hid (Js.escape b p = .ok [8] (p + 1)) := by show _ = _; rw [hn0]; simp [e98]
   replace e34 := beq_eq_false_iff_ne.2 e34;replace e92 := beq_eq_false_iff_ne.2 e92;replace e47 := beq_eq_false_iff_ne.2 e47;replace e98 := beq_iff_eq.2 e98;clear hn0;go_enter Tryd.func99, Tryd.ntmps99;go_wp2_with (go_at_call 74; refine hpk.mono ?_; rintro e w' ⟨rfl, m, rfl⟩);go_ret;rw [hn.out];exact ⟨_, rfl, ⟨_, _, _, rfl, rfl, Nat.le_refl _, by simp, hL.out _ _ [8] (by simp) (by simp)⟩, (hS m).alloc _, kal (hK m) _⟩
  by_cases e102 : x = 102
  ·have hn : Hid (Js.escape b p = .ok [12] (p + 1)) := by show _ = _; rw [hn0]; simp [e102]
   replace e34 := beq_eq_false_iff_ne.2 e34;replace e92 := beq_eq_false_iff_ne.2 e92;replace e47 := beq_eq_false_iff_ne.2 e47;replace e98 := beq_eq_false_iff_ne.2 e98;replace e102 := beq_iff_eq.2 e102;clear hn0;go_enter Tryd.func99, Tryd.ntmps99;go_wp2_with (go_at_call 74; refine hpk.mono ?_; rintro e w' ⟨rfl, m, rfl⟩);go_ret;rw [hn.out];exact ⟨_, rfl, ⟨_, _, _, rfl, rfl, Nat.le_refl _, by simp, hL.out _ _ [12] (by simp) (by simp)⟩, (hS m).alloc _, kal (hK m) _⟩
  by_cases e110 : x = 110
  ·have hn : Hid (Js.escape b p = .ok [10] (p + 1)) := by show _ = _; rw [hn0]; simp [e110]
   replace e34 := beq_eq_false_iff_ne.2 e34;replace e92 := beq_eq_false_iff_ne.2 e92;replace e47 := beq_eq_false_iff_ne.2 e47;replace e98 := beq_eq_false_iff_ne.2 e98;replace e102 := beq_eq_false_iff_ne.2 e102;replace e110 := beq_iff_eq.2 e110;clear hn0;go_enter Tryd.func99, Tryd.ntmps99;go_wp2_with (go_at_call 74; refine hpk.mono ?_; rintro e w' ⟨rfl, m, rfl⟩);go_ret;rw [hn.out];exact ⟨_, rfl, ⟨_, _, _, rfl, rfl, Nat.le_refl _, by simp, hL.out _ _ [10] (by simp) (by simp)⟩, (hS m).alloc _, kal (hK m) _⟩
  by_cases e114 : x = 114
  ·have hn : Hid (Js.escape b p = .ok [13] (p + 1)) := by show _ = _; rw [hn0]; simp [e114]
   replace e34 := beq_eq_false_iff_ne.2 e34;replace e92 := beq_eq_false_iff_ne.2 e92;replace e47 := beq_eq_false_iff_ne.2 e47;replace e98 := beq_eq_false_iff_ne.2 e98;replace e102 := beq_eq_false_iff_ne.2 e102;replace e110 := beq_eq_false_iff_ne.2 e110;replace e114 := beq_iff_eq.2 e114;clear hn0;go_enter Tryd.func99, Tryd.ntmps99;go_wp2_with (go_at_call 74; refine hpk.mono ?_; rintro e w' ⟨rfl, m, rfl⟩);go_ret;rw [hn.out];exact ⟨_, rfl, ⟨_, _, _, rfl, rfl, Nat.le_refl _, by simp, hL.out _ _ [13] (by simp) (by simp)⟩, (hS m).alloc _, kal (hK m) _⟩
  by_cases e116 : x = 116
  ·have hn : Hid (Js.escape b p = .ok [9] (p + 1)) := by show _ = _; rw [hn0]; simp [e116]
   replace e34 := beq_eq_false_iff_ne.2 e34;replace e92 := beq_eq_false_iff_ne.2 e92;replace e47 := beq_eq_false_iff_ne.2 e47;replace e98 := beq_eq_false_iff_ne.2 e98;replace e102 := beq_eq_false_iff_ne.2 e102;replace e110 := beq_eq_false_iff_ne.2 e110;replace e114 := beq_eq_false_iff_ne.2 e114;replace e116 := beq_iff_eq.2 e116;clear hn0;go_enter Tryd.func99, Tryd.ntmps99;go_wp2_with (go_at_call 74; refine hpk.mono ?_; rintro e w' ⟨rfl, m, rfl⟩);go_ret;rw [hn.out];exact ⟨_, rfl, ⟨_, _, _, rfl, rfl, Nat.le_refl _, by simp, hL.out _ _ [9] (by simp) (by simp)⟩, (hS m).alloc _, kal (hK m) _⟩
  by_cases e117 : x = 117
  ·have hn : Hid (Js.escape b p = Js.unit b (p + 1)) := by show _ = _; rw [hn0]; simp [e117]
   replace e34 := beq_eq_false_iff_ne.2 e34;replace e92 := beq_eq_false_iff_ne.2 e92;replace e47 := beq_eq_false_iff_ne.2 e47;replace e98 := beq_eq_false_iff_ne.2 e98;replace e102 := beq_eq_false_iff_ne.2 e102;replace e110 := beq_eq_false_iff_ne.2 e110;replace e114 := beq_eq_false_iff_ne.2 e114;replace e116 := beq_eq_false_iff_ne.2 e116;replace e117 := beq_iff_eq.2 e117;clear hn0
   have hu := fun m => unit_calls hb (hS m) (by omega) (by omega)
   generalize hgu : Js.unit b (p + 1) = ou at hu hn;clear hgu;go_enter Tryd.func99, Tryd.ntmps99;go_wp2_with (go_at_call 74; refine hpk.mono ?_; rintro e w' ⟨rfl, m, rfl⟩);refine (hu m).mono ?_;intro e w2 hP
   cases ou with
   | no y k =>
    obtain ⟨rfl, hB, hK2⟩ := hP;refine ⟨rfl, ?_⟩;rw [hn.out];exact ⟨rfl, hB, (hK m).trans hK2 (.inl rfl)⟩
   | ok l q =>
    obtain ⟨u, rfl, hV, hS2, hK2⟩ := hP;go_wp2;go_ret;rw [hn.out];exact ⟨_, rfl, hV, hS2, (hK m).trans hK2 (.inl rfl)⟩
  have hn : Hid (Js.escape b p = .no p 6) := by show _ = _; rw [hn0]; simp [e34, e92, e47, e98, e102, e110, e114, e116, e117]
  replace e34 := beq_eq_false_iff_ne.2 e34;replace e92 := beq_eq_false_iff_ne.2 e92;replace e47 := beq_eq_false_iff_ne.2 e47;replace e98 := beq_eq_false_iff_ne.2 e98;replace e102 := beq_eq_false_iff_ne.2 e102;replace e110 := beq_eq_false_iff_ne.2 e110;replace e114 := beq_eq_false_iff_ne.2 e114;replace e116 := beq_eq_false_iff_ne.2 e116;replace e117 := beq_eq_false_iff_ne.2 e117;clear hn0;go_enter Tryd.func99, Tryd.ntmps99;go_wp2_with (go_at_call 74; refine hpk.mono ?_; rintro e w' ⟨rfl, m, rfl⟩);refine (fail_calls 6 (RS.set1 (hS m) _)).mono ?_;rintro e w2 ⟨rfl, rfl⟩;refine ⟨rfl, ?_⟩;rw [hn.out];exact ⟨rfl, (RS.set1 (hS m) _).bel, (hK m).set_ _ _⟩
end Go.Proofs.YteighppcdpaekaaDoor.Rd
end
section
namespace Go.Proofs.YteighppcdpaekaaDoor.Rd
open Go.RowKit Go.Proofs.YteighppcdpaekaaDoorW.PrintWords
open Go.Proofs.YteighppcdpaekaaDoor
def VStr (_ : World) (l : List Int) (u : Value) : Prop := u = .string (strOfNums l)
structure TS (w0 : World) (g : Nat) (A : Option Addr) (c : Nat) (b : List Int) (w : World) (d : Int) (wc : World) (q : Nat) (v : Value) (out : List Int) : Prop where
 rs : RS w0 g A c b wc q d
 kb : Kbt w wc g none
 own : wc.ownsRow w.heap.size 5 1 v out.length (nums .u8 out)
section
variable {w0 : World} {g : Nat} {A : Option Addr} {c : Nat} {b : List Int} {w : World} {d : Int} {wc w2 : World} {q r : Nat} {v v1 : Value} {out l : List Int}
theorem TS.ne (h : TS w0 g A c b w d wc q v out) (hg : g < w.heap.size) : v.ownBlock ≠ some g := fun e => by
 have := own_base h.own g e
 omega
theorem TS.step (h : TS w0 g A c b w d wc q v out) (hg : g < w.heap.size) (hS : RS w0 g A c b w2 r d) (hK : Kbt wc w2 g none) : TS w0 g A c b w d w2 r v out :=
 ⟨hS, h.kb.trans hK (.inl rfl), hK.own h.own (h.ne hg) (by cases v.ownBlock <;> simp)⟩
theorem TS.drewN (h : TS w0 g A c b w d wc q v out) (hg : g < w.heap.size) (n : Nat) : TS w0 g A c b w d (wc.drewN n) q v out := h.step hg (h.rs.drewN n) (kdrN (Kbt.refl _ _ _) n)
theorem TS.at1 (h : TS w0 g A c b w d wc q v out) (hg : g < w.heap.size) : TS w0 g A c b w d (wc.setCell ⟨g, 1, none⟩ (.int .i64 ((q : Int) + 1))) (q + 1) v out :=
 h.step hg ((h.rs.set1 _).to (by omega) rfl) ((Kbt.refl _ _ _).set_ _ _)
theorem TS.alloc (h : TS w0 g A c b w d wc q v out) (hg : g < w.heap.size) (x : Obj) : TS w0 g A c b w d (wc.alloc x) q v out := h.step hg (h.rs.alloc x) (kal (Kbt.refl _ _ _) x)
theorem TS.grown (h : TS w0 g A c b w d wc q v out) (hg : g < w.heap.size) (hown : w2.ownsRow w.heap.size 5 1 v1 l.length (nums .u8 l)) (hgr : wc.grownBy w2 v.ownBlock) : TS w0 g A c b w d w2 q v1 l := by
 have hb0 : ∀ k, v.ownBlock = some k → w.heap.size ≤ k := own_base h.own;have hge : w0.heap.size ≤ w.heap.size := Nat.le_trans h.rs.ge (Nat.le_of_lt hg);refine ⟨h.rs.grown hgr (fun e => h.ne hg e.symm) (h.rs.bel.grown hgr (Nat.le_trans hge h.kb.1) (fun k hk => Nat.le_trans hge (hb0 k hk))), ?_, hown⟩;refine h.kb.trans (Kbt.of_grown hgr g) ?_
 cases hv : v.ownBlock with
 | none => exact .inl rfl
 | some k => exact .inr ⟨k, rfl, hb0 k hv⟩
end
set_option maxRecDepth 100000 in
set_option maxHeartbeats 3200000 in
theorem text_calls {w0 : World} {g : Nat} {A : Option Addr} {c : Nat} {b : List Int} {w : World} {d : Int} {p k : Nat} {o : Js.Out (List Int)} (hb : Bytes b) (h : RS w0 g A c b w p d) (ho : Js.text b k p = some o) :
  Calls Tryd.prog 77 #[.pointer (some ⟨g, 0, none⟩)] w (Post w0 g A c b w d VStr o) := by
 have hsm := h.small;have hg := h.lt;have h1 := h.c1;have f1 := h.fr 1
 cases hx : b[p]? with
 | none =>
  obtain rfl : Js.Out.no p 11 = o := by simpa [Js.text, hx] using ho
  have hpk := peek_no h hx;clear hx ho;go_enter Tryd.func77, Tryd.ntmps77;go_wp2_with (go_at_call 74; refine hpk.mono ?_; rintro e w' ⟨rfl, m, rfl⟩);refine ⟨rfl, ?_⟩;exact ⟨rfl, pbdN h.bel _, kdrN (Kbt.refl _ _ _) _⟩
 | some x =>
  have hpl : p < b.length := (List.getElem?_eq_some_iff.1 hx).1;have hpk := peek_ok h hx;by_cases hq : x = 34
  ·have ho1 : Hid (Js.textTo b k [] (p + 1) = some o) := by show _ = _; simpa [Js.text, hx, hq] using ho
   have hq' : (x != 34) = false := by simpa using hq
   clear ho hq hx;go_enter Tryd.func77, Tryd.ntmps77;go_wp2_with (go_at_call 74; refine hpk.mono ?_; rintro e w' ⟨rfl, m, rfl⟩)
   have hT0 : TS w0 g A c b w d ((w.drewN m).setCell ⟨g, 1, none⟩ (.int .i64 ((p : Int) + 1))) (p + 1) (.slice none 0 0) [] :=
    ⟨(RS.set1 (h.drewN m) _).to (by omega) rfl, (kdrN (Kbt.refl _ _ _) _).set_ _ _, own_nil _ _ _ _⟩
   go_loopg [3] k (fun kq s3 wc => ∃ (q : Nat) (out : List Int), Hid (Js.textTo b kq out q = some o) ∧ q ≤ b.length ∧ out.length ≤ 1000 * q ∧ TS w0 g A c b w d wc q s3 out)
   case atStart => exact ⟨p + 1, [], ho1, by omega, by simp, hT0⟩
   case round =>
    clear ho1 hT0 hpk h h1 f1;obtain ⟨q, out, ho2, hql, hlen, hT⟩ := hrel
    cases gk with
    | zero => exact absurd ho2.out (by simp [Js.textTo])
    | succ k1 =>
     have h1 := hT.rs.c1;have f1 := hT.rs.fr 1
     cases hx : b[q]? with
     | none =>
      obtain rfl : Js.Out.no q 11 = o := by have := ho2.out; simpa [Js.textTo, hx] using this
      have hpk := peek_no hT.rs hx;clear hx ho2;go_wp2_with (go_at_call 74; refine hpk.mono ?_; rintro e w' ⟨rfl, m, rfl⟩);refine ⟨rfl, ?_⟩;exact ⟨rfl, (hT.drewN hg _).rs.bel, (hT.drewN hg _).kb⟩
     | some y =>
      have hql2 : q < b.length := (List.getElem?_eq_some_iff.1 hx).1;have hpk := peek_ok hT.rs hx
      have hTT := fun m => (hT.drewN hg m).at1 hg
      by_cases e1 : y = 34
      ·obtain rfl : Js.Out.ok out (q + 1) = o := by have := ho2.out; simpa [Js.textTo, hx, e1] using this
       have e1' : (y == 34) = true := by simpa using e1
       have hcv := fun m => own_string (P := Tryd.prog) Tryd.underlying35 Tryd.underlying5 Tryd.underlying9 (hTT m).own
       clear hx ho2 e1;go_wp2_with (go_at_call 74; refine hpk.mono ?_; rintro e w' ⟨rfl, m, rfl⟩);go_ret;exact ⟨_, rfl, rfl, (hTT m).rs, (hTT m).kb⟩
      ·have e1' : (y == 34) = false := by simpa using e1
       by_cases e2 : y = 92
       ·have e2' : (y == 92) = true := by simpa using e2
        cases hes : Js.escape b (q + 1) with
        | no x e =>
         obtain rfl : Js.Out.no x e = o := by have := ho2.out; simpa [Js.textTo, hx, e1, e2, hes] using this
         have hec := fun m => escape_calls hb (hTT m).rs (by omega) (by omega)
         rw [hes] at hec;clear hx ho2 e1 e2 hes;go_wp2_with (go_at_call 74; refine hpk.mono ?_; rintro e w' ⟨rfl, m, rfl⟩);refine (hec m).mono ?_;rintro e w2 ⟨rfl, hB, hK2⟩;refine ⟨rfl, ?_⟩;exact ⟨rfl, hB, (hTT m).kb.trans hK2 (.inl rfl)⟩
        | ok l r =>
         have ho3 : Hid (Js.textTo b k1 (out ++ l) r = some o) := by have := ho2.out; show _ = _; simpa [Js.textTo, hx, e1, e2, hes] using this
         have hec := fun m => escape_calls hb (hTT m).rs (by omega) (by omega)
         have hle := Js.escape_le hes;rw [hes] at hec;clear hx ho2 e1 e2 hes;go_wp2_with (go_at_call 74; refine hpk.mono ?_; rintro e w' ⟨rfl, m, rfl⟩);refine (hec m).mono ?_;rintro e w2 ⟨u, rfl, ⟨A', n', c', rfl, rfl, hnc, hn1000, hC⟩, hS2, hK2⟩;have hT2 := (hTT m).step hg hS2 hK2;clear hec hpk hTT hT h1 f1;go_wp2_with (at_builtin; refine print_append_row (w0 := w2) w.heap.size rfl _ _ 35 5 .u8 1 rfl Tryd.underlying35 info_u8 (by decide) u3 out l _ _ _ rfl rfl hT2.own (Kd.reads_of_C (enc := Value.int .u8) (d := (0 : Int)) (h1 := fun _ => rfl) hC) (Below.refl _ _) hT2.kb.1 (by omega) ?_; intro v1 w1 hown1 hbe1 hgr1 hat1; clear hbe1 hat1);have hT3 := hT2.grown hg hown1 hgr1;clear hown1 hgr1 hT2 hS2 hK2 hC
         go_roundg k1
         case measure => omega
         case rel => exact ⟨r, out ++ l, ho3, hle.2, by simp; omega, hT3⟩
       ·have e2' : (y == 92) = false := by simpa using e2
        by_cases e3 : y < 32
        ·obtain rfl : Js.Out.no q 6 = o := by have := ho2.out; simpa [Js.textTo, hx, e1, e2, e3] using this
         clear hx ho2 e1 e2;go_wp2_with (first | (go_at_call 74; refine hpk.mono ?_; rintro e w' ⟨rfl, m, rfl⟩) | (go_at_call 60; refine (fail_calls 6 (hT.drewN hg _).rs).mono ?_; rintro e w' ⟨rfl, rfl⟩));refine ⟨rfl, ?_⟩;exact ⟨rfl, (hT.drewN hg _).rs.bel, (hT.drewN hg _).kb⟩
        ·have ho3 : Hid (Js.textTo b k1 (out ++ [y]) (q + 1) = some o) := by have := ho2.out; show _ = _; simpa [Js.textTo, hx, e1, e2, e3] using this
         clear hx ho2 e1 e2;go_wp2_with (first | (go_at_call 74; refine hpk.mono ?_; rintro e w' ⟨rfl, m, rfl⟩) | (at_builtin; refine print_append_num (w0 := wr.drewN _) w.heap.size rfl _ _ 35 5 .u8 1 rfl Tryd.underlying35 info_u8 (by decide) u3 out y rfl rfl (hT.drewN hg _).own (Below.refl _ _) (hT.drewN hg _).kb.1 (by omega) ?_; intro v1 w1 hown1 hbe1 hgr1 hat1; clear hbe1 hat1; have hT3 := TS.grown (hT.drewN hg _) hg hown1 hgr1; clear hown1 hgr1; have g1 := hT3.rs.c1; have g2 := hT3.rs.fr 1));have hT4 := hT3.at1 hg
         go_roundg k1
         case measure => omega
         case rel => exact ⟨q + 1, out ++ [y], ho3, by omega, by simp; omega, hT4⟩
  ·obtain rfl : Js.Out.no p 6 = o := by simpa [Js.text, hx, hq] using ho
   have hq' : (x != 34) = true := by simpa using hq
   clear hx ho hq;go_enter Tryd.func77, Tryd.ntmps77;go_wp2_with (first | (go_at_call 74; refine hpk.mono ?_; rintro e w' ⟨rfl, m, rfl⟩) | (go_at_call 60; refine (fail_calls 6 (h.drewN _)).mono ?_; rintro e w' ⟨rfl, rfl⟩));refine ⟨rfl, ?_⟩;exact ⟨rfl, pbdN h.bel _, kdrN (Kbt.refl _ _ _) _⟩
end Go.Proofs.YteighppcdpaekaaDoor.Rd
end
