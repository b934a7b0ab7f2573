/- Walks and words of this session, put together by a program of this session (pack.py). Conditions: as each text says. -/
import Derived.Test.YteighppcdpaekaaDoorProg
import Derived.WalkKit
import Derived.Below
import Derived.KernelRfl
import Derived.WalkLawsBesides
import Derived.WalkSpells
import Derived.Deep.QuietTactic
import Derived.Deep.LoopGhost
import Derived.BigQuiet
import Derived.Outline
import Derived.Lib.Hide
import Derived.Test.YteighppcdpaekaaDoorS0
import Derived.Test.YteighppcdpaekaaDoorS1
import Derived.Test.YteighppcdpaekaaDoorS2
set_option linter.unusedVariables false
set_option linter.unusedSimpArgs false
section
namespace Go.Proofs.YteighppcdpaekaaDoor.P
open Go.RowKit Go.Proofs.YteighppcdpaekaaDoorW.PrintWords Go.Proofs.YteighppcdpaekaaDoorW.PrintLast Go.Proofs.YteighppcdpaekaaDoorW.PrintMore
attribute [local go_sem] max2_int min2_int max_two min_two max_three min_three max_four min_four
set_option linter.unusedVariables false
set_option linter.unusedSimpArgs false
def utf_more.f (l0 : List Int) (a1 : Int) : Option (Bool) := if a1 < (l0.length : Int) then (if 0 ≤ a1 then (some ((Go.bits .and .u8 (rd l0 a1) 192) == 128)) else (none)) else (some false)
set_option maxHeartbeats 8000000 in
set_option maxRecDepth 100000 in
theorem utf_more.calls (A0 : Option Addr) (c0 : Nat) (l0 : List Int) (a1 : Int) (r : Bool) (w : World) (hr0 : Kd.C (Kd.int .u8) w A0 l0.length l0) (hc0 : l0.length ≤ c0) (h : utf_more.f l0 a1 = some r) :
  Calls Tryd.prog 96 #[.slice A0 l0.length c0, .int .i64 a1] w fun e w' => e = .returned (.bool r) ∧ Drawn0 w w' := by
 have HR0 := Sdq.mk hr0;have HC0 := Sdq.mk hc0;clear hr0 hc0;have H : (if a1 < (l0.length : Int) then (if 0 ≤ a1 then (some ((Go.bits .and .u8 (rd l0 a1) 192) == 128)) else (none)) else (some false)) = some r := h;clear h;by_cases c3 : a1 < (l0.length : Int)
 ·rw [if_pos c3] at H
  have c3b0 : decide (a1 < (l0.length : Int)) = true := decide_eq_true c3;clear c3;by_cases c4 : 0 ≤ a1
  ·rw [if_pos c4] at H
   have c4b0 : decide (0 ≤ a1) = true := decide_eq_true c4;clear c4;obtain rfl := Option.some.inj H;have p101 : 0 ≤ (a1 : Int) := of_decide_eq_true (by assumption);have q101 : a1 < (l0.length : Int) := of_decide_eq_true (by assumption);obtain ⟨ad101, e101, hx101_0⟩ := Kd.at_int HR0.out a1 p101 q101;cases e101;replace p101 := eq_true p101;replace q101 := eq_true q101;go_enter Tryd.func96, Tryd.ntmps96;go_wp2;go_ret;exact ⟨by first | rfl | (simp; done) | (simp [*]; done), by repeat (first | exact Drawn0.refl _ | apply Drawn0.step)⟩
  ·rw [if_neg c4] at H
   exact absurd H (by simp)
 ·rw [if_neg c3] at H
  have c3b0 : decide (a1 < (l0.length : Int)) = false := decide_eq_false c3;clear c3;obtain rfl := Option.some.inj H;go_enter Tryd.func96, Tryd.ntmps96;go_wp2;go_ret;exact ⟨by first | rfl | (simp; done) | (simp [*]; done), by repeat (first | exact Drawn0.refl _ | apply Drawn0.step)⟩
mutual
def utf_letter.j0 : Nat → List Int → Int → Int → Bool → Option (Int × Int)
 | 0, _, _, _, _ => none
 | k + 1, x0, x1, x6, x18 => if x18 = true then (if 0 ≤ (wrap64 (x1 + 1)) then (if (wrap64 (x1 + 1)) < (x0.length : Int) then (some (Go.bits .or .i32 (wrap32 ((Go.bits .and .i32 x6 31) * 64)) (wrap32 (Go.bits .and .u8 (rd x0 (wrap64 (x1 + 1))) 63)), 2)) else (none)) else (none)) else (if x6 ≥ 224 then (if x6 ≤ 239 then ((utf_more.f x0 (wrap64 (x1 + 1))).bind fun t105 => (if t105 = true then ((utf_more.f x0 (wrap64 (x1 + 2))).bind fun t106 => (utf_letter.j1 k x0 x1 x6 t106)) else (utf_letter.j1 k x0 x1 x6 false))) else (utf_letter.j1 k x0 x1 x6 false)) else (utf_letter.j1 k x0 x1 x6 false))
def utf_letter.j1 : Nat → List Int → Int → Int → Bool → Option (Int × Int)
 | 0, _, _, _, _ => none
 | k + 1, x0, x1, x6, x42 => if x42 = true then (if 0 ≤ (wrap64 (x1 + 1)) then (if (wrap64 (x1 + 1)) < (x0.length : Int) then (if 0 ≤ (wrap64 (x1 + 2)) then (if (wrap64 (x1 + 2)) < (x0.length : Int) then (if (Go.bits .or .i32 (Go.bits .or .i32 (wrap32 ((Go.bits .and .i32 x6 15) * 4096)) (wrap32 ((wrap32 (Go.bits .and .u8 (rd x0 (wrap64 (x1 + 1))) 63)) * 64))) (wrap32 (Go.bits .and .u8 (rd x0 (wrap64 (x1 + 2))) 63))) ≥ 2048 then (if (Go.bits .or .i32 (Go.bits .or .i32 (wrap32 ((Go.bits .and .i32 x6 15) * 4096)) (wrap32 ((wrap32 (Go.bits .and .u8 (rd x0 (wrap64 (x1 + 1))) 63)) * 64))) (wrap32 (Go.bits .and .u8 (rd x0 (wrap64 (x1 + 2))) 63))) < 55296 then (some (Go.bits .or .i32 (Go.bits .or .i32 (wrap32 ((Go.bits .and .i32 x6 15) * 4096)) (wrap32 ((wrap32 (Go.bits .and .u8 (rd x0 (wrap64 (x1 + 1))) 63)) * 64))) (wrap32 (Go.bits .and .u8 (rd x0 (wrap64 (x1 + 2))) 63)), 3)) else (if (Go.bits .or .i32 (Go.bits .or .i32 (wrap32 ((Go.bits .and .i32 x6 15) * 4096)) (wrap32 ((wrap32 (Go.bits .and .u8 (rd x0 (wrap64 (x1 + 1))) 63)) * 64))) (wrap32 (Go.bits .and .u8 (rd x0 (wrap64 (x1 + 2))) 63))) > 57343 then (some (Go.bits .or .i32 (Go.bits .or .i32 (wrap32 ((Go.bits .and .i32 x6 15) * 4096)) (wrap32 ((wrap32 (Go.bits .and .u8 (rd x0 (wrap64 (x1 + 1))) 63)) * 64))) (wrap32 (Go.bits .and .u8 (rd x0 (wrap64 (x1 + 2))) 63)), 3)) else (some (0, 0)))) else (some (0, 0))) else (none)) else (none)) else (none)) else (none)) else (if x6 ≥ 240 then (if x6 ≤ 244 then ((utf_more.f x0 (wrap64 (x1 + 1))).bind fun t109 => (if t109 = true then ((utf_more.f x0 (wrap64 (x1 + 2))).bind fun t110 => (if t110 = true then ((utf_more.f x0 (wrap64 (x1 + 3))).bind fun t111 => (utf_letter.j2 k x0 x1 x6 t111)) else (utf_letter.j2 k x0 x1 x6 false))) else (utf_letter.j2 k x0 x1 x6 false))) else (utf_letter.j2 k x0 x1 x6 false)) else (utf_letter.j2 k x0 x1 x6 false))
def utf_letter.j2 : Nat → List Int → Int → Int → Bool → Option (Int × Int)
 | 0, _, _, _, _ => none
 | k + 1, x0, x1, x6, x92 => if x92 = true then (if 0 ≤ (wrap64 (x1 + 1)) then (if (wrap64 (x1 + 1)) < (x0.length : Int) then (if 0 ≤ (wrap64 (x1 + 2)) then (if (wrap64 (x1 + 2)) < (x0.length : Int) then (if 0 ≤ (wrap64 (x1 + 3)) then (if (wrap64 (x1 + 3)) < (x0.length : Int) then (if (Go.bits .or .i32 (Go.bits .or .i32 (Go.bits .or .i32 (wrap32 ((Go.bits .and .i32 x6 7) * 262144)) (wrap32 ((wrap32 (Go.bits .and .u8 (rd x0 (wrap64 (x1 + 1))) 63)) * 4096))) (wrap32 ((wrap32 (Go.bits .and .u8 (rd x0 (wrap64 (x1 + 2))) 63)) * 64))) (wrap32 (Go.bits .and .u8 (rd x0 (wrap64 (x1 + 3))) 63))) ≥ 65536 then (if (Go.bits .or .i32 (Go.bits .or .i32 (Go.bits .or .i32 (wrap32 ((Go.bits .and .i32 x6 7) * 262144)) (wrap32 ((wrap32 (Go.bits .and .u8 (rd x0 (wrap64 (x1 + 1))) 63)) * 4096))) (wrap32 ((wrap32 (Go.bits .and .u8 (rd x0 (wrap64 (x1 + 2))) 63)) * 64))) (wrap32 (Go.bits .and .u8 (rd x0 (wrap64 (x1 + 3))) 63))) ≤ 1114111 then (some (Go.bits .or .i32 (Go.bits .or .i32 (Go.bits .or .i32 (wrap32 ((Go.bits .and .i32 x6 7) * 262144)) (wrap32 ((wrap32 (Go.bits .and .u8 (rd x0 (wrap64 (x1 + 1))) 63)) * 4096))) (wrap32 ((wrap32 (Go.bits .and .u8 (rd x0 (wrap64 (x1 + 2))) 63)) * 64))) (wrap32 (Go.bits .and .u8 (rd x0 (wrap64 (x1 + 3))) 63)), 4)) else (some (0, 0))) else (some (0, 0))) else (none)) else (none)) else (none)) else (none)) else (none)) else (none)) else (some (0, 0))
end
def utf_letter.f (k : Nat) (l0 : List Int) (a1 : Int) : Option (Int × Int) := if 0 ≤ a1 then (if a1 < (l0.length : Int) then (if (wrap32 (rd l0 a1)) < 128 then (some (wrap32 (rd l0 a1), 1)) else (if (wrap32 (rd l0 a1)) ≥ 194 then (if (wrap32 (rd l0 a1)) ≤ 223 then ((utf_more.f l0 (wrap64 (a1 + 1))).bind fun t103 => (utf_letter.j0 k l0 a1 (wrap32 (rd l0 a1)) t103)) else (utf_letter.j0 k l0 a1 (wrap32 (rd l0 a1)) false)) else (utf_letter.j0 k l0 a1 (wrap32 (rd l0 a1)) false))) else (none)) else (none)
theorem utf_letter.mono_l : ∀ k, (∀ y0 y1 y2 y3, LeO (utf_letter.j0 k y0 y1 y2 y3) (utf_letter.j0 (k + 1) y0 y1 y2 y3)) ∧ (∀ y0 y1 y2 y3, LeO (utf_letter.j1 k y0 y1 y2 y3) (utf_letter.j1 (k + 1) y0 y1 y2 y3)) ∧ (∀ y0 y1 y2 y3, LeO (utf_letter.j2 k y0 y1 y2 y3) (utf_letter.j2 (k + 1) y0 y1 y2 y3))
 | 0 => ⟨fun _ _ _ _ r h => by simp [utf_letter.j0] at h, fun _ _ _ _ r h => by simp [utf_letter.j1] at h, fun _ _ _ _ r h => by simp [utf_letter.j2] at h⟩
 | k + 1 => by
  obtain ⟨ih0, ih1, ih2⟩ := utf_letter.mono_l k;refine ⟨?_, ?_, ?_⟩
  ·intro y0 y1 y2 y3
   unfold utf_letter.j0
   repeat' first
   | (with_reducible exact ih0 _ _ _ _)
   | (with_reducible exact ih1 _ _ _ _)
   | (with_reducible exact ih2 _ _ _ _)
   | (with_reducible exact LeO.refl _)
   | (with_reducible exact LeO.none _)
   | (with_reducible refine LeO.ite ?_ ?_)
   | (with_reducible refine LeO.bind ?_ (fun _ => ?_))
   | exact ih0 _ _ _ _
   | exact ih1 _ _ _ _
   | exact ih2 _ _ _ _
   | exact LeO.none _
   | refine LeO.ite ?_ ?_
   | refine LeO.bind ?_ (fun _ => ?_)
  ·intro y0 y1 y2 y3
   unfold utf_letter.j1
   repeat' first
   | (with_reducible exact ih0 _ _ _ _)
   | (with_reducible exact ih1 _ _ _ _)
   | (with_reducible exact ih2 _ _ _ _)
   | (with_reducible exact LeO.refl _)
   | (with_reducible exact LeO.none _)
   | (with_reducible refine LeO.ite ?_ ?_)
   | (with_reducible refine LeO.bind ?_ (fun _ => ?_))
   | exact ih0 _ _ _ _
   | exact ih1 _ _ _ _
   | exact ih2 _ _ _ _
   | exact LeO.none _
   | refine LeO.ite ?_ ?_
   | refine LeO.bind ?_ (fun _ => ?_)
  ·intro y0 y1 y2 y3
   unfold utf_letter.j2
   repeat' first
   | (with_reducible exact ih0 _ _ _ _)
   | (with_reducible exact ih1 _ _ _ _)
   | (with_reducible exact ih2 _ _ _ _)
   | (with_reducible exact LeO.refl _)
   | (with_reducible exact LeO.none _)
   | (with_reducible refine LeO.ite ?_ ?_)
   | (with_reducible refine LeO.bind ?_ (fun _ => ?_))
   | exact ih0 _ _ _ _
   | exact ih1 _ _ _ _
   | exact ih2 _ _ _ _
   | exact LeO.none _
   | refine LeO.ite ?_ ?_
   | refine LeO.bind ?_ (fun _ => ?_)
theorem utf_letter.mono : ∀ a0 a1 k, LeO (utf_letter.f k a0 a1) (utf_letter.f (k + 1) a0 a1) := by
 intro a0 a1 k;obtain ⟨ih0, ih1, ih2⟩ := utf_letter.mono_l k;unfold utf_letter.f
 repeat' first
   | (with_reducible exact ih0 _ _ _ _)
   | (with_reducible exact ih1 _ _ _ _)
   | (with_reducible exact ih2 _ _ _ _)
   | (with_reducible exact LeO.refl _)
   | (with_reducible exact LeO.none _)
   | (with_reducible refine LeO.ite ?_ ?_)
   | (with_reducible refine LeO.bind ?_ (fun _ => ?_))
   | exact ih0 _ _ _ _
   | exact ih1 _ _ _ _
   | exact ih2 _ _ _ _
   | exact LeO.none _
   | refine LeO.ite ?_ ?_
   | refine LeO.bind ?_ (fun _ => ?_)
set_option maxHeartbeats 8000000 in
set_option maxRecDepth 100000 in
theorem utf_letter.calls (k : Nat) (A0 : Option Addr) (c0 : Nat) (l0 : List Int) (a1 : Int) (r1 : Int) (r2 : Int) (w : World) (hr0 : Kd.C (Kd.int .u8) w A0 l0.length l0) (hc0 : l0.length ≤ c0) (h : utf_letter.f k l0 a1 = some (r1, r2)) :
  Calls Tryd.prog 73 #[.slice A0 l0.length c0, .int .i64 a1] w fun e w' => e = .returned (.tuple #[.int .i32 r1, .int .i64 r2]) ∧ Drawn0 w w' := by
 have HR0 := Sdq.mk hr0;have HC0 := Sdq.mk hc0;clear hr0 hc0;have H : (if 0 ≤ a1 then (if a1 < (l0.length : Int) then (if (wrap32 (rd l0 a1)) < 128 then (some (wrap32 (rd l0 a1), 1)) else (if (wrap32 (rd l0 a1)) ≥ 194 then (if (wrap32 (rd l0 a1)) ≤ 223 then ((utf_more.f l0 (wrap64 (a1 + 1))).bind fun t103 => (utf_letter.j0 k l0 a1 (wrap32 (rd l0 a1)) t103)) else (utf_letter.j0 k l0 a1 (wrap32 (rd l0 a1)) false)) else (utf_letter.j0 k l0 a1 (wrap32 (rd l0 a1)) false))) else (none)) else (none)) = some (r1, r2) := h;clear h;by_cases c3 : 0 ≤ a1
 ·rw [if_pos c3] at H
  have c3b0 : decide (0 ≤ a1) = true := decide_eq_true c3;clear c3;by_cases c4 : a1 < (l0.length : Int)
  ·rw [if_pos c4] at H
   have c4b0 : decide (a1 < (l0.length : Int)) = true := decide_eq_true c4;clear c4;by_cases c5 : (wrap32 (rd l0 a1)) < 128
   ·rw [if_pos c5] at H
    have c5b0 : decide ((wrap32 (rd l0 a1)) < 128) = true := decide_eq_true c5;clear c5;simp only [Option.some.injEq, Prod.mk.injEq] at H;obtain ⟨rfl, rfl⟩ := H;have p102 : 0 ≤ (a1 : Int) := of_decide_eq_true (by assumption);have q102 : a1 < (l0.length : Int) := of_decide_eq_true (by assumption);obtain ⟨ad102, e102, hx102_0⟩ := Kd.at_int HR0.out a1 p102 q102;cases e102;replace p102 := eq_true p102;replace q102 := eq_true q102;go_enter Tryd.func73, Tryd.ntmps73;go_wp2
    repeat (go_quiet (fail); try go_wp2)
    go_ret2
    exact ⟨by first | rfl | (simp; done) | (simp [*]; done), by repeat (first | exact Drawn0.refl _ | apply Drawn0.step)⟩
   ·rw [if_neg c5] at H
    have c5b0 : decide ((wrap32 (rd l0 a1)) < 128) = false := decide_eq_false c5;clear c5;have HC6 := Sdq.mk H;clear H;have p102 : 0 ≤ (a1 : Int) := of_decide_eq_true (by assumption);have q102 : a1 < (l0.length : Int) := of_decide_eq_true (by assumption);obtain ⟨ad102, e102, hx102_0⟩ := Kd.at_int HR0.out a1 p102 q102;cases e102;replace p102 := eq_true p102;replace q102 := eq_true q102;go_enter Tryd.func73, Tryd.ntmps73
    go_upto_region 4 with (fail)
    repeat (go_quiet (fail); go_upto_region 4 with (fail))
    go_cut [18] (fun v18 wc => ∃ (kq : Nat) (x18_5 : Bool), v18 = .bool x18_5 ∧ Sdq (utf_letter.j0 kq l0 a1 (wrap32 (rd l0 a1)) x18_5 = some (r1, r2)) ∧ Sdq (kq ≤ k) ∧ Drawn0 w wc)
    case first =>
     have H := HC6.out;clear HC6;by_cases c7 : (wrap32 (rd l0 a1)) ≥ 194
     ·rw [if_pos c7] at H
      have c7b0 : decide (194 ≤ (wrap32 (rd l0 a1))) = true := decide_eq_true c7;clear c7
      (first | rw [c7b0] | (simp only [i64_w, i32_w]; rw [c7b0]) | skip)
      by_cases c8 : (wrap32 (rd l0 a1)) ≤ 223
      ·rw [if_pos c8] at H
       have c8b0 : decide ((wrap32 (rd l0 a1)) ≤ 223) = true := decide_eq_true c8;clear c8;replace H := Option.bind_eq_some_iff.mp H;obtain ⟨t103, A90, H⟩ := H;replace H : (utf_letter.j0 k l0 a1 (wrap32 (rd l0 a1)) t103) = some (r1, r2) := H;have A9 := Sdq.mk A90;clear A90;have H' := Sdq.mk H;clear H;go_wp2_with (first | (go_at_call 96; (with_reducible refine (utf_more.calls _ _ l0 (wrap64 (a1 + 1)) t103 _ ?side1 ?side2 A9.out).mono ?_); (case side1 => repeat (first | exact HR0.out | (with_reducible refine Kd.C_alloc ?_ _) | (with_reducible refine Kd.C_drewN ?_ _) | (with_reducible refine Kd.C_drew ?_))); (case side2 => exact HC0.out); rintro e w' ⟨rfl, ⟨nd, rfl⟩⟩; (try first | exact ⟨rfl, _, World.drewN_drewN _ _ _⟩ | exact ⟨rfl, _, Eq.trans (World.drewN_drewN _ _ _) (congrArg (World.drewN _) (Nat.add_assoc _ _ _))⟩)))
       repeat (go_quiet (first | (go_at_call 96; (with_reducible refine (utf_more.calls _ _ l0 (wrap64 (a1 + 1)) t103 _ ?side1 ?side2 A9.out).mono ?_); (case side1 => repeat (first | exact HR0.out | (with_reducible refine Kd.C_alloc ?_ _) | (with_reducible refine Kd.C_drewN ?_ _) | (with_reducible refine Kd.C_drew ?_))); (case side2 => exact HC0.out); rintro e w' ⟨rfl, ⟨nd, rfl⟩⟩; (try first | exact ⟨rfl, _, World.drewN_drewN _ _ _⟩ | exact ⟨rfl, _, Eq.trans (World.drewN_drewN _ _ _) (congrArg (World.drewN _) (Nat.add_assoc _ _ _))⟩))); try go_wp2_with (first | (go_at_call 96; (with_reducible refine (utf_more.calls _ _ l0 (wrap64 (a1 + 1)) t103 _ ?side1 ?side2 A9.out).mono ?_); (case side1 => repeat (first | exact HR0.out | (with_reducible refine Kd.C_alloc ?_ _) | (with_reducible refine Kd.C_drewN ?_ _) | (with_reducible refine Kd.C_drew ?_))); (case side2 => exact HC0.out); rintro e w' ⟨rfl, ⟨nd, rfl⟩⟩; (try first | exact ⟨rfl, _, World.drewN_drewN _ _ _⟩ | exact ⟨rfl, _, Eq.trans (World.drewN_drewN _ _ _) (congrArg (World.drewN _) (Nat.add_assoc _ _ _))⟩))))
       go_meet
       case rel => exact ⟨_, (t103), (by first | rfl | (simp; done) | (simp [*]; done)), H', ⟨by first | omega | exact Nat.le_refl _⟩, by repeat (first | exact Drawn0.refl _ | apply Drawn0.step)⟩
      ·rw [if_neg c8] at H
       have c8b0 : decide ((wrap32 (rd l0 a1)) ≤ 223) = false := decide_eq_false c8;clear c8;have H' := Sdq.mk H;clear H;go_wp2
       repeat (go_quiet (fail); try go_wp2)
       go_meet
       case rel => exact ⟨_, (false), (by first | rfl | (simp; done) | (simp [*]; done)), H', ⟨by first | omega | exact Nat.le_refl _⟩, by repeat (first | exact Drawn0.refl _ | apply Drawn0.step)⟩
     ·rw [if_neg c7] at H
      have c7b0 : decide (194 ≤ (wrap32 (rd l0 a1))) = false := decide_eq_false c7;clear c7
      (first | rw [c7b0] | (simp only [i64_w, i32_w]; rw [c7b0]) | skip)
      have H' := Sdq.mk H;clear H;go_wp2
      repeat (go_quiet (fail); try go_wp2)
      go_meet
      case rel => exact ⟨_, (false), (by first | rfl | (simp; done) | (simp [*]; done)), H', ⟨by first | omega | exact Nat.le_refl _⟩, by repeat (first | exact Drawn0.refl _ | apply Drawn0.step)⟩
    case rest =>
     clear HC6
     try clear p1; try clear q1; try clear hx1; try clear p2; try clear c3; try clear c3b0; try clear p3; try clear c4; try clear c4b0; try clear c5; try clear c5b0; try clear p6; try clear c7; try clear c7b0; try clear c8; try clear c8b0; try clear hx102_0; try clear p102; try clear q102
     obtain ⟨kq, x18_5, rfl, HA, HJ5, ⟨mc5, rfl⟩⟩ := hcut
     cases kq with
     | zero => exact absurd HA.out (by simp [utf_letter.j0])
     | succ kj5 =>
      have H := HA.out;clear HA;simp only [utf_letter.j0] at H;by_cases c10 : x18_5 = true
      ·subst c10
       have H1 : (if 0 ≤ (wrap64 (a1 + 1)) then (if (wrap64 (a1 + 1)) < (l0.length : Int) then (some (Go.bits .or .i32 (wrap32 ((Go.bits .and .i32 (wrap32 (rd l0 a1)) 31) * 64)) (wrap32 (Go.bits .and .u8 (rd l0 (wrap64 (a1 + 1))) 63)), 2)) else (none)) else (none)) = some (r1, r2) := by rw [if_pos rfl] at H; exact H
       clear H;have H := H1;clear H1
       obtain ⟨ji11, hji11⟩ : ∃ j_ : Int, (wrap64 (a1 + 1)) = j_ := ⟨_, rfl⟩
       replace H : (if 0 ≤ (ji11) then (if (ji11) < (l0.length : Int) then (some (Go.bits .or .i32 (wrap32 ((Go.bits .and .i32 (wrap32 (rd l0 a1)) 31) * 64)) (wrap32 (Go.bits .and .u8 (rd l0 (ji11)) 63)), 2)) else (none)) else (none)) = some (r1, r2) := by first | (rw [hji11] at H; exact H) | (simp only [hji11] at H ⊢; exact H)
       have hji11w : (IntKind.i64.wrap (a1 + 1)) = ji11 := (i64_w _).trans hji11;by_cases c12 : 0 ≤ (ji11)
       ·rw [if_pos c12] at H
        have c12b0 : decide (0 ≤ (ji11)) = true := decide_eq_true c12;clear c12;by_cases c13 : (ji11) < (l0.length : Int)
        ·rw [if_pos c13] at H
         have c13b0 : decide ((ji11) < (l0.length : Int)) = true := decide_eq_true c13;clear c13;simp only [Option.some.injEq, Prod.mk.injEq] at H;obtain ⟨rfl, rfl⟩ := H;have p104 : 0 ≤ ((ji11) : Int) := of_decide_eq_true (by assumption);have q104 : (ji11) < (l0.length : Int) := of_decide_eq_true (by assumption);obtain ⟨ad104, e104, hx104_0⟩ := Kd.at_int HR0.out (ji11) p104 q104
         obtain rfl : ad102 = ad104 := (by injection e104)
         replace p104 := eq_true p104;replace q104 := eq_true q104;go_wp2
         repeat (go_quiet (fail); try go_wp2)
         go_ret2
         exact ⟨by first | rfl | (simp; done) | (simp only [← hji11] <;> (first | rfl | simp)) | (simp [*]; done), by repeat (first | exact Drawn0.refl _ | apply Drawn0.step)⟩
        ·rw [if_neg c13] at H
         exact absurd H (by simp)
       ·rw [if_neg c12] at H
        exact absurd H (by simp)
      ·replace c10 := Bool.eq_false_iff.mpr c10
       subst c10
       have H1 : (if (wrap32 (rd l0 a1)) ≥ 224 then (if (wrap32 (rd l0 a1)) ≤ 239 then ((utf_more.f l0 (wrap64 (a1 + 1))).bind fun t105 => (if t105 = true then ((utf_more.f l0 (wrap64 (a1 + 2))).bind fun t106 => (utf_letter.j1 kj5 l0 a1 (wrap32 (rd l0 a1)) t106)) else (utf_letter.j1 kj5 l0 a1 (wrap32 (rd l0 a1)) false))) else (utf_letter.j1 kj5 l0 a1 (wrap32 (rd l0 a1)) false)) else (utf_letter.j1 kj5 l0 a1 (wrap32 (rd l0 a1)) false)) = some (r1, r2) := by rw [if_neg (show ¬ (false = true) by decide)] at H; exact H
       clear H;have H := H1;clear H1;have HC14 := Sdq.mk H;clear H
       go_upto_region 6 with (fail)
       repeat (go_quiet (fail); go_upto_region 6 with (fail))
       go_cut [42] (fun v42 wc => ∃ (kq : Nat) (x42_13 : Bool), v42 = .bool x42_13 ∧ Sdq (utf_letter.j1 kq l0 a1 (wrap32 (rd l0 a1)) x42_13 = some (r1, r2)) ∧ Sdq (kq ≤ kj5) ∧ Drawn0 w wc)
       case first =>
        have H := HC14.out;clear HC14;by_cases c15 : (wrap32 (rd l0 a1)) ≥ 224
        ·rw [if_pos c15] at H
         have c15b0 : decide (224 ≤ (wrap32 (rd l0 a1))) = true := decide_eq_true c15;clear c15
         (first | rw [c15b0] | (simp only [i64_w, i32_w]; rw [c15b0]) | skip)
         by_cases c16 : (wrap32 (rd l0 a1)) ≤ 239
         ·rw [if_pos c16] at H
          have c16b0 : decide ((wrap32 (rd l0 a1)) ≤ 239) = true := decide_eq_true c16;clear c16;replace H := Option.bind_eq_some_iff.mp H;obtain ⟨t105, A170, H⟩ := H;replace H : (if t105 = true then ((utf_more.f l0 (wrap64 (a1 + 2))).bind fun t106 => (utf_letter.j1 kj5 l0 a1 (wrap32 (rd l0 a1)) t106)) else (utf_letter.j1 kj5 l0 a1 (wrap32 (rd l0 a1)) false)) = some (r1, r2) := H;have A17 := Sdq.mk A170;clear A170;by_cases c18 : t105 = true
          ·subst c18
           have H1 : ((utf_more.f l0 (wrap64 (a1 + 2))).bind fun t106 => (utf_letter.j1 kj5 l0 a1 (wrap32 (rd l0 a1)) t106)) = some (r1, r2) := by rw [if_pos rfl] at H; exact H
           clear H;have H := H1;clear H1;replace H := Option.bind_eq_some_iff.mp H;obtain ⟨t106, A190, H⟩ := H;replace H : (utf_letter.j1 kj5 l0 a1 (wrap32 (rd l0 a1)) t106) = some (r1, r2) := H;have A19 := Sdq.mk A190;clear A190;have H' := Sdq.mk H;clear H;go_wp2_with (first | (go_at_call 96; (with_reducible refine (utf_more.calls _ _ l0 (wrap64 (a1 + 1)) true _ ?side1 ?side2 A17.out).mono ?_); (case side1 => repeat (first | exact HR0.out | (with_reducible refine Kd.C_alloc ?_ _) | (with_reducible refine Kd.C_drewN ?_ _) | (with_reducible refine Kd.C_drew ?_))); (case side2 => exact HC0.out); rintro e w' ⟨rfl, ⟨nd, rfl⟩⟩; (try first | exact ⟨rfl, _, World.drewN_drewN _ _ _⟩ | exact ⟨rfl, _, Eq.trans (World.drewN_drewN _ _ _) (congrArg (World.drewN _) (Nat.add_assoc _ _ _))⟩)) | (go_at_call 96; (with_reducible refine (utf_more.calls _ _ l0 (wrap64 (a1 + 2)) t106 _ ?side1 ?side2 A19.out).mono ?_); (case side1 => repeat (first | exact HR0.out | (with_reducible refine Kd.C_alloc ?_ _) | (with_reducible refine Kd.C_drewN ?_ _) | (with_reducible refine Kd.C_drew ?_))); (case side2 => exact HC0.out); rintro e w' ⟨rfl, ⟨nd, rfl⟩⟩; (try first | exact ⟨rfl, _, World.drewN_drewN _ _ _⟩ | exact ⟨rfl, _, Eq.trans (World.drewN_drewN _ _ _) (congrArg (World.drewN _) (Nat.add_assoc _ _ _))⟩)))
           repeat (go_quiet (first | (go_at_call 96; (with_reducible refine (utf_more.calls _ _ l0 (wrap64 (a1 + 1)) true _ ?side1 ?side2 A17.out).mono ?_); (case side1 => repeat (first | exact HR0.out | (with_reducible refine Kd.C_alloc ?_ _) | (with_reducible refine Kd.C_drewN ?_ _) | (with_reducible refine Kd.C_drew ?_))); (case side2 => exact HC0.out); rintro e w' ⟨rfl, ⟨nd, rfl⟩⟩; (try first | exact ⟨rfl, _, World.drewN_drewN _ _ _⟩ | exact ⟨rfl, _, Eq.trans (World.drewN_drewN _ _ _) (congrArg (World.drewN _) (Nat.add_assoc _ _ _))⟩)) | (go_at_call 96; (with_reducible refine (utf_more.calls _ _ l0 (wrap64 (a1 + 2)) t106 _ ?side1 ?side2 A19.out).mono ?_); (case side1 => repeat (first | exact HR0.out | (with_reducible refine Kd.C_alloc ?_ _) | (with_reducible refine Kd.C_drewN ?_ _) | (with_reducible refine Kd.C_drew ?_))); (case side2 => exact HC0.out); rintro e w' ⟨rfl, ⟨nd, rfl⟩⟩; (try first | exact ⟨rfl, _, World.drewN_drewN _ _ _⟩ | exact ⟨rfl, _, Eq.trans (World.drewN_drewN _ _ _) (congrArg (World.drewN _) (Nat.add_assoc _ _ _))⟩))); try go_wp2_with (first | (go_at_call 96; (with_reducible refine (utf_more.calls _ _ l0 (wrap64 (a1 + 1)) true _ ?side1 ?side2 A17.out).mono ?_); (case side1 => repeat (first | exact HR0.out | (with_reducible refine Kd.C_alloc ?_ _) | (with_reducible refine Kd.C_drewN ?_ _) | (with_reducible refine Kd.C_drew ?_))); (case side2 => exact HC0.out); rintro e w' ⟨rfl, ⟨nd, rfl⟩⟩; (try first | exact ⟨rfl, _, World.drewN_drewN _ _ _⟩ | exact ⟨rfl, _, Eq.trans (World.drewN_drewN _ _ _) (congrArg (World.drewN _) (Nat.add_assoc _ _ _))⟩)) | (go_at_call 96; (with_reducible refine (utf_more.calls _ _ l0 (wrap64 (a1 + 2)) t106 _ ?side1 ?side2 A19.out).mono ?_); (case side1 => repeat (first | exact HR0.out | (with_reducible refine Kd.C_alloc ?_ _) | (with_reducible refine Kd.C_drewN ?_ _) | (with_reducible refine Kd.C_drew ?_))); (case side2 => exact HC0.out); rintro e w' ⟨rfl, ⟨nd, rfl⟩⟩; (try first | exact ⟨rfl, _, World.drewN_drewN _ _ _⟩ | exact ⟨rfl, _, Eq.trans (World.drewN_drewN _ _ _) (congrArg (World.drewN _) (Nat.add_assoc _ _ _))⟩))))
           go_meet
           case rel => exact ⟨_, (t106), (by first | rfl | (simp; done) | (simp [*]; done)), H', ⟨by have := HJ5.out; first | omega | exact Nat.le_refl _⟩, by repeat (first | exact Drawn0.refl _ | apply Drawn0.step)⟩
          ·replace c18 := Bool.eq_false_iff.mpr c18
           subst c18
           have H1 : (utf_letter.j1 kj5 l0 a1 (wrap32 (rd l0 a1)) false) = some (r1, r2) := by rw [if_neg (show ¬ (false = true) by decide)] at H; exact H
           clear H;have H := H1;clear H1;have H' := Sdq.mk H;clear H;go_wp2_with (first | (go_at_call 96; (with_reducible refine (utf_more.calls _ _ l0 (wrap64 (a1 + 1)) false _ ?side1 ?side2 A17.out).mono ?_); (case side1 => repeat (first | exact HR0.out | (with_reducible refine Kd.C_alloc ?_ _) | (with_reducible refine Kd.C_drewN ?_ _) | (with_reducible refine Kd.C_drew ?_))); (case side2 => exact HC0.out); rintro e w' ⟨rfl, ⟨nd, rfl⟩⟩; (try first | exact ⟨rfl, _, World.drewN_drewN _ _ _⟩ | exact ⟨rfl, _, Eq.trans (World.drewN_drewN _ _ _) (congrArg (World.drewN _) (Nat.add_assoc _ _ _))⟩)))
           repeat (go_quiet (first | (go_at_call 96; (with_reducible refine (utf_more.calls _ _ l0 (wrap64 (a1 + 1)) false _ ?side1 ?side2 A17.out).mono ?_); (case side1 => repeat (first | exact HR0.out | (with_reducible refine Kd.C_alloc ?_ _) | (with_reducible refine Kd.C_drewN ?_ _) | (with_reducible refine Kd.C_drew ?_))); (case side2 => exact HC0.out); rintro e w' ⟨rfl, ⟨nd, rfl⟩⟩; (try first | exact ⟨rfl, _, World.drewN_drewN _ _ _⟩ | exact ⟨rfl, _, Eq.trans (World.drewN_drewN _ _ _) (congrArg (World.drewN _) (Nat.add_assoc _ _ _))⟩))); try go_wp2_with (first | (go_at_call 96; (with_reducible refine (utf_more.calls _ _ l0 (wrap64 (a1 + 1)) false _ ?side1 ?side2 A17.out).mono ?_); (case side1 => repeat (first | exact HR0.out | (with_reducible refine Kd.C_alloc ?_ _) | (with_reducible refine Kd.C_drewN ?_ _) | (with_reducible refine Kd.C_drew ?_))); (case side2 => exact HC0.out); rintro e w' ⟨rfl, ⟨nd, rfl⟩⟩; (try first | exact ⟨rfl, _, World.drewN_drewN _ _ _⟩ | exact ⟨rfl, _, Eq.trans (World.drewN_drewN _ _ _) (congrArg (World.drewN _) (Nat.add_assoc _ _ _))⟩))))
           go_meet
           case rel => exact ⟨_, (false), (by first | rfl | (simp; done) | (simp [*]; done)), H', ⟨by have := HJ5.out; first | omega | exact Nat.le_refl _⟩, by repeat (first | exact Drawn0.refl _ | apply Drawn0.step)⟩
         ·rw [if_neg c16] at H
          have c16b0 : decide ((wrap32 (rd l0 a1)) ≤ 239) = false := decide_eq_false c16;clear c16;have H' := Sdq.mk H;clear H;go_wp2
          repeat (go_quiet (fail); try go_wp2)
          go_meet
          case rel => exact ⟨_, (false), (by first | rfl | (simp; done) | (simp [*]; done)), H', ⟨by have := HJ5.out; first | omega | exact Nat.le_refl _⟩, by repeat (first | exact Drawn0.refl _ | apply Drawn0.step)⟩
        ·rw [if_neg c15] at H
         have c15b0 : decide (224 ≤ (wrap32 (rd l0 a1))) = false := decide_eq_false c15;clear c15
         (first | rw [c15b0] | (simp only [i64_w, i32_w]; rw [c15b0]) | skip)
         have H' := Sdq.mk H;clear H;go_wp2
         repeat (go_quiet (fail); try go_wp2)
         go_meet
         case rel => exact ⟨_, (false), (by first | rfl | (simp; done) | (simp [*]; done)), H', ⟨by have := HJ5.out; first | omega | exact Nat.le_refl _⟩, by repeat (first | exact Drawn0.refl _ | apply Drawn0.step)⟩
       case rest =>
        clear HC14
        try clear c1; try clear p1; try clear q1; try clear hx1; try clear p2; try clear c3; try clear c3b0; try clear p3; try clear c4; try clear c4b0; try clear c5; try clear c5b0; try clear p6; try clear c7; try clear c7b0; try clear c8; try clear c8b0; try clear c10; try clear p10; try clear q10; try clear hx10; try clear c12; try clear c12b0; try clear c13; try clear c13b0; try clear c15; try clear c15b0; try clear c16; try clear c16b0; try clear c18; try clear hx102_0; try clear hx104_0; try clear p1; try clear p102; try clear p104; try clear p2; try clear p3; try clear p6; try clear q1; try clear q102; try clear q104
        obtain ⟨kq, x42_13, rfl, HA, HJ13, ⟨mc13, rfl⟩⟩ := hcut
        cases kq with
        | zero => exact absurd HA.out (by simp [utf_letter.j1])
        | succ kj13 =>
         have H := HA.out;clear HA;simp only [utf_letter.j1] at H;by_cases c20 : x42_13 = true
         ·subst c20
          have H1 : (if 0 ≤ (wrap64 (a1 + 1)) then (if (wrap64 (a1 + 1)) < (l0.length : Int) then (if 0 ≤ (wrap64 (a1 + 2)) then (if (wrap64 (a1 + 2)) < (l0.length : Int) then (if (Go.bits .or .i32 (Go.bits .or .i32 (wrap32 ((Go.bits .and .i32 (wrap32 (rd l0 a1)) 15) * 4096)) (wrap32 ((wrap32 (Go.bits .and .u8 (rd l0 (wrap64 (a1 + 1))) 63)) * 64))) (wrap32 (Go.bits .and .u8 (rd l0 (wrap64 (a1 + 2))) 63))) ≥ 2048 then (if (Go.bits .or .i32 (Go.bits .or .i32 (wrap32 ((Go.bits .and .i32 (wrap32 (rd l0 a1)) 15) * 4096)) (wrap32 ((wrap32 (Go.bits .and .u8 (rd l0 (wrap64 (a1 + 1))) 63)) * 64))) (wrap32 (Go.bits .and .u8 (rd l0 (wrap64 (a1 + 2))) 63))) < 55296 then (some (Go.bits .or .i32 (Go.bits .or .i32 (wrap32 ((Go.bits .and .i32 (wrap32 (rd l0 a1)) 15) * 4096)) (wrap32 ((wrap32 (Go.bits .and .u8 (rd l0 (wrap64 (a1 + 1))) 63)) * 64))) (wrap32 (Go.bits .and .u8 (rd l0 (wrap64 (a1 + 2))) 63)), 3)) else (if (Go.bits .or .i32 (Go.bits .or .i32 (wrap32 ((Go.bits .and .i32 (wrap32 (rd l0 a1)) 15) * 4096)) (wrap32 ((wrap32 (Go.bits .and .u8 (rd l0 (wrap64 (a1 + 1))) 63)) * 64))) (wrap32 (Go.bits .and .u8 (rd l0 (wrap64 (a1 + 2))) 63))) > 57343 then (some (Go.bits .or .i32 (Go.bits .or .i32 (wrap32 ((Go.bits .and .i32 (wrap32 (rd l0 a1)) 15) * 4096)) (wrap32 ((wrap32 (Go.bits .and .u8 (rd l0 (wrap64 (a1 + 1))) 63)) * 64))) (wrap32 (Go.bits .and .u8 (rd l0 (wrap64 (a1 + 2))) 63)), 3)) else (some (0, 0)))) else (some (0, 0))) else (none)) else (none)) else (none)) else (none)) = some (r1, r2) := by rw [if_pos rfl] at H; exact H
          clear H;have H := H1;clear H1
          obtain ⟨ji21, hji21⟩ : ∃ j_ : Int, (wrap64 (a1 + 1)) = j_ := ⟨_, rfl⟩
          replace H : (if 0 ≤ (ji21) then (if (ji21) < (l0.length : Int) then (if 0 ≤ (wrap64 (a1 + 2)) then (if (wrap64 (a1 + 2)) < (l0.length : Int) then (if (Go.bits .or .i32 (Go.bits .or .i32 (wrap32 ((Go.bits .and .i32 (wrap32 (rd l0 a1)) 15) * 4096)) (wrap32 ((wrap32 (Go.bits .and .u8 (rd l0 (ji21)) 63)) * 64))) (wrap32 (Go.bits .and .u8 (rd l0 (wrap64 (a1 + 2))) 63))) ≥ 2048 then (if (Go.bits .or .i32 (Go.bits .or .i32 (wrap32 ((Go.bits .and .i32 (wrap32 (rd l0 a1)) 15) * 4096)) (wrap32 ((wrap32 (Go.bits .and .u8 (rd l0 (ji21)) 63)) * 64))) (wrap32 (Go.bits .and .u8 (rd l0 (wrap64 (a1 + 2))) 63))) < 55296 then (some (Go.bits .or .i32 (Go.bits .or .i32 (wrap32 ((Go.bits .and .i32 (wrap32 (rd l0 a1)) 15) * 4096)) (wrap32 ((wrap32 (Go.bits .and .u8 (rd l0 (ji21)) 63)) * 64))) (wrap32 (Go.bits .and .u8 (rd l0 (wrap64 (a1 + 2))) 63)), 3)) else (if (Go.bits .or .i32 (Go.bits .or .i32 (wrap32 ((Go.bits .and .i32 (wrap32 (rd l0 a1)) 15) * 4096)) (wrap32 ((wrap32 (Go.bits .and .u8 (rd l0 (ji21)) 63)) * 64))) (wrap32 (Go.bits .and .u8 (rd l0 (wrap64 (a1 + 2))) 63))) > 57343 then (some (Go.bits .or .i32 (Go.bits .or .i32 (wrap32 ((Go.bits .and .i32 (wrap32 (rd l0 a1)) 15) * 4096)) (wrap32 ((wrap32 (Go.bits .and .u8 (rd l0 (ji21)) 63)) * 64))) (wrap32 (Go.bits .and .u8 (rd l0 (wrap64 (a1 + 2))) 63)), 3)) else (some (0, 0)))) else (some (0, 0))) else (none)) else (none)) else (none)) else (none)) = some (r1, r2) := by first | (rw [hji21] at H; exact H) | (simp only [hji21] at H ⊢; exact H)
          have hji21w : (IntKind.i64.wrap (a1 + 1)) = ji21 := (i64_w _).trans hji21;by_cases c22 : 0 ≤ (ji21)
          ·rw [if_pos c22] at H
           have c22b0 : decide (0 ≤ (ji21)) = true := decide_eq_true c22;clear c22;by_cases c23 : (ji21) < (l0.length : Int)
           ·rw [if_pos c23] at H
            have c23b0 : decide ((ji21) < (l0.length : Int)) = true := decide_eq_true c23;clear c23
            obtain ⟨ji24, hji24⟩ : ∃ j_ : Int, (wrap64 (a1 + 2)) = j_ := ⟨_, rfl⟩
            replace H : (if 0 ≤ (ji24) then (if (ji24) < (l0.length : Int) then (if (Go.bits .or .i32 (Go.bits .or .i32 (wrap32 ((Go.bits .and .i32 (wrap32 (rd l0 a1)) 15) * 4096)) (wrap32 ((wrap32 (Go.bits .and .u8 (rd l0 (ji21)) 63)) * 64))) (wrap32 (Go.bits .and .u8 (rd l0 (ji24)) 63))) ≥ 2048 then (if (Go.bits .or .i32 (Go.bits .or .i32 (wrap32 ((Go.bits .and .i32 (wrap32 (rd l0 a1)) 15) * 4096)) (wrap32 ((wrap32 (Go.bits .and .u8 (rd l0 (ji21)) 63)) * 64))) (wrap32 (Go.bits .and .u8 (rd l0 (ji24)) 63))) < 55296 then (some (Go.bits .or .i32 (Go.bits .or .i32 (wrap32 ((Go.bits .and .i32 (wrap32 (rd l0 a1)) 15) * 4096)) (wrap32 ((wrap32 (Go.bits .and .u8 (rd l0 (ji21)) 63)) * 64))) (wrap32 (Go.bits .and .u8 (rd l0 (ji24)) 63)), 3)) else (if (Go.bits .or .i32 (Go.bits .or .i32 (wrap32 ((Go.bits .and .i32 (wrap32 (rd l0 a1)) 15) * 4096)) (wrap32 ((wrap32 (Go.bits .and .u8 (rd l0 (ji21)) 63)) * 64))) (wrap32 (Go.bits .and .u8 (rd l0 (ji24)) 63))) > 57343 then (some (Go.bits .or .i32 (Go.bits .or .i32 (wrap32 ((Go.bits .and .i32 (wrap32 (rd l0 a1)) 15) * 4096)) (wrap32 ((wrap32 (Go.bits .and .u8 (rd l0 (ji21)) 63)) * 64))) (wrap32 (Go.bits .and .u8 (rd l0 (ji24)) 63)), 3)) else (some (0, 0)))) else (some (0, 0))) else (none)) else (none)) = some (r1, r2) := by first | (rw [hji24] at H; exact H) | (simp only [hji24] at H ⊢; exact H)
            have hji24w : (IntKind.i64.wrap (a1 + 2)) = ji24 := (i64_w _).trans hji24;by_cases c25 : 0 ≤ (ji24)
            ·rw [if_pos c25] at H
             have c25b0 : decide (0 ≤ (ji24)) = true := decide_eq_true c25;clear c25;by_cases c26 : (ji24) < (l0.length : Int)
             ·rw [if_pos c26] at H
              have c26b0 : decide ((ji24) < (l0.length : Int)) = true := decide_eq_true c26;clear c26;by_cases c27 : (Go.bits .or .i32 (Go.bits .or .i32 (wrap32 ((Go.bits .and .i32 (wrap32 (rd l0 a1)) 15) * 4096)) (wrap32 ((wrap32 (Go.bits .and .u8 (rd l0 (ji21)) 63)) * 64))) (wrap32 (Go.bits .and .u8 (rd l0 (ji24)) 63))) ≥ 2048
              ·rw [if_pos c27] at H
               have c27b0 : decide (2048 ≤ (Go.bits .or .i32 (Go.bits .or .i32 (wrap32 ((Go.bits .and .i32 (wrap32 (rd l0 a1)) 15) * 4096)) (wrap32 ((wrap32 (Go.bits .and .u8 (rd l0 (ji21)) 63)) * 64))) (wrap32 (Go.bits .and .u8 (rd l0 (ji24)) 63)))) = true := decide_eq_true c27;clear c27;by_cases c28 : (Go.bits .or .i32 (Go.bits .or .i32 (wrap32 ((Go.bits .and .i32 (wrap32 (rd l0 a1)) 15) * 4096)) (wrap32 ((wrap32 (Go.bits .and .u8 (rd l0 (ji21)) 63)) * 64))) (wrap32 (Go.bits .and .u8 (rd l0 (ji24)) 63))) < 55296
               ·rw [if_pos c28] at H
                have c28b0 : decide ((Go.bits .or .i32 (Go.bits .or .i32 (wrap32 ((Go.bits .and .i32 (wrap32 (rd l0 a1)) 15) * 4096)) (wrap32 ((wrap32 (Go.bits .and .u8 (rd l0 (ji21)) 63)) * 64))) (wrap32 (Go.bits .and .u8 (rd l0 (ji24)) 63))) < 55296) = true := decide_eq_true c28;clear c28;simp only [Option.some.injEq, Prod.mk.injEq] at H;obtain ⟨rfl, rfl⟩ := H;have p107 : 0 ≤ ((ji21) : Int) := of_decide_eq_true (by assumption);have q107 : (ji21) < (l0.length : Int) := of_decide_eq_true (by assumption);obtain ⟨ad107, e107, hx107_0⟩ := Kd.at_int HR0.out (ji21) p107 q107
                obtain rfl : ad102 = ad107 := (by injection e107)
                replace p107 := eq_true p107;replace q107 := eq_true q107;have p108 : 0 ≤ ((ji24) : Int) := of_decide_eq_true (by assumption);have q108 : (ji24) < (l0.length : Int) := of_decide_eq_true (by assumption);obtain ⟨ad108, e108, hx108_0⟩ := Kd.at_int HR0.out (ji24) p108 q108
                obtain rfl : ad102 = ad108 := (by injection e108)
                replace p108 := eq_true p108;replace q108 := eq_true q108;go_wp2
                repeat (go_quiet (fail); try go_wp2)
                go_ret2
                exact ⟨by first | rfl | (simp; done) | (simp only [← hji21, ← hji24] <;> (first | rfl | simp)) | (simp [*]; done), by repeat (first | exact Drawn0.refl _ | apply Drawn0.step)⟩
               ·rw [if_neg c28] at H
                have c28b0 : decide ((Go.bits .or .i32 (Go.bits .or .i32 (wrap32 ((Go.bits .and .i32 (wrap32 (rd l0 a1)) 15) * 4096)) (wrap32 ((wrap32 (Go.bits .and .u8 (rd l0 (ji21)) 63)) * 64))) (wrap32 (Go.bits .and .u8 (rd l0 (ji24)) 63))) < 55296) = false := decide_eq_false c28;clear c28;by_cases c29 : (Go.bits .or .i32 (Go.bits .or .i32 (wrap32 ((Go.bits .and .i32 (wrap32 (rd l0 a1)) 15) * 4096)) (wrap32 ((wrap32 (Go.bits .and .u8 (rd l0 (ji21)) 63)) * 64))) (wrap32 (Go.bits .and .u8 (rd l0 (ji24)) 63))) > 57343
                ·rw [if_pos c29] at H
                 have c29b0 : decide (57343 < (Go.bits .or .i32 (Go.bits .or .i32 (wrap32 ((Go.bits .and .i32 (wrap32 (rd l0 a1)) 15) * 4096)) (wrap32 ((wrap32 (Go.bits .and .u8 (rd l0 (ji21)) 63)) * 64))) (wrap32 (Go.bits .and .u8 (rd l0 (ji24)) 63)))) = true := decide_eq_true c29;clear c29;simp only [Option.some.injEq, Prod.mk.injEq] at H;obtain ⟨rfl, rfl⟩ := H;have p107 : 0 ≤ ((ji21) : Int) := of_decide_eq_true (by assumption);have q107 : (ji21) < (l0.length : Int) := of_decide_eq_true (by assumption);obtain ⟨ad107, e107, hx107_0⟩ := Kd.at_int HR0.out (ji21) p107 q107
                 obtain rfl : ad102 = ad107 := (by injection e107)
                 replace p107 := eq_true p107;replace q107 := eq_true q107;have p108 : 0 ≤ ((ji24) : Int) := of_decide_eq_true (by assumption);have q108 : (ji24) < (l0.length : Int) := of_decide_eq_true (by assumption);obtain ⟨ad108, e108, hx108_0⟩ := Kd.at_int HR0.out (ji24) p108 q108
                 obtain rfl : ad102 = ad108 := (by injection e108)
                 replace p108 := eq_true p108;replace q108 := eq_true q108;go_wp2
                 repeat (go_quiet (fail); try go_wp2)
                 go_ret2
                 exact ⟨by first | rfl | (simp; done) | (simp only [← hji21, ← hji24] <;> (first | rfl | simp)) | (simp [*]; done), by repeat (first | exact Drawn0.refl _ | apply Drawn0.step)⟩
                ·rw [if_neg c29] at H
                 have c29b0 : decide (57343 < (Go.bits .or .i32 (Go.bits .or .i32 (wrap32 ((Go.bits .and .i32 (wrap32 (rd l0 a1)) 15) * 4096)) (wrap32 ((wrap32 (Go.bits .and .u8 (rd l0 (ji21)) 63)) * 64))) (wrap32 (Go.bits .and .u8 (rd l0 (ji24)) 63)))) = false := decide_eq_false c29;clear c29;simp only [Option.some.injEq, Prod.mk.injEq] at H;obtain ⟨rfl, rfl⟩ := H;have p107 : 0 ≤ ((ji21) : Int) := of_decide_eq_true (by assumption);have q107 : (ji21) < (l0.length : Int) := of_decide_eq_true (by assumption);obtain ⟨ad107, e107, hx107_0⟩ := Kd.at_int HR0.out (ji21) p107 q107
                 obtain rfl : ad102 = ad107 := (by injection e107)
                 replace p107 := eq_true p107;replace q107 := eq_true q107;have p108 : 0 ≤ ((ji24) : Int) := of_decide_eq_true (by assumption);have q108 : (ji24) < (l0.length : Int) := of_decide_eq_true (by assumption);obtain ⟨ad108, e108, hx108_0⟩ := Kd.at_int HR0.out (ji24) p108 q108
                 obtain rfl : ad102 = ad108 := (by injection e108)
                 replace p108 := eq_true p108;replace q108 := eq_true q108;go_wp2
                 repeat (go_quiet (fail); try go_wp2)
                 go_ret2
                 exact ⟨by first | rfl | (simp; done) | (simp only [← hji21, ← hji24] <;> (first | rfl | simp)) | (simp [*]; done), by repeat (first | exact Drawn0.refl _ | apply Drawn0.step)⟩
              ·rw [if_neg c27] at H
               have c27b0 : decide (2048 ≤ (Go.bits .or .i32 (Go.bits .or .i32 (wrap32 ((Go.bits .and .i32 (wrap32 (rd l0 a1)) 15) * 4096)) (wrap32 ((wrap32 (Go.bits .and .u8 (rd l0 (ji21)) 63)) * 64))) (wrap32 (Go.bits .and .u8 (rd l0 (ji24)) 63)))) = false := decide_eq_false c27;clear c27;simp only [Option.some.injEq, Prod.mk.injEq] at H;obtain ⟨rfl, rfl⟩ := H;have p107 : 0 ≤ ((ji21) : Int) := of_decide_eq_true (by assumption);have q107 : (ji21) < (l0.length : Int) := of_decide_eq_true (by assumption);obtain ⟨ad107, e107, hx107_0⟩ := Kd.at_int HR0.out (ji21) p107 q107
               obtain rfl : ad102 = ad107 := (by injection e107)
               replace p107 := eq_true p107;replace q107 := eq_true q107;have p108 : 0 ≤ ((ji24) : Int) := of_decide_eq_true (by assumption);have q108 : (ji24) < (l0.length : Int) := of_decide_eq_true (by assumption);obtain ⟨ad108, e108, hx108_0⟩ := Kd.at_int HR0.out (ji24) p108 q108
               obtain rfl : ad102 = ad108 := (by injection e108)
               replace p108 := eq_true p108;replace q108 := eq_true q108;go_wp2
               repeat (go_quiet (fail); try go_wp2)
               go_ret2
               exact ⟨by first | rfl | (simp; done) | (simp only [← hji21, ← hji24] <;> (first | rfl | simp)) | (simp [*]; done), by repeat (first | exact Drawn0.refl _ | apply Drawn0.step)⟩
             ·rw [if_neg c26] at H
              exact absurd H (by simp)
            ·rw [if_neg c25] at H
             exact absurd H (by simp)
           ·rw [if_neg c23] at H
            exact absurd H (by simp)
          ·rw [if_neg c22] at H
           exact absurd H (by simp)
         ·replace c20 := Bool.eq_false_iff.mpr c20
          subst c20
          have H1 : (if (wrap32 (rd l0 a1)) ≥ 240 then (if (wrap32 (rd l0 a1)) ≤ 244 then ((utf_more.f l0 (wrap64 (a1 + 1))).bind fun t109 => (if t109 = true then ((utf_more.f l0 (wrap64 (a1 + 2))).bind fun t110 => (if t110 = true then ((utf_more.f l0 (wrap64 (a1 + 3))).bind fun t111 => (utf_letter.j2 kj13 l0 a1 (wrap32 (rd l0 a1)) t111)) else (utf_letter.j2 kj13 l0 a1 (wrap32 (rd l0 a1)) false))) else (utf_letter.j2 kj13 l0 a1 (wrap32 (rd l0 a1)) false))) else (utf_letter.j2 kj13 l0 a1 (wrap32 (rd l0 a1)) false)) else (utf_letter.j2 kj13 l0 a1 (wrap32 (rd l0 a1)) false)) = some (r1, r2) := by rw [if_neg (show ¬ (false = true) by decide)] at H; exact H
          clear H;have H := H1;clear H1;have HC30 := Sdq.mk H;clear H
          go_upto_region 10 with (fail)
          repeat (go_quiet (fail); go_upto_region 10 with (fail))
          go_cut [92] (fun v92 wc => ∃ (kq : Nat) (x92_29 : Bool), v92 = .bool x92_29 ∧ Sdq (utf_letter.j2 kq l0 a1 (wrap32 (rd l0 a1)) x92_29 = some (r1, r2)) ∧ Sdq (kq ≤ kj13) ∧ Drawn0 w wc)
          case first =>
           have H := HC30.out;clear HC30;by_cases c31 : (wrap32 (rd l0 a1)) ≥ 240
           ·rw [if_pos c31] at H
            have c31b0 : decide (240 ≤ (wrap32 (rd l0 a1))) = true := decide_eq_true c31;clear c31
            (first | rw [c31b0] | (simp only [i64_w, i32_w]; rw [c31b0]) | skip)
            by_cases c32 : (wrap32 (rd l0 a1)) ≤ 244
            ·rw [if_pos c32] at H
             have c32b0 : decide ((wrap32 (rd l0 a1)) ≤ 244) = true := decide_eq_true c32;clear c32;replace H := Option.bind_eq_some_iff.mp H;obtain ⟨t109, A330, H⟩ := H;replace H : (if t109 = true then ((utf_more.f l0 (wrap64 (a1 + 2))).bind fun t110 => (if t110 = true then ((utf_more.f l0 (wrap64 (a1 + 3))).bind fun t111 => (utf_letter.j2 kj13 l0 a1 (wrap32 (rd l0 a1)) t111)) else (utf_letter.j2 kj13 l0 a1 (wrap32 (rd l0 a1)) false))) else (utf_letter.j2 kj13 l0 a1 (wrap32 (rd l0 a1)) false)) = some (r1, r2) := H;have A33 := Sdq.mk A330;clear A330;by_cases c34 : t109 = true
             ·subst c34
              have H1 : ((utf_more.f l0 (wrap64 (a1 + 2))).bind fun t110 => (if t110 = true then ((utf_more.f l0 (wrap64 (a1 + 3))).bind fun t111 => (utf_letter.j2 kj13 l0 a1 (wrap32 (rd l0 a1)) t111)) else (utf_letter.j2 kj13 l0 a1 (wrap32 (rd l0 a1)) false))) = some (r1, r2) := by rw [if_pos rfl] at H; exact H
              clear H;have H := H1;clear H1;replace H := Option.bind_eq_some_iff.mp H;obtain ⟨t110, A350, H⟩ := H;replace H : (if t110 = true then ((utf_more.f l0 (wrap64 (a1 + 3))).bind fun t111 => (utf_letter.j2 kj13 l0 a1 (wrap32 (rd l0 a1)) t111)) else (utf_letter.j2 kj13 l0 a1 (wrap32 (rd l0 a1)) false)) = some (r1, r2) := H;have A35 := Sdq.mk A350;clear A350;by_cases c36 : t110 = true
              ·subst c36
               have H1 : ((utf_more.f l0 (wrap64 (a1 + 3))).bind fun t111 => (utf_letter.j2 kj13 l0 a1 (wrap32 (rd l0 a1)) t111)) = some (r1, r2) := by rw [if_pos rfl] at H; exact H
               clear H;have H := H1;clear H1;replace H := Option.bind_eq_some_iff.mp H;obtain ⟨t111, A370, H⟩ := H;replace H : (utf_letter.j2 kj13 l0 a1 (wrap32 (rd l0 a1)) t111) = some (r1, r2) := H;have A37 := Sdq.mk A370;clear A370;have H' := Sdq.mk H;clear H;go_wp2_with (first | (go_at_call 96; (with_reducible refine (utf_more.calls _ _ l0 (wrap64 (a1 + 1)) true _ ?side1 ?side2 A33.out).mono ?_); (case side1 => repeat (first | exact HR0.out | (with_reducible refine Kd.C_alloc ?_ _) | (with_reducible refine Kd.C_drewN ?_ _) | (with_reducible refine Kd.C_drew ?_))); (case side2 => exact HC0.out); rintro e w' ⟨rfl, ⟨nd, rfl⟩⟩; (try first | exact ⟨rfl, _, World.drewN_drewN _ _ _⟩ | exact ⟨rfl, _, Eq.trans (World.drewN_drewN _ _ _) (congrArg (World.drewN _) (Nat.add_assoc _ _ _))⟩)) | (go_at_call 96; (with_reducible refine (utf_more.calls _ _ l0 (wrap64 (a1 + 2)) true _ ?side1 ?side2 A35.out).mono ?_); (case side1 => repeat (first | exact HR0.out | (with_reducible refine Kd.C_alloc ?_ _) | (with_reducible refine Kd.C_drewN ?_ _) | (with_reducible refine Kd.C_drew ?_))); (case side2 => exact HC0.out); rintro e w' ⟨rfl, ⟨nd, rfl⟩⟩; (try first | exact ⟨rfl, _, World.drewN_drewN _ _ _⟩ | exact ⟨rfl, _, Eq.trans (World.drewN_drewN _ _ _) (congrArg (World.drewN _) (Nat.add_assoc _ _ _))⟩)) | (go_at_call 96; (with_reducible refine (utf_more.calls _ _ l0 (wrap64 (a1 + 3)) t111 _ ?side1 ?side2 A37.out).mono ?_); (case side1 => repeat (first | exact HR0.out | (with_reducible refine Kd.C_alloc ?_ _) | (with_reducible refine Kd.C_drewN ?_ _) | (with_reducible refine Kd.C_drew ?_))); (case side2 => exact HC0.out); rintro e w' ⟨rfl, ⟨nd, rfl⟩⟩; (try first | exact ⟨rfl, _, World.drewN_drewN _ _ _⟩ | exact ⟨rfl, _, Eq.trans (World.drewN_drewN _ _ _) (congrArg (World.drewN _) (Nat.add_assoc _ _ _))⟩)))
               repeat (go_quiet (first | (go_at_call 96; (with_reducible refine (utf_more.calls _ _ l0 (wrap64 (a1 + 1)) true _ ?side1 ?side2 A33.out).mono ?_); (case side1 => repeat (first | exact HR0.out | (with_reducible refine Kd.C_alloc ?_ _) | (with_reducible refine Kd.C_drewN ?_ _) | (with_reducible refine Kd.C_drew ?_))); (case side2 => exact HC0.out); rintro e w' ⟨rfl, ⟨nd, rfl⟩⟩; (try first | exact ⟨rfl, _, World.drewN_drewN _ _ _⟩ | exact ⟨rfl, _, Eq.trans (World.drewN_drewN _ _ _) (congrArg (World.drewN _) (Nat.add_assoc _ _ _))⟩)) | (go_at_call 96; (with_reducible refine (utf_more.calls _ _ l0 (wrap64 (a1 + 2)) true _ ?side1 ?side2 A35.out).mono ?_); (case side1 => repeat (first | exact HR0.out | (with_reducible refine Kd.C_alloc ?_ _) | (with_reducible refine Kd.C_drewN ?_ _) | (with_reducible refine Kd.C_drew ?_))); (case side2 => exact HC0.out); rintro e w' ⟨rfl, ⟨nd, rfl⟩⟩; (try first | exact ⟨rfl, _, World.drewN_drewN _ _ _⟩ | exact ⟨rfl, _, Eq.trans (World.drewN_drewN _ _ _) (congrArg (World.drewN _) (Nat.add_assoc _ _ _))⟩)) | (go_at_call 96; (with_reducible refine (utf_more.calls _ _ l0 (wrap64 (a1 + 3)) t111 _ ?side1 ?side2 A37.out).mono ?_); (case side1 => repeat (first | exact HR0.out | (with_reducible refine Kd.C_alloc ?_ _) | (with_reducible refine Kd.C_drewN ?_ _) | (with_reducible refine Kd.C_drew ?_))); (case side2 => exact HC0.out); rintro e w' ⟨rfl, ⟨nd, rfl⟩⟩; (try first | exact ⟨rfl, _, World.drewN_drewN _ _ _⟩ | exact ⟨rfl, _, Eq.trans (World.drewN_drewN _ _ _) (congrArg (World.drewN _) (Nat.add_assoc _ _ _))⟩))); try go_wp2_with (first | (go_at_call 96; (with_reducible refine (utf_more.calls _ _ l0 (wrap64 (a1 + 1)) true _ ?side1 ?side2 A33.out).mono ?_); (case side1 => repeat (first | exact HR0.out | (with_reducible refine Kd.C_alloc ?_ _) | (with_reducible refine Kd.C_drewN ?_ _) | (with_reducible refine Kd.C_drew ?_))); (case side2 => exact HC0.out); rintro e w' ⟨rfl, ⟨nd, rfl⟩⟩; (try first | exact ⟨rfl, _, World.drewN_drewN _ _ _⟩ | exact ⟨rfl, _, Eq.trans (World.drewN_drewN _ _ _) (congrArg (World.drewN _) (Nat.add_assoc _ _ _))⟩)) | (go_at_call 96; (with_reducible refine (utf_more.calls _ _ l0 (wrap64 (a1 + 2)) true _ ?side1 ?side2 A35.out).mono ?_); (case side1 => repeat (first | exact HR0.out | (with_reducible refine Kd.C_alloc ?_ _) | (with_reducible refine Kd.C_drewN ?_ _) | (with_reducible refine Kd.C_drew ?_))); (case side2 => exact HC0.out); rintro e w' ⟨rfl, ⟨nd, rfl⟩⟩; (try first | exact ⟨rfl, _, World.drewN_drewN _ _ _⟩ | exact ⟨rfl, _, Eq.trans (World.drewN_drewN _ _ _) (congrArg (World.drewN _) (Nat.add_assoc _ _ _))⟩)) | (go_at_call 96; (with_reducible refine (utf_more.calls _ _ l0 (wrap64 (a1 + 3)) t111 _ ?side1 ?side2 A37.out).mono ?_); (case side1 => repeat (first | exact HR0.out | (with_reducible refine Kd.C_alloc ?_ _) | (with_reducible refine Kd.C_drewN ?_ _) | (with_reducible refine Kd.C_drew ?_))); (case side2 => exact HC0.out); rintro e w' ⟨rfl, ⟨nd, rfl⟩⟩; (try first | exact ⟨rfl, _, World.drewN_drewN _ _ _⟩ | exact ⟨rfl, _, Eq.trans (World.drewN_drewN _ _ _) (congrArg (World.drewN _) (Nat.add_assoc _ _ _))⟩))))
               go_meet
               case rel => exact ⟨_, (t111), (by first | rfl | (simp; done) | (simp [*]; done)), H', ⟨by have := HJ5.out; have := HJ13.out; first | omega | exact Nat.le_refl _⟩, by repeat (first | exact Drawn0.refl _ | apply Drawn0.step)⟩
              ·replace c36 := Bool.eq_false_iff.mpr c36
               subst c36
               have H1 : (utf_letter.j2 kj13 l0 a1 (wrap32 (rd l0 a1)) false) = some (r1, r2) := by rw [if_neg (show ¬ (false = true) by decide)] at H; exact H
               clear H;have H := H1;clear H1;have H' := Sdq.mk H;clear H;go_wp2_with (first | (go_at_call 96; (with_reducible refine (utf_more.calls _ _ l0 (wrap64 (a1 + 1)) true _ ?side1 ?side2 A33.out).mono ?_); (case side1 => repeat (first | exact HR0.out | (with_reducible refine Kd.C_alloc ?_ _) | (with_reducible refine Kd.C_drewN ?_ _) | (with_reducible refine Kd.C_drew ?_))); (case side2 => exact HC0.out); rintro e w' ⟨rfl, ⟨nd, rfl⟩⟩; (try first | exact ⟨rfl, _, World.drewN_drewN _ _ _⟩ | exact ⟨rfl, _, Eq.trans (World.drewN_drewN _ _ _) (congrArg (World.drewN _) (Nat.add_assoc _ _ _))⟩)) | (go_at_call 96; (with_reducible refine (utf_more.calls _ _ l0 (wrap64 (a1 + 2)) false _ ?side1 ?side2 A35.out).mono ?_); (case side1 => repeat (first | exact HR0.out | (with_reducible refine Kd.C_alloc ?_ _) | (with_reducible refine Kd.C_drewN ?_ _) | (with_reducible refine Kd.C_drew ?_))); (case side2 => exact HC0.out); rintro e w' ⟨rfl, ⟨nd, rfl⟩⟩; (try first | exact ⟨rfl, _, World.drewN_drewN _ _ _⟩ | exact ⟨rfl, _, Eq.trans (World.drewN_drewN _ _ _) (congrArg (World.drewN _) (Nat.add_assoc _ _ _))⟩)))
               repeat (go_quiet (first | (go_at_call 96; (with_reducible refine (utf_more.calls _ _ l0 (wrap64 (a1 + 1)) true _ ?side1 ?side2 A33.out).mono ?_); (case side1 => repeat (first | exact HR0.out | (with_reducible refine Kd.C_alloc ?_ _) | (with_reducible refine Kd.C_drewN ?_ _) | (with_reducible refine Kd.C_drew ?_))); (case side2 => exact HC0.out); rintro e w' ⟨rfl, ⟨nd, rfl⟩⟩; (try first | exact ⟨rfl, _, World.drewN_drewN _ _ _⟩ | exact ⟨rfl, _, Eq.trans (World.drewN_drewN _ _ _) (congrArg (World.drewN _) (Nat.add_assoc _ _ _))⟩)) | (go_at_call 96; (with_reducible refine (utf_more.calls _ _ l0 (wrap64 (a1 + 2)) false _ ?side1 ?side2 A35.out).mono ?_); (case side1 => repeat (first | exact HR0.out | (with_reducible refine Kd.C_alloc ?_ _) | (with_reducible refine Kd.C_drewN ?_ _) | (with_reducible refine Kd.C_drew ?_))); (case side2 => exact HC0.out); rintro e w' ⟨rfl, ⟨nd, rfl⟩⟩; (try first | exact ⟨rfl, _, World.drewN_drewN _ _ _⟩ | exact ⟨rfl, _, Eq.trans (World.drewN_drewN _ _ _) (congrArg (World.drewN _) (Nat.add_assoc _ _ _))⟩))); try go_wp2_with (first | (go_at_call 96; (with_reducible refine (utf_more.calls _ _ l0 (wrap64 (a1 + 1)) true _ ?side1 ?side2 A33.out).mono ?_); (case side1 => repeat (first | exact HR0.out | (with_reducible refine Kd.C_alloc ?_ _) | (with_reducible refine Kd.C_drewN ?_ _) | (with_reducible refine Kd.C_drew ?_))); (case side2 => exact HC0.out); rintro e w' ⟨rfl, ⟨nd, rfl⟩⟩; (try first | exact ⟨rfl, _, World.drewN_drewN _ _ _⟩ | exact ⟨rfl, _, Eq.trans (World.drewN_drewN _ _ _) (congrArg (World.drewN _) (Nat.add_assoc _ _ _))⟩)) | (go_at_call 96; (with_reducible refine (utf_more.calls _ _ l0 (wrap64 (a1 + 2)) false _ ?side1 ?side2 A35.out).mono ?_); (case side1 => repeat (first | exact HR0.out | (with_reducible refine Kd.C_alloc ?_ _) | (with_reducible refine Kd.C_drewN ?_ _) | (with_reducible refine Kd.C_drew ?_))); (case side2 => exact HC0.out); rintro e w' ⟨rfl, ⟨nd, rfl⟩⟩; (try first | exact ⟨rfl, _, World.drewN_drewN _ _ _⟩ | exact ⟨rfl, _, Eq.trans (World.drewN_drewN _ _ _) (congrArg (World.drewN _) (Nat.add_assoc _ _ _))⟩))))
               go_meet
               case rel => exact ⟨_, (false), (by first | rfl | (simp; done) | (simp [*]; done)), H', ⟨by have := HJ5.out; have := HJ13.out; first | omega | exact Nat.le_refl _⟩, by repeat (first | exact Drawn0.refl _ | apply Drawn0.step)⟩
             ·replace c34 := Bool.eq_false_iff.mpr c34
              subst c34
              have H1 : (utf_letter.j2 kj13 l0 a1 (wrap32 (rd l0 a1)) false) = some (r1, r2) := by rw [if_neg (show ¬ (false = true) by decide)] at H; exact H
              clear H;have H := H1;clear H1;have H' := Sdq.mk H;clear H;go_wp2_with (first | (go_at_call 96; (with_reducible refine (utf_more.calls _ _ l0 (wrap64 (a1 + 1)) false _ ?side1 ?side2 A33.out).mono ?_); (case side1 => repeat (first | exact HR0.out | (with_reducible refine Kd.C_alloc ?_ _) | (with_reducible refine Kd.C_drewN ?_ _) | (with_reducible refine Kd.C_drew ?_))); (case side2 => exact HC0.out); rintro e w' ⟨rfl, ⟨nd, rfl⟩⟩; (try first | exact ⟨rfl, _, World.drewN_drewN _ _ _⟩ | exact ⟨rfl, _, Eq.trans (World.drewN_drewN _ _ _) (congrArg (World.drewN _) (Nat.add_assoc _ _ _))⟩)))
              repeat (go_quiet (first | (go_at_call 96; (with_reducible refine (utf_more.calls _ _ l0 (wrap64 (a1 + 1)) false _ ?side1 ?side2 A33.out).mono ?_); (case side1 => repeat (first | exact HR0.out | (with_reducible refine Kd.C_alloc ?_ _) | (with_reducible refine Kd.C_drewN ?_ _) | (with_reducible refine Kd.C_drew ?_))); (case side2 => exact HC0.out); rintro e w' ⟨rfl, ⟨nd, rfl⟩⟩; (try first | exact ⟨rfl, _, World.drewN_drewN _ _ _⟩ | exact ⟨rfl, _, Eq.trans (World.drewN_drewN _ _ _) (congrArg (World.drewN _) (Nat.add_assoc _ _ _))⟩))); try go_wp2_with (first | (go_at_call 96; (with_reducible refine (utf_more.calls _ _ l0 (wrap64 (a1 + 1)) false _ ?side1 ?side2 A33.out).mono ?_); (case side1 => repeat (first | exact HR0.out | (with_reducible refine Kd.C_alloc ?_ _) | (with_reducible refine Kd.C_drewN ?_ _) | (with_reducible refine Kd.C_drew ?_))); (case side2 => exact HC0.out); rintro e w' ⟨rfl, ⟨nd, rfl⟩⟩; (try first | exact ⟨rfl, _, World.drewN_drewN _ _ _⟩ | exact ⟨rfl, _, Eq.trans (World.drewN_drewN _ _ _) (congrArg (World.drewN _) (Nat.add_assoc _ _ _))⟩))))
              go_meet
              case rel => exact ⟨_, (false), (by first | rfl | (simp; done) | (simp [*]; done)), H', ⟨by have := HJ5.out; have := HJ13.out; first | omega | exact Nat.le_refl _⟩, by repeat (first | exact Drawn0.refl _ | apply Drawn0.step)⟩
            ·rw [if_neg c32] at H
             have c32b0 : decide ((wrap32 (rd l0 a1)) ≤ 244) = false := decide_eq_false c32;clear c32;have H' := Sdq.mk H;clear H;go_wp2
             repeat (go_quiet (fail); try go_wp2)
             go_meet
             case rel => exact ⟨_, (false), (by first | rfl | (simp; done) | (simp [*]; done)), H', ⟨by have := HJ5.out; have := HJ13.out; first | omega | exact Nat.le_refl _⟩, by repeat (first | exact Drawn0.refl _ | apply Drawn0.step)⟩
           ·rw [if_neg c31] at H
            have c31b0 : decide (240 ≤ (wrap32 (rd l0 a1))) = false := decide_eq_false c31;clear c31
            (first | rw [c31b0] | (simp only [i64_w, i32_w]; rw [c31b0]) | skip)
            have H' := Sdq.mk H;clear H;go_wp2
            repeat (go_quiet (fail); try go_wp2)
            go_meet
            case rel => exact ⟨_, (false), (by first | rfl | (simp; done) | (simp [*]; done)), H', ⟨by have := HJ5.out; have := HJ13.out; first | omega | exact Nat.le_refl _⟩, by repeat (first | exact Drawn0.refl _ | apply Drawn0.step)⟩
          case rest =>
           clear HC30
           try clear c1; try clear p1; try clear q1; try clear hx1; try clear c2; try clear p2; try clear c3; try clear c3b0; try clear p3; try clear c4; try clear c4b0; try clear c5; try clear c5b0; try clear p6; try clear c7; try clear c7b0; try clear c8; try clear c8b0; try clear c10; try clear p10; try clear q10; try clear hx10; try clear c12; try clear c12b0; try clear c13; try clear c13b0; try clear c15; try clear c15b0; try clear c16; try clear c16b0; try clear c18; try clear c20; try clear c22; try clear c22b0; try clear c23; try clear c23b0; try clear c25; try clear c25b0; try clear c26; try clear c26b0; try clear c27; try clear c27b0; try clear c28; try clear c28b0; try clear c29; try clear c29b0; try clear c31; try clear c31b0; try clear c32; try clear c32b0; try clear p32; try clear c34; try clear c36; try clear hx102_0; try clear hx104_0; try clear hx107_0; try clear hx108_0; try clear p1; try clear p10; try clear p102; try clear p104; try clear p107; try clear p108; try clear p2; try clear p3; try clear p6; try clear q1; try clear q10; try clear q102; try clear q104; try clear q107; try clear q108
           obtain ⟨kq, x92_29, rfl, HA, HJ29, ⟨mc29, rfl⟩⟩ := hcut
           cases kq with
           | zero => exact absurd HA.out (by simp [utf_letter.j2])
           | succ kj29 =>
            have H := HA.out;clear HA;simp only [utf_letter.j2] at H;by_cases c38 : x92_29 = true
            ·subst c38
             have H1 : (if 0 ≤ (wrap64 (a1 + 1)) then (if (wrap64 (a1 + 1)) < (l0.length : Int) then (if 0 ≤ (wrap64 (a1 + 2)) then (if (wrap64 (a1 + 2)) < (l0.length : Int) then (if 0 ≤ (wrap64 (a1 + 3)) then (if (wrap64 (a1 + 3)) < (l0.length : Int) then (if (Go.bits .or .i32 (Go.bits .or .i32 (Go.bits .or .i32 (wrap32 ((Go.bits .and .i32 (wrap32 (rd l0 a1)) 7) * 262144)) (wrap32 ((wrap32 (Go.bits .and .u8 (rd l0 (wrap64 (a1 + 1))) 63)) * 4096))) (wrap32 ((wrap32 (Go.bits .and .u8 (rd l0 (wrap64 (a1 + 2))) 63)) * 64))) (wrap32 (Go.bits .and .u8 (rd l0 (wrap64 (a1 + 3))) 63))) ≥ 65536 then (if (Go.bits .or .i32 (Go.bits .or .i32 (Go.bits .or .i32 (wrap32 ((Go.bits .and .i32 (wrap32 (rd l0 a1)) 7) * 262144)) (wrap32 ((wrap32 (Go.bits .and .u8 (rd l0 (wrap64 (a1 + 1))) 63)) * 4096))) (wrap32 ((wrap32 (Go.bits .and .u8 (rd l0 (wrap64 (a1 + 2))) 63)) * 64))) (wrap32 (Go.bits .and .u8 (rd l0 (wrap64 (a1 + 3))) 63))) ≤ 1114111 then (some (Go.bits .or .i32 (Go.bits .or .i32 (Go.bits .or .i32 (wrap32 ((Go.bits .and .i32 (wrap32 (rd l0 a1)) 7) * 262144)) (wrap32 ((wrap32 (Go.bits .and .u8 (rd l0 (wrap64 (a1 + 1))) 63)) * 4096))) (wrap32 ((wrap32 (Go.bits .and .u8 (rd l0 (wrap64 (a1 + 2))) 63)) * 64))) (wrap32 (Go.bits .and .u8 (rd l0 (wrap64 (a1 + 3))) 63)), 4)) else (some (0, 0))) else (some (0, 0))) else (none)) else (none)) else (none)) else (none)) else (none)) else (none)) = some (r1, r2) := by rw [if_pos rfl] at H; exact H
             clear H;have H := H1;clear H1
             obtain ⟨ji39, hji39⟩ : ∃ j_ : Int, (wrap64 (a1 + 1)) = j_ := ⟨_, rfl⟩
             replace H : (if 0 ≤ (ji39) then (if (ji39) < (l0.length : Int) then (if 0 ≤ (wrap64 (a1 + 2)) then (if (wrap64 (a1 + 2)) < (l0.length : Int) then (if 0 ≤ (wrap64 (a1 + 3)) then (if (wrap64 (a1 + 3)) < (l0.length : Int) then (if (Go.bits .or .i32 (Go.bits .or .i32 (Go.bits .or .i32 (wrap32 ((Go.bits .and .i32 (wrap32 (rd l0 a1)) 7) * 262144)) (wrap32 ((wrap32 (Go.bits .and .u8 (rd l0 (ji39)) 63)) * 4096))) (wrap32 ((wrap32 (Go.bits .and .u8 (rd l0 (wrap64 (a1 + 2))) 63)) * 64))) (wrap32 (Go.bits .and .u8 (rd l0 (wrap64 (a1 + 3))) 63))) ≥ 65536 then (if (Go.bits .or .i32 (Go.bits .or .i32 (Go.bits .or .i32 (wrap32 ((Go.bits .and .i32 (wrap32 (rd l0 a1)) 7) * 262144)) (wrap32 ((wrap32 (Go.bits .and .u8 (rd l0 (ji39)) 63)) * 4096))) (wrap32 ((wrap32 (Go.bits .and .u8 (rd l0 (wrap64 (a1 + 2))) 63)) * 64))) (wrap32 (Go.bits .and .u8 (rd l0 (wrap64 (a1 + 3))) 63))) ≤ 1114111 then (some (Go.bits .or .i32 (Go.bits .or .i32 (Go.bits .or .i32 (wrap32 ((Go.bits .and .i32 (wrap32 (rd l0 a1)) 7) * 262144)) (wrap32 ((wrap32 (Go.bits .and .u8 (rd l0 (ji39)) 63)) * 4096))) (wrap32 ((wrap32 (Go.bits .and .u8 (rd l0 (wrap64 (a1 + 2))) 63)) * 64))) (wrap32 (Go.bits .and .u8 (rd l0 (wrap64 (a1 + 3))) 63)), 4)) else (some (0, 0))) else (some (0, 0))) else (none)) else (none)) else (none)) else (none)) else (none)) else (none)) = some (r1, r2) := by first | (rw [hji39] at H; exact H) | (simp only [hji39] at H ⊢; exact H)
             have hji39w : (IntKind.i64.wrap (a1 + 1)) = ji39 := (i64_w _).trans hji39;by_cases c40 : 0 ≤ (ji39)
             ·rw [if_pos c40] at H
              have c40b0 : decide (0 ≤ (ji39)) = true := decide_eq_true c40;clear c40;by_cases c41 : (ji39) < (l0.length : Int)
              ·rw [if_pos c41] at H
               have c41b0 : decide ((ji39) < (l0.length : Int)) = true := decide_eq_true c41;clear c41
               obtain ⟨ji42, hji42⟩ : ∃ j_ : Int, (wrap64 (a1 + 2)) = j_ := ⟨_, rfl⟩
               replace H : (if 0 ≤ (ji42) then (if (ji42) < (l0.length : Int) then (if 0 ≤ (wrap64 (a1 + 3)) then (if (wrap64 (a1 + 3)) < (l0.length : Int) then (if (Go.bits .or .i32 (Go.bits .or .i32 (Go.bits .or .i32 (wrap32 ((Go.bits .and .i32 (wrap32 (rd l0 a1)) 7) * 262144)) (wrap32 ((wrap32 (Go.bits .and .u8 (rd l0 (ji39)) 63)) * 4096))) (wrap32 ((wrap32 (Go.bits .and .u8 (rd l0 (ji42)) 63)) * 64))) (wrap32 (Go.bits .and .u8 (rd l0 (wrap64 (a1 + 3))) 63))) ≥ 65536 then (if (Go.bits .or .i32 (Go.bits .or .i32 (Go.bits .or .i32 (wrap32 ((Go.bits .and .i32 (wrap32 (rd l0 a1)) 7) * 262144)) (wrap32 ((wrap32 (Go.bits .and .u8 (rd l0 (ji39)) 63)) * 4096))) (wrap32 ((wrap32 (Go.bits .and .u8 (rd l0 (ji42)) 63)) * 64))) (wrap32 (Go.bits .and .u8 (rd l0 (wrap64 (a1 + 3))) 63))) ≤ 1114111 then (some (Go.bits .or .i32 (Go.bits .or .i32 (Go.bits .or .i32 (wrap32 ((Go.bits .and .i32 (wrap32 (rd l0 a1)) 7) * 262144)) (wrap32 ((wrap32 (Go.bits .and .u8 (rd l0 (ji39)) 63)) * 4096))) (wrap32 ((wrap32 (Go.bits .and .u8 (rd l0 (ji42)) 63)) * 64))) (wrap32 (Go.bits .and .u8 (rd l0 (wrap64 (a1 + 3))) 63)), 4)) else (some (0, 0))) else (some (0, 0))) else (none)) else (none)) else (none)) else (none)) = some (r1, r2) := by first | (rw [hji42] at H; exact H) | (simp only [hji42] at H ⊢; exact H)
               have hji42w : (IntKind.i64.wrap (a1 + 2)) = ji42 := (i64_w _).trans hji42;by_cases c43 : 0 ≤ (ji42)
               ·rw [if_pos c43] at H
                have c43b0 : decide (0 ≤ (ji42)) = true := decide_eq_true c43;clear c43;by_cases c44 : (ji42) < (l0.length : Int)
                ·rw [if_pos c44] at H
                 have c44b0 : decide ((ji42) < (l0.length : Int)) = true := decide_eq_true c44;clear c44
                 obtain ⟨ji45, hji45⟩ : ∃ j_ : Int, (wrap64 (a1 + 3)) = j_ := ⟨_, rfl⟩
                 replace H : (if 0 ≤ (ji45) then (if (ji45) < (l0.length : Int) then (if (Go.bits .or .i32 (Go.bits .or .i32 (Go.bits .or .i32 (wrap32 ((Go.bits .and .i32 (wrap32 (rd l0 a1)) 7) * 262144)) (wrap32 ((wrap32 (Go.bits .and .u8 (rd l0 (ji39)) 63)) * 4096))) (wrap32 ((wrap32 (Go.bits .and .u8 (rd l0 (ji42)) 63)) * 64))) (wrap32 (Go.bits .and .u8 (rd l0 (ji45)) 63))) ≥ 65536 then (if (Go.bits .or .i32 (Go.bits .or .i32 (Go.bits .or .i32 (wrap32 ((Go.bits .and .i32 (wrap32 (rd l0 a1)) 7) * 262144)) (wrap32 ((wrap32 (Go.bits .and .u8 (rd l0 (ji39)) 63)) * 4096))) (wrap32 ((wrap32 (Go.bits .and .u8 (rd l0 (ji42)) 63)) * 64))) (wrap32 (Go.bits .and .u8 (rd l0 (ji45)) 63))) ≤ 1114111 then (some (Go.bits .or .i32 (Go.bits .or .i32 (Go.bits .or .i32 (wrap32 ((Go.bits .and .i32 (wrap32 (rd l0 a1)) 7) * 262144)) (wrap32 ((wrap32 (Go.bits .and .u8 (rd l0 (ji39)) 63)) * 4096))) (wrap32 ((wrap32 (Go.bits .and .u8 (rd l0 (ji42)) 63)) * 64))) (wrap32 (Go.bits .and .u8 (rd l0 (ji45)) 63)), 4)) else (some (0, 0))) else (some (0, 0))) else (none)) else (none)) = some (r1, r2) := by first | (rw [hji45] at H; exact H) | (simp only [hji45] at H ⊢; exact H)
                 have hji45w : (IntKind.i64.wrap (a1 + 3)) = ji45 := (i64_w _).trans hji45;by_cases c46 : 0 ≤ (ji45)
                 ·rw [if_pos c46] at H
                  have c46b0 : decide (0 ≤ (ji45)) = true := decide_eq_true c46;clear c46;by_cases c47 : (ji45) < (l0.length : Int)
                  ·rw [if_pos c47] at H
                   have c47b0 : decide ((ji45) < (l0.length : Int)) = true := decide_eq_true c47;clear c47;by_cases c48 : (Go.bits .or .i32 (Go.bits .or .i32 (Go.bits .or .i32 (wrap32 ((Go.bits .and .i32 (wrap32 (rd l0 a1)) 7) * 262144)) (wrap32 ((wrap32 (Go.bits .and .u8 (rd l0 (ji39)) 63)) * 4096))) (wrap32 ((wrap32 (Go.bits .and .u8 (rd l0 (ji42)) 63)) * 64))) (wrap32 (Go.bits .and .u8 (rd l0 (ji45)) 63))) ≥ 65536
                   ·rw [if_pos c48] at H
                    have c48b0 : decide (65536 ≤ (Go.bits .or .i32 (Go.bits .or .i32 (Go.bits .or .i32 (wrap32 ((Go.bits .and .i32 (wrap32 (rd l0 a1)) 7) * 262144)) (wrap32 ((wrap32 (Go.bits .and .u8 (rd l0 (ji39)) 63)) * 4096))) (wrap32 ((wrap32 (Go.bits .and .u8 (rd l0 (ji42)) 63)) * 64))) (wrap32 (Go.bits .and .u8 (rd l0 (ji45)) 63)))) = true := decide_eq_true c48;clear c48;by_cases c49 : (Go.bits .or .i32 (Go.bits .or .i32 (Go.bits .or .i32 (wrap32 ((Go.bits .and .i32 (wrap32 (rd l0 a1)) 7) * 262144)) (wrap32 ((wrap32 (Go.bits .and .u8 (rd l0 (ji39)) 63)) * 4096))) (wrap32 ((wrap32 (Go.bits .and .u8 (rd l0 (ji42)) 63)) * 64))) (wrap32 (Go.bits .and .u8 (rd l0 (ji45)) 63))) ≤ 1114111
                    ·rw [if_pos c49] at H
                     have c49b0 : decide ((Go.bits .or .i32 (Go.bits .or .i32 (Go.bits .or .i32 (wrap32 ((Go.bits .and .i32 (wrap32 (rd l0 a1)) 7) * 262144)) (wrap32 ((wrap32 (Go.bits .and .u8 (rd l0 (ji39)) 63)) * 4096))) (wrap32 ((wrap32 (Go.bits .and .u8 (rd l0 (ji42)) 63)) * 64))) (wrap32 (Go.bits .and .u8 (rd l0 (ji45)) 63))) ≤ 1114111) = true := decide_eq_true c49;clear c49;simp only [Option.some.injEq, Prod.mk.injEq] at H;obtain ⟨rfl, rfl⟩ := H;have p112 : 0 ≤ ((ji39) : Int) := of_decide_eq_true (by assumption);have q112 : (ji39) < (l0.length : Int) := of_decide_eq_true (by assumption);obtain ⟨ad112, e112, hx112_0⟩ := Kd.at_int HR0.out (ji39) p112 q112
                     obtain rfl : ad102 = ad112 := (by injection e112)
                     replace p112 := eq_true p112;replace q112 := eq_true q112;have p113 : 0 ≤ ((ji42) : Int) := of_decide_eq_true (by assumption);have q113 : (ji42) < (l0.length : Int) := of_decide_eq_true (by assumption);obtain ⟨ad113, e113, hx113_0⟩ := Kd.at_int HR0.out (ji42) p113 q113
                     obtain rfl : ad102 = ad113 := (by injection e113)
                     replace p113 := eq_true p113;replace q113 := eq_true q113;have p114 : 0 ≤ ((ji45) : Int) := of_decide_eq_true (by assumption);have q114 : (ji45) < (l0.length : Int) := of_decide_eq_true (by assumption);obtain ⟨ad114, e114, hx114_0⟩ := Kd.at_int HR0.out (ji45) p114 q114
                     obtain rfl : ad102 = ad114 := (by injection e114)
                     replace p114 := eq_true p114;replace q114 := eq_true q114;go_wp2
                     repeat (go_quiet (fail); try go_wp2)
                     go_ret2
                     exact ⟨by first | rfl | (simp; done) | (simp only [← hji39, ← hji42, ← hji45] <;> (first | rfl | simp)) | (simp [*]; done), by repeat (first | exact Drawn0.refl _ | apply Drawn0.step)⟩
                    ·rw [if_neg c49] at H
                     have c49b0 : decide ((Go.bits .or .i32 (Go.bits .or .i32 (Go.bits .or .i32 (wrap32 ((Go.bits .and .i32 (wrap32 (rd l0 a1)) 7) * 262144)) (wrap32 ((wrap32 (Go.bits .and .u8 (rd l0 (ji39)) 63)) * 4096))) (wrap32 ((wrap32 (Go.bits .and .u8 (rd l0 (ji42)) 63)) * 64))) (wrap32 (Go.bits .and .u8 (rd l0 (ji45)) 63))) ≤ 1114111) = false := decide_eq_false c49;clear c49;simp only [Option.some.injEq, Prod.mk.injEq] at H;obtain ⟨rfl, rfl⟩ := H;have p112 : 0 ≤ ((ji39) : Int) := of_decide_eq_true (by assumption);have q112 : (ji39) < (l0.length : Int) := of_decide_eq_true (by assumption);obtain ⟨ad112, e112, hx112_0⟩ := Kd.at_int HR0.out (ji39) p112 q112
                     obtain rfl : ad102 = ad112 := (by injection e112)
                     replace p112 := eq_true p112;replace q112 := eq_true q112;have p113 : 0 ≤ ((ji42) : Int) := of_decide_eq_true (by assumption);have q113 : (ji42) < (l0.length : Int) := of_decide_eq_true (by assumption);obtain ⟨ad113, e113, hx113_0⟩ := Kd.at_int HR0.out (ji42) p113 q113
                     obtain rfl : ad102 = ad113 := (by injection e113)
                     replace p113 := eq_true p113;replace q113 := eq_true q113;have p114 : 0 ≤ ((ji45) : Int) := of_decide_eq_true (by assumption);have q114 : (ji45) < (l0.length : Int) := of_decide_eq_true (by assumption);obtain ⟨ad114, e114, hx114_0⟩ := Kd.at_int HR0.out (ji45) p114 q114
                     obtain rfl : ad102 = ad114 := (by injection e114)
                     replace p114 := eq_true p114;replace q114 := eq_true q114;go_wp2
                     repeat (go_quiet (fail); try go_wp2)
                     go_ret2
                     exact ⟨by first | rfl | (simp; done) | (simp only [← hji39, ← hji42, ← hji45] <;> (first | rfl | simp)) | (simp [*]; done), by repeat (first | exact Drawn0.refl _ | apply Drawn0.step)⟩
                   ·rw [if_neg c48] at H
                    have c48b0 : decide (65536 ≤ (Go.bits .or .i32 (Go.bits .or .i32 (Go.bits .or .i32 (wrap32 ((Go.bits .and .i32 (wrap32 (rd l0 a1)) 7) * 262144)) (wrap32 ((wrap32 (Go.bits .and .u8 (rd l0 (ji39)) 63)) * 4096))) (wrap32 ((wrap32 (Go.bits .and .u8 (rd l0 (ji42)) 63)) * 64))) (wrap32 (Go.bits .and .u8 (rd l0 (ji45)) 63)))) = false := decide_eq_false c48;clear c48;simp only [Option.some.injEq, Prod.mk.injEq] at H;obtain ⟨rfl, rfl⟩ := H;have p112 : 0 ≤ ((ji39) : Int) := of_decide_eq_true (by assumption);have q112 : (ji39) < (l0.length : Int) := of_decide_eq_true (by assumption);obtain ⟨ad112, e112, hx112_0⟩ := Kd.at_int HR0.out (ji39) p112 q112
                    obtain rfl : ad102 = ad112 := (by injection e112)
                    replace p112 := eq_true p112;replace q112 := eq_true q112;have p113 : 0 ≤ ((ji42) : Int) := of_decide_eq_true (by assumption);have q113 : (ji42) < (l0.length : Int) := of_decide_eq_true (by assumption);obtain ⟨ad113, e113, hx113_0⟩ := Kd.at_int HR0.out (ji42) p113 q113
                    obtain rfl : ad102 = ad113 := (by injection e113)
                    replace p113 := eq_true p113;replace q113 := eq_true q113;have p114 : 0 ≤ ((ji45) : Int) := of_decide_eq_true (by assumption);have q114 : (ji45) < (l0.length : Int) := of_decide_eq_true (by assumption);obtain ⟨ad114, e114, hx114_0⟩ := Kd.at_int HR0.out (ji45) p114 q114
                    obtain rfl : ad102 = ad114 := (by injection e114)
                    replace p114 := eq_true p114;replace q114 := eq_true q114;go_wp2
                    repeat (go_quiet (fail); try go_wp2)
                    go_ret2
                    exact ⟨by first | rfl | (simp; done) | (simp only [← hji39, ← hji42, ← hji45] <;> (first | rfl | simp)) | (simp [*]; done), by repeat (first | exact Drawn0.refl _ | apply Drawn0.step)⟩
                  ·rw [if_neg c47] at H
                   exact absurd H (by simp)
                 ·rw [if_neg c46] at H
                  exact absurd H (by simp)
                ·rw [if_neg c44] at H
                 exact absurd H (by simp)
               ·rw [if_neg c43] at H
                exact absurd H (by simp)
              ·rw [if_neg c41] at H
               exact absurd H (by simp)
             ·rw [if_neg c40] at H
              exact absurd H (by simp)
            ·replace c38 := Bool.eq_false_iff.mpr c38
             subst c38
             have H1 : (some (0, 0)) = some (r1, r2) := by rw [if_neg (show ¬ (false = true) by decide)] at H; exact H
             clear H;have H := H1;clear H1;simp only [Option.some.injEq, Prod.mk.injEq] at H;obtain ⟨rfl, rfl⟩ := H;go_wp2
             repeat (go_quiet (fail); try go_wp2)
             go_ret2
             exact ⟨by first | rfl | (simp; done) | (simp [*]; done), by repeat (first | exact Drawn0.refl _ | apply Drawn0.step)⟩
  ·rw [if_neg c4] at H
   exact absurd H (by simp)
 ·rw [if_neg c3] at H
  exact absurd H (by simp)
end Go.Proofs.YteighppcdpaekaaDoor.P
end
section
namespace Go.Proofs.YteighppcdpaekaaDoor.P
open Go.RowKit Go.Proofs.YteighppcdpaekaaDoorW.PrintWords Go.Proofs.YteighppcdpaekaaDoorW.PrintLast Go.Proofs.YteighppcdpaekaaDoorW.PrintMore
attribute [local go_sem] max2_int min2_int max_two min_two max_three min_three max_four min_four
set_option linter.unusedVariables false
set_option linter.unusedSimpArgs false
def utf_Valid.l0 : Nat → List Int → Int → Option (Int × Int)
 | 0, _, _ => none
 | k + 1, x0, x4 => if x4 < (x0.length : Int) then ((utf_letter.f k x0 x4).bind fun bt115 => (if bt115.2 = 0 then (some (x4, 10)) else (utf_Valid.l0 k x0 (wrap64 (x4 + bt115.2))))) else (some (0, 0))
def utf_Valid.f (k : Nat) (l0 : List Int) : Option (Int × Int) := utf_Valid.l0 k l0 0
theorem utf_Valid.mono_l : ∀ k, (∀ y0 y1, LeO (utf_Valid.l0 k y0 y1) (utf_Valid.l0 (k + 1) y0 y1))
 | 0 => fun _ _ r h => by simp [utf_Valid.l0] at h
 | k + 1 => by
  have ih0 := utf_Valid.mono_l k
  ·intro y0 y1
   unfold utf_Valid.l0
   repeat' first
   | (with_reducible exact ih0 _ _)
   | (with_reducible exact utf_letter.mono _ _ _)
   | (with_reducible exact LeO.refl _)
   | (with_reducible exact LeO.none _)
   | (with_reducible refine LeO.ite ?_ ?_)
   | (with_reducible refine LeO.bind ?_ (fun _ => ?_))
   | exact ih0 _ _
   | exact utf_letter.mono _ _ _
   | exact LeO.none _
   | refine LeO.ite ?_ ?_
   | refine LeO.bind ?_ (fun _ => ?_)
theorem utf_Valid.mono : ∀ a0 k, LeO (utf_Valid.f k a0) (utf_Valid.f (k + 1) a0) := by
 intro a0 k;have ih0 := utf_Valid.mono_l k;unfold utf_Valid.f
 repeat' first
   | (with_reducible exact ih0 _ _)
   | (with_reducible exact utf_letter.mono _ _ _)
   | (with_reducible exact LeO.refl _)
   | (with_reducible exact LeO.none _)
   | (with_reducible refine LeO.ite ?_ ?_)
   | (with_reducible refine LeO.bind ?_ (fun _ => ?_))
   | exact ih0 _ _
   | exact utf_letter.mono _ _ _
   | exact LeO.none _
   | refine LeO.ite ?_ ?_
   | refine LeO.bind ?_ (fun _ => ?_)
set_option maxHeartbeats 8000000 in
set_option maxRecDepth 100000 in
theorem utf_Valid.calls (k : Nat) (A0 : Option Addr) (c0 : Nat) (l0 : List Int) (r1 : Int) (r2 : Int) (w : World) (hr0 : Kd.C (Kd.int .u8) w A0 l0.length l0) (hc0 : l0.length ≤ c0) (h : utf_Valid.f k l0 = some (r1, r2)) :
  Calls Tryd.prog 56 #[.slice A0 l0.length c0] w fun e w' => e = .returned (.tuple #[.int .i64 r1, .int .i64 r2]) ∧ Drawn0 w w' := by
 have HR0 := Sdq.mk hr0;have HC0 := Sdq.mk hc0;clear hr0 hc0;have H : (utf_Valid.l0 k l0 0) = some (r1, r2) := h;clear h;have H' := Sdq.mk H;clear H;go_enter Tryd.func56, Tryd.ntmps56;go_wp2
 go_loopg [4] k (fun kq v4 w' => ∃ (x4_1 : Int), v4 = .int .i64 x4_1 ∧ Sdq (utf_Valid.l0 kq l0 x4_1 = some (r1, r2)) ∧ Sdq (kq ≤ k) ∧ Drawn0 w w')
 case atStart => exact ⟨(0), (by first | rfl | (simp; done) | (simp [*]; done)), H', ⟨Nat.le_refl _⟩, by repeat (first | exact Drawn0.refl _ | apply Drawn0.step)⟩
 case round =>
  clear H';obtain ⟨x4_1, rfl, HA, HK1, ⟨m1, rfl⟩⟩ := hrel
  cases gk with
  | zero => exact absurd HA.out (by simp [utf_Valid.l0])
  | succ k1 =>
   have H := HA.out;clear HA;simp only [utf_Valid.l0] at H;by_cases c2 : x4_1 < (l0.length : Int)
   ·rw [if_pos c2] at H
    have c2b0 : decide (x4_1 < (l0.length : Int)) = true := decide_eq_true c2;clear c2;replace H := Option.bind_eq_some_iff.mp H;obtain ⟨⟨t115, t116⟩, A30, H⟩ := H;replace H : (if t116 = 0 then (some (x4_1, 10)) else (utf_Valid.l0 k1 l0 (wrap64 (x4_1 + t116)))) = some (r1, r2) := H;have A3 := Sdq.mk A30;clear A30;by_cases c4 : t116 = 0
    ·rw [if_pos c4] at H
     have c4b0 : (t116 == 0) = true := beq_iff_eq.mpr c4;have c4b1 : (t116 != 0) = false := bne_eq_false_iff_eq.mpr c4;clear c4;simp only [Option.some.injEq, Prod.mk.injEq] at H;obtain ⟨rfl, rfl⟩ := H;go_wp2_with (first | ((with_reducible refine gate_callee (f := 73) rfl ?_); refine goesL_ (some 14) rfl rfl Tryd.func73 (by kernel_rfl) rfl #[.slice A0 l0.length c0, .int .i64 x4_1] rfl (by (try simp only [List.map_toArray, List.map_cons, List.map_nil]); first | done | rfl | (simp only [List.length_drop, List.length_take]; rfl)) ?_; (with_reducible refine (utf_letter.calls k1 _ _ l0 x4_1 t115 t116 _ ?side1 ?side2 A3.out).mono ?_); (case side1 => repeat (first | exact HR0.out | (with_reducible refine Kd.C_alloc ?_ _) | (with_reducible refine Kd.C_drewN ?_ _) | (with_reducible refine Kd.C_drew ?_))); (case side2 => exact HC0.out); rintro e w' ⟨rfl, ⟨nd, rfl⟩⟩; refine ⟨_, rfl, ?_⟩))
     go_ret2
     exact ⟨by first | rfl | (simp; done) | (simp [*]; done), by repeat (first | exact Drawn0.refl _ | apply Drawn0.step)⟩
    ·rw [if_neg c4] at H
     have c4b0 : (t116 == 0) = false := beq_eq_false_iff_ne.mpr c4;have c4b1 : (t116 != 0) = true := bne_iff_ne.mpr c4;have H' := Sdq.mk H;clear H;go_wp2_with (first | ((with_reducible refine gate_callee (f := 73) rfl ?_); refine goesL_ (some 14) rfl rfl Tryd.func73 (by kernel_rfl) rfl #[.slice A0 l0.length c0, .int .i64 x4_1] rfl (by (try simp only [List.map_toArray, List.map_cons, List.map_nil]); first | done | rfl | (simp only [List.length_drop, List.length_take]; rfl)) ?_; (with_reducible refine (utf_letter.calls k1 _ _ l0 x4_1 t115 t116 _ ?side1 ?side2 A3.out).mono ?_); (case side1 => repeat (first | exact HR0.out | (with_reducible refine Kd.C_alloc ?_ _) | (with_reducible refine Kd.C_drewN ?_ _) | (with_reducible refine Kd.C_drew ?_))); (case side2 => exact HC0.out); rintro e w' ⟨rfl, ⟨nd, rfl⟩⟩; refine ⟨_, rfl, ?_⟩))
     go_roundg k1
     case measure => have := HK1.out; omega
     case rel => exact ⟨(wrap64 (x4_1 + t116)), (by first | rfl | (simp; done) | (simp [*]; done)), H', ⟨by have := HK1.out; omega⟩, by repeat (first | exact Drawn0.refl _ | apply Drawn0.step)⟩
   ·rw [if_neg c2] at H
    have c2b0 : decide (x4_1 < (l0.length : Int)) = false := decide_eq_false c2;clear c2;simp only [Option.some.injEq, Prod.mk.injEq] at H;obtain ⟨rfl, rfl⟩ := H;go_wp2
    go_ret2
    exact ⟨by first | rfl | (simp; done) | (simp [*]; done), by repeat (first | exact Drawn0.refl _ | apply Drawn0.step)⟩
end Go.Proofs.YteighppcdpaekaaDoor.P
end
section
namespace Go.Proofs.YteighppcdpaekaaDoor.Js
inductive Out (α : Type) where
 | ok (v : α) (p : Nat)
 | no (p : Nat) (e : Nat)
 deriving DecidableEq
def isBlank (c : Int) : Bool := c == 32 || c == 9 || c == 10 || c == 13
def isDigit (c : Int) : Bool := decide (48 ≤ c) && decide (c ≤ 57)
def blankLen : List Int → Nat
 | c :: r => if isBlank c then blankLen r + 1 else 0
 | [] => 0
def digitLen : List Int → Nat
 | c :: r => if isDigit c then digitLen r + 1 else 0
 | [] => 0
def blank (b : List Int) (p : Nat) : Nat := p + blankLen (b.drop p)
def next (b : List Int) (p : Nat) (c : Int) : Bool := b[p]? == some c
def word (b : List Int) : List Int → Nat → Out Unit
 | [], p => .ok () p
 | c :: r, p => match b[p]? with
  | none => .no p 11
  | some x => if x == c then word b r (p + 1) else .no p 6
def digits (b : List Int) (p : Nat) : Out Unit :=
 match b[p]? with
 | none => .no p 11
 | some c => if isDigit c then .ok () (p + digitLen (b.drop p)) else .no p 6
def numSign (b : List Int) (q : Nat) : Out Unit := digits b (if next b q 43 || next b q 45 then q + 1 else q)
def numExp (b : List Int) (q : Nat) : Out Unit := if next b q 101 || next b q 69 then numSign b (q + 1) else .ok () q
def numFrac (b : List Int) (q : Nat) : Out Unit :=
 if next b q 46 then match digits b (q + 1) with
  | .no x e => .no x e
  | .ok _ r => numExp b r
 else numExp b q
def numInt (b : List Int) (q : Nat) : Out Unit :=
 match b[q]? with
 | none => .no q 11
 | some c =>
  if c == 48 then numFrac b (q + 1)
  else match digits b q with
   | .no x e => .no x e
   | .ok _ r => numFrac b r
def number (b : List Int) (p : Nat) : Out Unit := numInt b (if next b p 45 then p + 1 else p)
def hexDigit (c : Int) : Option Int :=
 if 48 ≤ c ∧ c ≤ 57 then some (c - 48)
 else if 97 ≤ c ∧ c ≤ 102 then some (c - 87)
 else if 65 ≤ c ∧ c ≤ 70 then some (c - 55)
 else none
def hexTo (b : List Int) : Nat → Int → Nat → Out Int
 | 0, n, p => .ok n p
 | k + 1, n, p => match b[p]? with
  | none => .no p 11
  | some c => match hexDigit c with
   | none => .no p 6
   | some d => hexTo b k (n * 16 + d) (p + 1)
def hex (b : List Int) (p : Nat) : Out Int := hexTo b 4 0 p
def encode (r : Int) : Option (List Int) :=
 if r < 0 ∨ r > 0x10FFFF ∨ (0xD800 ≤ r ∧ r ≤ 0xDFFF) then none
 else if r < 0x80 then some [r]
 else if r < 0x800 then some [192 + r / 64, 128 + r % 64]
 else if r < 0x10000 then some [224 + r / 4096, 128 + r / 64 % 64, 128 + r % 64]
 else some [240 + r / 262144, 128 + r / 4096 % 64, 128 + r / 64 % 64, 128 + r % 64]
def unit (b : List Int) (p : Nat) : Out (List Int) :=
 let done (n : Int) (q : Nat) : Out (List Int) := match encode n with
  | some l => .ok l q
  | none => .no (p - 2) 6
 match hex b p with
 | .no x e => .no x e
 | .ok n q =>
  if 0xD800 ≤ n ∧ n ≤ 0xDBFF then
   if next b q 92 then
    match b[q + 1]? with
    | none => .no (q + 1) 11
    | some c =>
     if c == 117 then
      match hex b (q + 2) with
      | .no x e => .no x e
      | .ok low q => if low < 0xDC00 ∨ low > 0xDFFF then .no (p - 2) 6 else done (0x10000 + (n - 0xD800) * 1024 + low - 0xDC00) q
     else .no (p - 2) 6
   else .no (p - 2) 6
  else done n q
def escape (b : List Int) (p : Nat) : Out (List Int) :=
 match b[p]? with
 | none => .no p 11
 | some c =>
  if c == 34 || c == 92 || c == 47 then .ok [c] (p + 1)
  else if c == 98 then .ok [8] (p + 1)
  else if c == 102 then .ok [12] (p + 1)
  else if c == 110 then .ok [10] (p + 1)
  else if c == 114 then .ok [13] (p + 1)
  else if c == 116 then .ok [9] (p + 1)
  else if c == 117 then unit b (p + 1)
  else .no p 6
def textTo (b : List Int) : Nat → List Int → Nat → Option (Out (List Int))
 | 0, _, _ => none
 | k + 1, out, p => match b[p]? with
  | none => some (.no p 11)
  | some c =>
   if c == 34 then some (.ok out (p + 1))
   else if c == 92 then match escape b (p + 1) with
    | .no x e => some (.no x e)
    | .ok l q => textTo b k (out ++ l) q
   else if c < 32 then some (.no p 6)
   else textTo b k (out ++ [c]) (p + 1)
def text (b : List Int) (k p : Nat) : Option (Out (List Int)) :=
 match b[p]? with
 | none => some (.no p 11)
 | some c => if c == 34 then textTo b k [] (p + 1) else some (.no p 6)
inductive Val where
 | mk (kind : Int) (text : List Int) (keys : List (List Int)) (list : List Val)
def comma (b : List Int) (close : Int) (p : Nat) : Out Bool :=
 let q := blank b p
 match b[q]? with
 | none => .no q 11
 | some c =>
  if c == close then .ok false (q + 1)
  else if c == 44 then .ok true (blank b (q + 1))
  else .no q 6
def enter (b : List Int) (d p : Nat) : Out Unit := if d + 1 > 64 then .no p 13 else .ok () (blank b (p + 1))
mutual
def value (b : List Int) : Nat → Nat → Nat → Option (Out Val)
 | 0, _, _ => none
 | k + 1, d, p => match b[p]? with
  | none => some (.no p 11)
  | some c =>
   if c == 123 then match enter b d p with
    | .no x e => some (.no x e)
    | .ok _ q => match b[q]? with
     | none => some (.no q 11)
     | some c => if c == 125 then some (.ok (.mk 6 [] [] []) (q + 1)) else pairs b k (d + 1) [] [] q
   else if c == 91 then match enter b d p with
    | .no x e => some (.no x e)
    | .ok _ q => match b[q]? with
     | none => some (.no q 11)
     | some c => if c == 93 then some (.ok (.mk 5 [] [] []) (q + 1)) else items b k (d + 1) [] q
   else if c == 34 then (text b k p).map fun
    | .no x e => .no x e
    | .ok l q => .ok (.mk 4 l [] []) q
   else if c == 116 then some (match word b [116, 114, 117, 101] p with
    | .no x e => .no x e
    | .ok _ q => .ok (.mk 2 [] [] []) q)
   else if c == 102 then some (match word b [102, 97, 108, 115, 101] p with
    | .no x e => .no x e
    | .ok _ q => .ok (.mk 1 [] [] []) q)
   else if c == 110 then some (match word b [110, 117, 108, 108] p with
    | .no x e => .no x e
    | .ok _ q => .ok (.mk 0 [] [] []) q)
   else some (match number b p with
    | .no x e => .no x e
    | .ok _ q => .ok (.mk 3 ((b.take q).drop p) [] []) q)
def items (b : List Int) : Nat → Nat → List Val → Nat → Option (Out Val)
 | 0, _, _, _ => none
 | k + 1, d, l, p => match value b k d p with
  | none => none
  | some (.no x e) => some (.no x e)
  | some (.ok v q) => match comma b 93 q with
   | .no x e => some (.no x e)
   | .ok true q => items b k d (l ++ [v]) q
   | .ok false q => some (.ok (.mk 5 [] [] (l ++ [v])) q)
def pairs (b : List Int) : Nat → Nat → List (List Int) → List Val → Nat → Option (Out Val)
 | 0, _, _, _, _ => none
 | k + 1, d, ks, l, p => match text b k p with
  | none => none
  | some (.no x e) => some (.no x e)
  | some (.ok key q) =>
   if ks.contains key then some (.no p 23)
   else
    let q := blank b q
    match b[q]? with
    | none => some (.no q 11)
    | some c =>
     if c == 58 then match value b k d (blank b (q + 1)) with
      | none => none
      | some (.no x e) => some (.no x e)
      | some (.ok v q) => match comma b 125 q with
       | .no x e => some (.no x e)
       | .ok true q => pairs b k d (ks ++ [key]) (l ++ [v]) q
       | .ok false q => some (.ok (.mk 6 [] (ks ++ [key]) (l ++ [v])) q)
     else some (.no q 6)
end
def arr (b : List Int) (k d p : Nat) : Option (Out Val) :=
 match enter b d p with
 | .no x e => some (.no x e)
 | .ok _ q => match b[q]? with
  | none => some (.no q 11)
  | some c => if c == 93 then some (.ok (.mk 5 [] [] []) (q + 1)) else items b k (d + 1) [] q
def obj (b : List Int) (k d p : Nat) : Option (Out Val) :=
 match enter b d p with
 | .no x e => some (.no x e)
 | .ok _ q => match b[q]? with
  | none => some (.no q 11)
  | some c => if c == 125 then some (.ok (.mk 6 [] [] []) (q + 1)) else pairs b k (d + 1) [] [] q
def strV : Out (List Int) → Out Val
 | .no x e => .no x e
 | .ok l q => .ok (.mk 4 l [] []) q
def wordV (kind : Int) : Out Unit → Out Val
 | .no x e => .no x e
 | .ok _ q => .ok (.mk kind [] [] []) q
def numV (b : List Int) (p : Nat) : Out Unit → Out Val
 | .no x e => .no x e
 | .ok _ q => .ok (.mk 3 ((b.take q).drop p) [] []) q
theorem value_succ (b : List Int) (k d p : Nat) : value b (k + 1) d p = match b[p]? with
  | none => some (.no p 11)
  | some c =>
   if c == 123 then obj b k d p
   else if c == 91 then arr b k d p
   else if c == 34 then (text b k p).map strV
   else if c == 116 then some (wordV 2 (word b [116, 114, 117, 101] p))
   else if c == 102 then some (wordV 1 (word b [102, 97, 108, 115, 101] p))
   else if c == 110 then some (wordV 0 (word b [110, 117, 108, 108] p))
   else some (numV b p (number b p)) := by rw [value]; rfl
theorem drop_some {b : List Int} {p : Nat} {x : Int} (h : b[p]? = some x) : b.drop p = x :: b.drop (p + 1) := by
 obtain ⟨hl, hx⟩ := List.getElem?_eq_some_iff.1 h;rw [← hx, List.drop_eq_getElem_cons hl]
theorem drop_none {b : List Int} {p : Nat} (h : b[p]? = none) : b.drop p = [] := List.drop_eq_nil_of_le (by simpa using h)
theorem blank_step {b : List Int} {p : Nat} {x : Int} (h : b[p]? = some x) (hx : isBlank x = true) : blankLen (b.drop p) = blankLen (b.drop (p + 1)) + 1 := by rw [drop_some h]; simp [blankLen, hx]
theorem blank_stop {b : List Int} {p : Nat} {x : Int} (h : b[p]? = some x) (hx : isBlank x = false) : blankLen (b.drop p) = 0 := by rw [drop_some h]; simp [blankLen, hx]
theorem blank_end {b : List Int} {p : Nat} (h : b[p]? = none) : blankLen (b.drop p) = 0 := by rw [drop_none h]; rfl
theorem digit_step {b : List Int} {p : Nat} {x : Int} (h : b[p]? = some x) (hx : isDigit x = true) : digitLen (b.drop p) = digitLen (b.drop (p + 1)) + 1 := by rw [drop_some h]; simp [digitLen, hx]
theorem digit_stop {b : List Int} {p : Nat} {x : Int} (h : b[p]? = some x) (hx : isDigit x = false) : digitLen (b.drop p) = 0 := by rw [drop_some h]; simp [digitLen, hx]
theorem digit_end {b : List Int} {p : Nat} (h : b[p]? = none) : digitLen (b.drop p) = 0 := by rw [drop_none h]; rfl
theorem digitLen_le (l : List Int) : digitLen l ≤ l.length := by
 induction l with
 | nil => simp [digitLen]
 | cons c r ih => simp only [digitLen]; split <;> simp <;> omega
theorem blankLen_le (l : List Int) : blankLen l ≤ l.length := by
 induction l with
 | nil => simp [blankLen]
 | cons c r ih => simp only [blankLen]; split <;> simp <;> omega
theorem digits_le {b : List Int} {p q : Nat} (h : digits b p = .ok () q) : p < q ∧ q ≤ b.length := by
 unfold digits at h
 cases hx : b[p]? with
 | none => simp [hx] at h
 | some c =>
  have hp : p < b.length := (List.getElem?_eq_some_iff.1 hx).1;simp only [hx] at h
  split at h
  ·rename_i hd
   have h1 := digit_step hx hd;have h2 := digitLen_le (b.drop (p + 1))
   simp at h h2
   omega
  ·cases h
theorem next_lt {b : List Int} {p : Nat} {c : Int} (h : next b p c = true) : p < b.length := by
 unfold next at h
 cases hx : b[p]? with
 | none => simp [hx] at h
 | some x => exact (List.getElem?_eq_some_iff.1 hx).1
theorem numSign_le {b : List Int} {p q : Nat} (h : numSign b p = .ok () q) : p < q ∧ q ≤ b.length := by
 unfold numSign at h;have := digits_le h
 split at this <;> omega
theorem numExp_le {b : List Int} {p q : Nat} (hp : p ≤ b.length) (h : numExp b p = .ok () q) : p ≤ q ∧ q ≤ b.length := by
 unfold numExp at h
 split at h
 ·have := numSign_le h; omega
 ·simp at h; omega
theorem numFrac_le {b : List Int} {p q : Nat} (hp : p ≤ b.length) (h : numFrac b p = .ok () q) : p ≤ q ∧ q ≤ b.length := by
 unfold numFrac at h
 split at h
 ·cases hd : digits b (p + 1) with
  | no x e => simp [hd] at h
  | ok u r =>
   simp only [hd] at h;have h1 := digits_le hd;have h2 := numExp_le (by omega) h
   omega
 ·exact numExp_le hp h
theorem numInt_le {b : List Int} {p q : Nat} (h : numInt b p = .ok () q) : p ≤ q ∧ q ≤ b.length := by
 unfold numInt at h
 cases hx : b[p]? with
 | none => simp [hx] at h
 | some c =>
  have hp : p < b.length := (List.getElem?_eq_some_iff.1 hx).1;simp only [hx] at h
  split at h
  ·have := numFrac_le (by omega) h; omega
  ·cases hd : digits b p with
   | no x e => simp [hd] at h
   | ok u r =>
    simp only [hd] at h;have h1 := digits_le hd;have h2 := numFrac_le (by omega) h
    omega
theorem number_le {b : List Int} {p q : Nat} (h : number b p = .ok () q) : p ≤ q ∧ q ≤ b.length := by
 unfold number at h;have := numInt_le h
 split at this <;> omega
theorem hexTo_le {b : List Int} {k p q : Nat} {n v : Int} (h : hexTo b k n p = .ok v q) : q = p + k ∧ (k = 0 ∨ q ≤ b.length) := by
 induction k generalizing n p with
 | zero => simp [hexTo] at h; omega
 | succ k ih =>
  simp only [hexTo] at h
  cases hx : b[p]? with
  | none => simp [hx] at h
  | some c =>
   have hp : p < b.length := (List.getElem?_eq_some_iff.1 hx).1;simp only [hx] at h
   cases hd : hexDigit c with
   | none => simp [hd] at h
   | some d =>
    simp only [hd] at h;have := ih h
    omega
theorem hex_le {b : List Int} {p q : Nat} {v : Int} (h : hex b p = .ok v q) : q = p + 4 ∧ q ≤ b.length := by
 have := hexTo_le h
 omega
theorem unit_le {b : List Int} {p q : Nat} {l : List Int} (h : unit b p = .ok l q) : p < q ∧ q ≤ b.length := by
 unfold unit at h
 cases he : hex b p with
 | no x e => simp [he] at h
 | ok n r =>
  have h1 := hex_le he;simp only [he] at h
  split at h
  ·split at h
   ·cases hx : b[r + 1]? with
    | none => simp [hx] at h
    | some c =>
     simp only [hx] at h
     split at h
     ·cases he2 : hex b (r + 2) with
      | no x e => simp [he2] at h
      | ok low s =>
       have h2 := hex_le he2;simp only [he2] at h
       split at h
       ·cases h
       ·split at h
        ·simp at h; omega
        ·cases h
     ·cases h
   ·cases h
  ·split at h
   ·simp at h; omega
   ·cases h
theorem escape_le {b : List Int} {p q : Nat} {l : List Int} (h : escape b p = .ok l q) : p < q ∧ q ≤ b.length := by
 unfold escape at h
 cases hx : b[p]? with
 | none => simp [hx] at h
 | some c =>
  have hp : p < b.length := (List.getElem?_eq_some_iff.1 hx).1;simp only [hx] at h
  repeat' split at h
  all_goals first
   | (have := unit_le h; omega)
   | (simp at h; omega)
   | cases h
theorem blank_le {b : List Int} {p : Nat} (h : p ≤ b.length) : p ≤ blank b p ∧ blank b p ≤ b.length := by
 unfold blank;have := blankLen_le (b.drop p)
 simp at this
 omega
theorem comma_le {b : List Int} {cl : Int} {p q : Nat} {t : Bool} (hp : p ≤ b.length) (h : comma b cl p = .ok t q) : p < q ∧ q ≤ b.length := by
 unfold comma at h;have h1 := blank_le hp;simp only at h
 cases hx : b[blank b p]? with
 | none => simp [hx] at h
 | some c =>
  have hl : blank b p < b.length := (List.getElem?_eq_some_iff.1 hx).1;simp only [hx] at h
  split at h
  ·simp at h; omega
  ·split at h
   ·have h2 := blank_le (b := b) (p := blank b p + 1) (by omega)
    simp at h; omega
   ·cases h
theorem word_le {b l : List Int} {p q : Nat} {u : Unit} (h : word b l p = .ok u q) : q = p + l.length ∧ (l = [] ∨ q ≤ b.length) := by
 induction l generalizing p with
 | nil => simp [word] at h; simp [h]
 | cons c r ih =>
  simp only [word] at h
  cases hx : b[p]? with
  | none => simp [hx] at h
  | some x =>
   have hl : p < b.length := (List.getElem?_eq_some_iff.1 hx).1;simp only [hx] at h
   split at h
   ·have := ih h
    rw [List.length_cons];refine ⟨by omega, .inr ?_⟩
    rcases this with ⟨h1, h3 | h2⟩
    ·rw [h3, List.length_nil] at h1; omega
    ·omega
   ·cases h
theorem textTo_le {b : List Int} {k p q : Nat} {out l : List Int} (hp : p ≤ b.length) (h : textTo b k out p = some (.ok l q)) : p < q ∧ q ≤ b.length := by
 induction k generalizing out p with
 | zero => simp [textTo] at h
 | succ k ih =>
  simp only [textTo] at h
  cases hx : b[p]? with
  | none => simp [hx] at h
  | some c =>
   have hl : p < b.length := (List.getElem?_eq_some_iff.1 hx).1;simp only [hx] at h
   split at h
   ·simp at h; omega
   ·split at h
    ·cases he : escape b (p + 1) with
     | no x e => simp [he] at h
     | ok l2 r =>
      simp only [he] at h;have h1 := escape_le he;have h2 := ih h1.2 h
      omega
    ·split at h
     ·cases h
     ·have h2 := ih (by omega) h
      omega
theorem text_le {b : List Int} {k p q : Nat} {l : List Int} (h : text b k p = some (.ok l q)) : p < q ∧ q ≤ b.length := by
 unfold text at h
 cases hx : b[p]? with
 | none => simp [hx] at h
 | some c =>
  have hl : p < b.length := (List.getElem?_eq_some_iff.1 hx).1;simp only [hx] at h
  split at h
  ·have := textTo_le (by omega) h; omega
  ·cases h
theorem number_lt {b : List Int} {p q : Nat} {u : Unit} (h : number b p = .ok u q) : p < q ∧ q ≤ b.length := by
 unfold number at h
 split at h
 ·have := numInt_le h; omega
 ·unfold numInt at h
  cases hx : b[p]? with
  | none => simp [hx] at h
  | some c =>
   have hl : p < b.length := (List.getElem?_eq_some_iff.1 hx).1;simp only [hx] at h
   split at h
   ·have := numFrac_le (by omega) h; omega
   ·cases hd : digits b p with
    | no x e => simp [hd] at h
    | ok u2 r =>
     simp only [hd] at h;have h1 := digits_le hd;have h2 := numFrac_le (by omega) h
     omega
theorem all_le (b : List Int) (k : Nat) : (∀ d p v q, value b k d p = some (.ok v q) → p < q ∧ q ≤ b.length) ∧ (∀ d l p v q, p ≤ b.length → items b k d l p = some (.ok v q) → p < q ∧ q ≤ b.length) ∧
  (∀ d ks l p v q, p ≤ b.length → pairs b k d ks l p = some (.ok v q) → p < q ∧ q ≤ b.length) := by
 induction k with
 | zero => refine ⟨fun d p v q h => ?_, fun d l p v q _ h => ?_, fun d ks l p v q _ h => ?_⟩ <;> simp [value, items, pairs] at h
 | succ k ih =>
  obtain ⟨i1, i2, i3⟩ := ih;refine ⟨fun d p v q h => ?_, fun d l p v q hp h => ?_, fun d ks l p v q hp h => ?_⟩
  ·rw [value_succ] at h
   cases hx : b[p]? with
   | none => simp [hx] at h
   | some c =>
    have hl : p < b.length := (List.getElem?_eq_some_iff.1 hx).1;have hbl := blank_le (b := b) (p := p + 1) (by omega);simp only [hx] at h
    split at h
    ·unfold obj enter at h
     split at h
     ·rename_i he
      split at he <;> simp at h
     ·rename_i u q1 he
      split at he
      ·cases he
      ·simp at he
       subst he
       cases hy : b[blank b (p + 1)]? with
       | none => simp [hy] at h
       | some c2 =>
        have hl2 := (List.getElem?_eq_some_iff.1 hy).1;simp only [hy] at h
        split at h
        ·simp at h; omega
        ·have := i3 _ _ _ _ _ _ (by omega) h; omega
    split at h
    ·unfold arr enter at h
     split at h
     ·rename_i he
      split at he <;> simp at h
     ·rename_i u q1 he
      split at he
      ·cases he
      ·simp at he
       subst he
       cases hy : b[blank b (p + 1)]? with
       | none => simp [hy] at h
       | some c2 =>
        have hl2 := (List.getElem?_eq_some_iff.1 hy).1;simp only [hy] at h
        split at h
        ·simp at h; omega
        ·have := i2 _ _ _ _ _ (by omega) h; omega
    split at h
    ·cases ht : text b k p with
     | none => simp [ht] at h
     | some o =>
      cases o with
      | no x e => simp [ht, strV] at h
      | ok l r => have := text_le ht; simp [ht, strV] at h; omega
    split at h
    ·cases hw : word b [116, 114, 117, 101] p with
     | no x e => simp [hw, wordV] at h
     | ok u r => have := word_le hw; simp [hw, wordV] at h; simp at this; omega
    split at h
    ·cases hw : word b [102, 97, 108, 115, 101] p with
     | no x e => simp [hw, wordV] at h
     | ok u r => have := word_le hw; simp [hw, wordV] at h; simp at this; omega
    split at h
    ·cases hw : word b [110, 117, 108, 108] p with
     | no x e => simp [hw, wordV] at h
     | ok u r => have := word_le hw; simp [hw, wordV] at h; simp at this; omega
    ·cases hw : number b p with
     | no x e => simp [hw, numV] at h
     | ok u r => have := number_lt hw; simp [hw, numV] at h; omega
  ·simp only [items] at h
   cases hv : value b k d p with
   | none => simp [hv] at h
   | some o =>
    cases o with
    | no x e => simp [hv] at h
    | ok v1 r =>
     have h1 := i1 _ _ _ _ hv;simp only [hv] at h
     cases hc : comma b 93 r with
     | no x e => simp [hc] at h
     | ok t s =>
      have h2 := comma_le h1.2 hc
      cases t with
      | true => simp only [hc] at h; have := i2 _ _ _ _ _ h2.2 h; omega
      | false => simp [hc] at h; omega
  ·simp only [pairs] at h
   cases ht : text b k p with
   | none => simp [ht] at h
   | some o =>
    cases o with
    | no x e => simp [ht] at h
    | ok key q1 =>
     have h0 := text_le ht;simp only [ht] at h
     split at h
     ·cases h
     have h01 := blank_le (b := b) (p := q1) h0.2
     cases hx : b[blank b q1]? with
     | none => simp [hx] at h
     | some c =>
      have hl : blank b q1 < b.length := (List.getElem?_eq_some_iff.1 hx).1;simp only [hx] at h
      split at h
      ·have h02 := blank_le (b := b) (p := blank b q1 + 1) (by omega)
       cases hv : value b k d (blank b (blank b q1 + 1)) with
       | none => simp [hv] at h
       | some o =>
        cases o with
        | no x e => simp [hv] at h
        | ok v1 r =>
         have h1 := i1 _ _ _ _ hv;simp only [hv] at h
         cases hc : comma b 125 r with
         | no x e => simp [hc] at h
         | ok t s =>
          have h2 := comma_le h1.2 hc
          cases t with
          | true => simp only [hc] at h; have := i3 _ _ _ _ _ _ h2.2 h; omega
          | false => simp [hc] at h; omega
      ·cases h
theorem value_le {b : List Int} {k d p q : Nat} {v : Val} (h : value b k d p = some (.ok v q)) : p < q ∧ q ≤ b.length := (all_le b k).1 _ _ _ _ h
theorem encode_bytes {r : Int} {l : List Int} (h : encode r = some l) : (∀ x ∈ l, 0 ≤ x ∧ x ≤ 255) ∧ l.length ≤ 4 := by
 unfold encode at h
 repeat' split at h
 all_goals first
  | (cases h; done)
  | (simp at h; subst h; simp; omega)
theorem unit_enc {b : List Int} {p q : Nat} {l : List Int} (h : unit b p = .ok l q) : (∃ n, encode n = some l) ∧ p + 4 ≤ q := by
 unfold unit at h
 cases he : hex b p with
 | no x e => simp [he] at h
 | ok n r =>
  have h1 := hex_le he;simp only [he] at h
  split at h
  ·split at h
   ·cases hx : b[r + 1]? with
    | none => simp [hx] at h
    | some c =>
     simp only [hx] at h
     split at h
     ·cases he2 : hex b (r + 2) with
      | no x e => simp [he2] at h
      | ok low s =>
       have h2 := hex_le he2;simp only [he2] at h
       split at h
       ·cases h
       ·split at h
        ·rename_i l2 hl2
         simp at h
         exact ⟨⟨_, h.1 ▸ hl2⟩, by omega⟩
        ·cases h
     ·cases h
   ·cases h
  ·split at h
   ·rename_i l2 hl2
    simp at h
    exact ⟨⟨_, h.1 ▸ hl2⟩, by omega⟩
   ·cases h
theorem escape_bytes {b : List Int} {p q : Nat} {l : List Int} (hb : ∀ x ∈ b, 0 ≤ x ∧ x ≤ 255) (h : escape b p = .ok l q) : (∀ x ∈ l, 0 ≤ x ∧ x ≤ 255) ∧ l.length + p ≤ q := by
 unfold escape at h
 cases hx : b[p]? with
 | none => simp [hx] at h
 | some c =>
  have hc := hb c (List.mem_of_getElem? hx);simp only [hx] at h
  repeat' split at h
  all_goals first
   | (obtain ⟨⟨n, hn⟩, h2⟩ := unit_enc h; have h3 := encode_bytes hn; exact ⟨h3.1, by omega⟩)
   | (simp at h; obtain ⟨h1, h2⟩ := h; subst h1; subst h2; simp; try omega)
   | cases h
theorem textTo_bytes {b : List Int} {k p q : Nat} {out l : List Int} (hb : ∀ x ∈ b, 0 ≤ x ∧ x ≤ 255) (ho : ∀ x ∈ out, 0 ≤ x ∧ x ≤ 255) (h : textTo b k out p = some (.ok l q)) : (∀ x ∈ l, 0 ≤ x ∧ x ≤ 255) ∧ l.length + p ≤ out.length + q := by
 induction k generalizing out p with
 | zero => simp [textTo] at h
 | succ k ih =>
  simp only [textTo] at h
  cases hx : b[p]? with
  | none => simp [hx] at h
  | some c =>
   have hc := hb c (List.mem_of_getElem? hx);simp only [hx] at h
   split at h
   ·simp at h
    obtain ⟨h1, h2⟩ := h;subst h1;exact ⟨ho, by omega⟩
   ·split at h
    ·cases he : escape b (p + 1) with
     | no x e => simp [he] at h
     | ok l2 r =>
      simp only [he] at h;have h1 := escape_bytes hb he;have h2 := ih (by intro x hm; rcases List.mem_append.1 hm with hm | hm; exact ho x hm; exact h1.1 x hm) h;rw [List.length_append] at h2;exact ⟨h2.1, by omega⟩
    ·split at h
     ·cases h
     ·have h2 := ih (by intro x hm; rcases List.mem_append.1 hm with hm | hm; exact ho x hm; simp at hm; subst hm; exact hc) h
      rw [List.length_append] at h2;exact ⟨h2.1, by simp at h2; omega⟩
theorem text_bytes {b : List Int} {k p q : Nat} {l : List Int} (hb : ∀ x ∈ b, 0 ≤ x ∧ x ≤ 255) (h : text b k p = some (.ok l q)) : (∀ x ∈ l, 0 ≤ x ∧ x ≤ 255) ∧ l.length + p ≤ q := by
 unfold text at h
 cases hx : b[p]? with
 | none => simp [hx] at h
 | some c =>
  simp only [hx] at h
  split at h
  ·have := textTo_bytes hb (by simp) h
   exact ⟨this.1, by have := this.2; simp at this; omega⟩
  ·cases h
theorem textTo_mono {b : List Int} {k p : Nat} {out : List Int} {o : Out (List Int)} (h : textTo b k out p = some o) : textTo b (k + 1) out p = some o := by
 induction k generalizing out p with
 | zero => simp [textTo] at h
 | succ k ih =>
  rw [textTo] at h;rw [textTo]
  cases hx : b[p]? with
  | none => simpa [hx] using h
  | some c =>
   simp only [hx] at h ⊢
   split at h
   ·rename_i hc; rw [if_pos hc]; exact h
   ·rename_i hc
    rw [if_neg hc]
    split at h
    ·rename_i hc2
     rw [if_pos hc2]
     cases he : escape b (p + 1) with
     | no x e => simpa [he] using h
     | ok l q => simp only [he] at h ⊢; exact ih h
    ·rename_i hc2
     rw [if_neg hc2]
     split at h
     ·rename_i hc3; rw [if_pos hc3]; exact h
     ·rename_i hc3; rw [if_neg hc3]; exact ih h
theorem text_mono {b : List Int} {k p : Nat} {o : Out (List Int)} (h : text b k p = some o) : text b (k + 1) p = some o := by
 unfold text at h ⊢
 cases hx : b[p]? with
 | none => simpa [hx] using h
 | some c =>
  simp only [hx] at h ⊢
  split at h
  ·rename_i hc; rw [if_pos hc]; exact textTo_mono h
  ·rename_i hc; rw [if_neg hc]; exact h
theorem all_mono (b : List Int) (k : Nat) : (∀ d p o, value b k d p = some o → value b (k + 1) d p = some o) ∧ (∀ d l p o, items b k d l p = some o → items b (k + 1) d l p = some o) ∧
  (∀ d ks l p o, pairs b k d ks l p = some o → pairs b (k + 1) d ks l p = some o) := by
 induction k with
 | zero => refine ⟨fun d p o h => ?_, fun d l p o h => ?_, fun d ks l p o h => ?_⟩ <;> simp [value, items, pairs] at h
 | succ k ih =>
  obtain ⟨i1, i2, i3⟩ := ih;refine ⟨fun d p o h => ?_, fun d l p o h => ?_, fun d ks l p o h => ?_⟩
  ·rw [value_succ] at h
   rw [value_succ]
   cases hx : b[p]? with
   | none => simpa [hx] using h
   | some c =>
    simp only [hx] at h ⊢
    split at h
    ·rename_i hc
     rw [if_pos hc];unfold obj at h ⊢
     cases he : enter b d p with
     | no x e => simpa [he] using h
     | ok u q =>
      simp only [he] at h ⊢
      cases hy : b[q]? with
      | none => simpa [hy] using h
      | some c2 =>
       simp only [hy] at h ⊢
       split at h
       ·rename_i hc2; rw [if_pos hc2]; exact h
       ·rename_i hc2; rw [if_neg hc2]; exact i3 _ _ _ _ _ h
    rename_i hc
    rw [if_neg hc]
    split at h
    ·rename_i hc
     rw [if_pos hc];unfold arr at h ⊢
     cases he : enter b d p with
     | no x e => simpa [he] using h
     | ok u q =>
      simp only [he] at h ⊢
      cases hy : b[q]? with
      | none => simpa [hy] using h
      | some c2 =>
       simp only [hy] at h ⊢
       split at h
       ·rename_i hc2; rw [if_pos hc2]; exact h
       ·rename_i hc2; rw [if_neg hc2]; exact i2 _ _ _ _ h
    rename_i hc
    rw [if_neg hc]
    split at h
    ·rename_i hc
     rw [if_pos hc]
     cases ht : text b k p with
     | none => simp [ht] at h
     | some ot => rw [text_mono ht]; rw [ht] at h; exact h
    ·rename_i hc
     rw [if_neg hc];exact h
  ·rw [items] at h
   rw [items]
   cases hv : value b k d p with
   | none => simp [hv] at h
   | some ov =>
    rw [i1 _ _ _ hv];rw [hv] at h
    cases ov with
    | no x e => exact h
    | ok v q =>
     simp only at h ⊢
     cases hc : comma b 93 q with
     | no x e => simpa [hc] using h
     | ok t s =>
      cases t with
      | true => simp only [hc] at h ⊢; exact i2 _ _ _ _ h
      | false => simpa [hc] using h
  ·rw [pairs] at h
   rw [pairs]
   cases ht : text b k p with
   | none => simp [ht] at h
   | some ot =>
    rw [text_mono ht];rw [ht] at h
    cases ot with
    | no x e => exact h
    | ok key q1 =>
     simp only at h ⊢
     split at h
     ·rename_i hc; rw [if_pos hc]; exact h
     ·rename_i hc
      rw [if_neg hc]
      cases hx : b[blank b q1]? with
      | none => simpa [hx] using h
      | some c =>
       simp only [hx] at h ⊢
       split at h
       ·rename_i hc2
        rw [if_pos hc2]
        cases hv : value b k d (blank b (blank b q1 + 1)) with
        | none => simp [hv] at h
        | some ov =>
         rw [i1 _ _ _ hv];rw [hv] at h
         cases ov with
         | no x e => exact h
         | ok v q =>
          simp only at h ⊢
          cases hc : comma b 125 q with
          | no x e => simpa [hc] using h
          | ok t s =>
           cases t with
           | true => simp only [hc] at h ⊢; exact i3 _ _ _ _ _ h
           | false => simpa [hc] using h
       ·rename_i hc2; rw [if_neg hc2]; exact h
theorem value_mono {b : List Int} {k d p : Nat} {o : Out Val} (h : value b k d p = some o) : value b (k + 1) d p = some o := (all_mono b k).1 _ _ _ h
end Go.Proofs.YteighppcdpaekaaDoor.Js
end
section
namespace Go.Proofs.YteighppcdpaekaaDoor.Rd
open Go.RowKit Go.Proofs.YteighppcdpaekaaDoorW.PrintWords
open Go.Proofs.YteighppcdpaekaaDoor
structure RS (w0 : World) (g : Nat) (A : Option Addr) (c : Nat) (b : List Int) (W : World) (p d : Int) : Prop where
 blk : W.heap[g]? = some (.cells #[.slice A b.length c, .int .i64 p, .int .i64 d] 113 (0, 0))
 ge : w0.heap.size ≤ g
 read : Kd.C (Kd.int .u8) w0 A b.length b
 bel : Below w0.heap.size w0 W
 small : b.length ≤ 100000000000
section
variable {w0 : World} {g : Nat} {A : Option Addr} {c : Nat} {b : List Int} {W : World} {p d : Int}
theorem RS.c0 (h : RS w0 g A c b W p d) : W.cell? ⟨g, 0, none⟩ = some (.slice A b.length c) := (bceq h.blk 0).trans rfl
theorem RS.c1 (h : RS w0 g A c b W p d) : W.cell? ⟨g, 1, none⟩ = some (.int .i64 p) := (bceq h.blk 1).trans rfl
theorem RS.c2 (h : RS w0 g A c b W p d) : W.cell? ⟨g, 2, none⟩ = some (.int .i64 d) := (bceq h.blk 2).trans rfl
theorem RS.fr (h : RS w0 g A c b W p d) (i : Nat) : W.frozen? ⟨g, i, none⟩ = false := bfz h.blk i
theorem RS.drewN (h : RS w0 g A c b W p d) (n : Nat) : RS w0 g A c b (W.drewN n) p d := ⟨h.blk, h.ge, h.read, pbdN h.bel n, h.small⟩
theorem RS.drew (h : RS w0 g A c b W p d) : RS w0 g A c b W.drew p d := ⟨h.blk, h.ge, h.read, below_drew h.bel, h.small⟩
theorem RS.set1 (h : RS w0 g A c b W p d) (q : Int) : RS w0 g A c b (W.setCell ⟨g, 1, none⟩ (.int .i64 q)) q d :=
 ⟨by simpa using blk_set h.blk 1 (.int .i64 q), h.ge, h.read, bstq h.bel h.ge, h.small⟩
theorem RS.set2 (h : RS w0 g A c b W p d) (q : Int) : RS w0 g A c b (W.setCell ⟨g, 2, none⟩ (.int .i64 q)) p q :=
 ⟨by simpa using blk_set h.blk 2 (.int .i64 q), h.ge, h.read, bstq h.bel h.ge, h.small⟩
theorem RS.to (h : RS w0 g A c b W p d) {p' d' : Int} (e : p = p') (e' : d = d') : RS w0 g A c b W p' d' := by subst e; subst e'; exact h
theorem RS.lt (h : RS w0 g A c b W p d) : g < W.heap.size := blk_lt h.blk
theorem RS.alloc (h : RS w0 g A c b W p d) (x : Obj) : RS w0 g A c b (W.alloc x) p d := ⟨blk_alloc h.blk x, h.ge, h.read, bal h.bel x, h.small⟩
theorem RS.grown {W1 : World} {row : Option Nat} (h : RS w0 g A c b W p d) (hg : W.grownBy W1 row) (hne : some g ≠ row) (hb : Below w0.heap.size w0 W1) : RS w0 g A c b W1 p d := ⟨blk_grown h.blk hg hne, h.ge, h.read, hb, h.small⟩
theorem RS.far (h : RS w0 g A c b W p d) {q : Addr} (hne : g ≠ q.block) (hq : w0.heap.size ≤ q.block) (u : Value) : RS w0 g A c b (W.setCell q u) p d :=
 ⟨blk_far h.blk hne u, h.ge, h.read, h.bel.setCell (p := q) hq _, h.small⟩
theorem RS.at_ (h : RS w0 g A c b W p d) {i : Nat} {x : Int} (hi : b[i]? = some x) : ∃ ad, A = some ad ∧ W.cell? (ad.add i) = some (.int .u8 x) := by
 have hl := (List.getElem?_eq_some_iff.1 hi).1;obtain ⟨ad, e, hc⟩ := Kd.at_int h.read (i : Int) (by omega) (by omega);refine ⟨ad, e, ?_⟩;have := pw_cell_below h.bel hc
 simpa [rd, List.getD_eq_getElem?_getD, hi] using this
end
def Post {α : Type} (w0 : World) (g : Nat) (A : Option Addr) (c : Nat) (b : List Int) (w : World) (d : Int) (V : World → α → Value → Prop) (o : Js.Out α) (e : Ending) (w' : World) : Prop :=
 match o with
 | .ok v q => ∃ u, e = .returned u ∧ V w' v u ∧ RS w0 g A c b w' q d ∧ Kbt w w' g none
 | .no x k => e = .panicked [{ v := .iface 115 (.agg #[.int .i64 (x : Int), .int .i64 (k : Int)]), recovered := false }] ∧ Below w0.heap.size w0 w' ∧ Kbt w w' g none
theorem fail_calls {w0 : World} {g : Nat} {A : Option Addr} {c : Nat} {b : List Int} {w : World} {p d : Int} (e : Int) (h : RS w0 g A c b w p d) :
  Calls Tryd.prog 60 #[.pointer (some ⟨g, 0, none⟩), .int .i64 e] w fun en w' => en = .panicked [{ v := .iface 115 (.agg #[.int .i64 p, .int .i64 e]), recovered := false }] ∧ w' = w := by
 have h1 := h.c1;go_enter Tryd.func60, Tryd.ntmps60;go_wp2;exact ⟨rfl, rfl, rfl⟩
def VInt (k : IntKind) (_ : World) (x : Int) (u : Value) : Prop := u = .int k x
theorem peek_ok {w0 : World} {g : Nat} {A : Option Addr} {c : Nat} {b : List Int} {w : World} {d : Int} {p : Nat} {x : Int} (h : RS w0 g A c b w p d) (hx : b[p]? = some x) :
  Calls Tryd.prog 74 #[.pointer (some ⟨g, 0, none⟩)] w fun e w' => e = .returned (.int .u8 x) ∧ ∃ n, w' = w.drewN n := by
 have h0 := h.c0;have h1 := h.c1;have hsm := h.small;have hp : p < b.length := (List.getElem?_eq_some_iff.1 hx).1;obtain ⟨ad, rfl, hc⟩ := h.at_ hx;clear hx;go_enter Tryd.func74, Tryd.ntmps74;go_wp2
 go_quiet (fail)
 go_wp2
 go_quiet (fail)
 go_wp2;go_ret;exact ⟨rfl, _, World.drewN_drewN _ _ _⟩
theorem peek_no {w0 : World} {g : Nat} {A : Option Addr} {c : Nat} {b : List Int} {w : World} {d : Int} {p : Nat} (h : RS w0 g A c b w p d) (hx : b[p]? = none) :
  Calls Tryd.prog 74 #[.pointer (some ⟨g, 0, none⟩)] w fun e w' => e = .panicked [{ v := .iface 115 (.agg #[.int .i64 (p : Int), .int .i64 11]), recovered := false }] ∧ ∃ n, w' = w.drewN n := by
 have h0 := h.c0;have h1 := h.c1;have hsm := h.small
 have hp : b.length ≤ p := by simpa using hx
 clear hx;go_enter Tryd.func74, Tryd.ntmps74;go_wp2
 go_quiet (fail)
 go_wp2_with (go_at_call 60; refine (fail_calls _ (h.drewN _)).mono ?_; rintro e w' ⟨rfl, rfl⟩);exact ⟨rfl, rfl, _, rfl⟩
theorem blank_calls {w0 : World} {g : Nat} {A : Option Addr} {c : Nat} {b : List Int} {w : World} {d : Int} (p : Nat) (h : RS w0 g A c b w p d) :
  Calls Tryd.prog 58 #[.pointer (some ⟨g, 0, none⟩)] w (fun e w' => e = .returned (.tuple #[]) ∧ RS w0 g A c b w' (Js.blank b p) d ∧ Kbt w w' g none) := by
 have hsm := h.small;go_enter Tryd.func58, Tryd.ntmps58;go_wp2
 go_loopg [] (Js.blankLen (b.drop p)) (fun kq w' => ∃ q : Nat, Hid (q + kq = Js.blank b p) ∧ Hid (kq = Js.blankLen (b.drop q)) ∧ RS w0 g A c b w' q d ∧ Kbt w w' g none)
 case atStart => exact ⟨p, rfl, rfl, h, Kbt.refl _ _ _⟩
 case round =>
  obtain ⟨q, hq, hk, hS, hK⟩ := hrel;clear h;have h0 := hS.c0;have h1 := hS.c1;have f1 := hS.fr 1
  cases hx : b[q]? with
  | none =>
   have hp : b.length ≤ q := by simpa using hx
   have hz' : Hid (Js.blank b p = q) := by have := hk.out; have := hq.out; have := Js.blank_end hx; show _ = _; omega
   clear hx hq hk
   have hlt : decide (q < b.length) = false := by simp; omega
   go_wp2
   repeat (go_quiet (fail); try go_wp2)
   go_end0
   exact ⟨rfl, by rw [hz'.out]; first | exact hS.drewN _ | exact hS, by first | exact kdrN hK _ | exact hK⟩
  | some x =>
   have hp : q < b.length := (List.getElem?_eq_some_iff.1 hx).1;obtain ⟨ad, rfl, hc⟩ := hS.at_ hx
   have hlt : decide (q < b.length) = true := by simp; omega
   cases hbl : Js.isBlank x with
   | false =>
    have hz' : Hid (Js.blank b p = q) := by have := hk.out; have := hq.out; have := Js.blank_stop hx hbl; show _ = _; omega
    clear hx hq hk;simp only [Js.isBlank, Bool.or_eq_false_iff] at hbl;obtain ⟨⟨⟨e1, e2⟩, e3⟩, e4⟩ := hbl;go_wp2
    repeat (go_quiet (fail); try go_wp2)
    go_end0
    exact ⟨rfl, by rw [hz'.out]; first | exact hS.drewN _ | exact hS, by first | exact kdrN hK _ | exact hK⟩
   | true =>
    have hst := Js.blank_step hx hbl
    obtain ⟨k1, rfl⟩ : ∃ k, gk = k + 1 := ⟨Js.blankLen (b.drop (q + 1)), by have := hk.out; omega⟩
    have hq1 : Hid (q + 1 + k1 = Js.blank b p) := by have := hq.out; show _ = _; omega
    have hk1 : Hid (k1 = Js.blankLen (b.drop (q + 1))) := by have := hk.out; show _ = _; omega
    clear hx hq hk hst
    have hbl' : x = 32 ∨ x ≠ 32 ∧ (x = 9 ∨ x ≠ 9 ∧ (x = 10 ∨ x ≠ 10 ∧ x = 13)) := by
     simp only [Js.isBlank, Bool.or_eq_true, beq_iff_eq] at hbl; omega
    clear hbl
    rcases hbl' with e | ⟨n1, e | ⟨n2, e | ⟨n3, e⟩⟩⟩
    all_goals
     (try replace n1 := beq_eq_false_iff_ne.2 n1)
     (try replace n2 := beq_eq_false_iff_ne.2 n2)
     (try replace n3 := beq_eq_false_iff_ne.2 n3)
     replace e := beq_iff_eq.2 e;go_wp2
     repeat (go_quiet (fail); try go_wp2)
     go_roundg k1
     case measure => omega
     case rel => exact ⟨q + 1, hq1, hk1, (RS.to (p := (q : Int) + 1) (by repeat (first | exact hS | apply RS.drewN | apply RS.drew | apply RS.set1 | apply RS.set2)) (by omega) rfl), (by repeat (first | exact hK | apply Kbt.set_ | apply kdrN | apply keep_drew | apply kal))⟩
theorem next_calls {w0 : World} {g : Nat} {A : Option Addr} {c : Nat} {b : List Int} {w : World} {d : Int} (p : Nat) (x : Int) (h : RS w0 g A c b w p d) :
  Calls Tryd.prog 100 #[.pointer (some ⟨g, 0, none⟩), .int .u8 x] w fun e w' => e = .returned (.bool (Js.next b p x)) ∧ ∃ n, w' = w.drewN n := by
 have h0 := h.c0;have h1 := h.c1;have hsm := h.small
 cases hx : b[p]? with
 | none =>
  have hp : b.length ≤ p := by simpa using hx
  have hr : Hid (Js.next b p x = false) := by show _ = _; simp [Js.next, hx]
  have hlt : decide (p < b.length) = false := by simp; omega
  clear hx;go_enter Tryd.func100, Tryd.ntmps100;go_wp2
  repeat (go_quiet (fail); try go_wp2)
  go_ret;exact ⟨by rw [hr.out]; rfl, _, rfl⟩
 | some y =>
  have hp : p < b.length := (List.getElem?_eq_some_iff.1 hx).1;obtain ⟨ad, rfl, hc⟩ := h.at_ hx
  have hr : Hid (Js.next b p x = (y == x)) := by show _ = _; simp [Js.next, hx]
  have hlt : decide (p < b.length) = true := by simp; omega
  clear hx;go_enter Tryd.func100, Tryd.ntmps100;go_wp2
  repeat (go_quiet (fail); try go_wp2)
  go_ret;exact ⟨by rw [hr.out]; rfl, _, rfl⟩
theorem digits_ok {w0 : World} {g : Nat} {A : Option Addr} {c : Nat} {b : List Int} {w : World} {d : Int} {p q : Nat} (h : RS w0 g A c b w p d) (hd : Js.digits b p = .ok () q) :
  Calls Tryd.prog 101 #[.pointer (some ⟨g, 0, none⟩)] w fun e w' => e = .returned (.tuple #[]) ∧ RS w0 g A c b w' q d ∧ Kbt w w' g none := by
 have hsm := h.small
 cases hx : b[p]? with
 | none => simp [Js.digits, hx] at hd
 | some x =>
 cases hdx : Js.isDigit x with
 | false => simp [Js.digits, hx, hdx] at hd
 | true =>
 have hq : Hid (q = p + Js.digitLen (b.drop p)) := by simp [Js.digits, hx, hdx] at hd; exact hd.symm
 clear hd;simp only [Js.isDigit, Bool.and_eq_true] at hdx;have hp1 := peek_ok h hx;clear hx;obtain ⟨e1, e2⟩ := hdx;have e1' := of_decide_eq_true e1;have e2' := of_decide_eq_true e2;go_enter Tryd.func101, Tryd.ntmps101;go_wp2_with (go_at_call 74; refine hp1.mono ?_; rintro e w' ⟨rfl, n, rfl⟩)
 go_loopg [] (Js.digitLen (b.drop p)) (fun kq w' => ∃ r : Nat, Hid (r + kq = q) ∧ Hid (kq = Js.digitLen (b.drop r)) ∧ RS w0 g A c b w' r d ∧ Kbt w w' g none)
 case atStart => exact ⟨p, hq.out.symm, rfl, h.drewN _, kdrN (Kbt.refl _ _ _) _⟩
 case round =>
  clear hp1 h e1 e2 e1' e2' hq;obtain ⟨r, hq, hk, hS, hK⟩ := hrel;have h0 := hS.c0;have h1 := hS.c1;have f1 := hS.fr 1
  cases hx : b[r]? with
  | none =>
   have hp : b.length ≤ r := by simpa using hx
   have hz' : Hid (q = r) := by have := hk.out; have := hq.out; have := Js.digit_end hx; show _ = _; omega
   clear hx hq hk
   have hlt : decide (r < b.length) = false := by simp; omega
   go_wp2
   repeat (go_quiet (fail); try go_wp2)
   go_end0
   exact ⟨rfl, by rw [hz'.out]; first | exact hS.drewN _ | exact hS, by first | exact kdrN hK _ | exact hK⟩
  | some x =>
   have hp : r < b.length := (List.getElem?_eq_some_iff.1 hx).1;obtain ⟨ad, rfl, hc⟩ := hS.at_ hx
   have hlt : decide (r < b.length) = true := by simp; omega
   cases hbl : Js.isDigit x with
   | false =>
    have hz' : Hid (q = r) := by have := hk.out; have := hq.out; have := Js.digit_stop hx hbl; show _ = _; omega
    clear hx hq hk
    have hbl' : x < 48 ∨ 48 ≤ x ∧ 57 < x := by
     simp only [Js.isDigit, Bool.and_eq_false_iff, decide_eq_false_iff_not] at hbl; omega
    clear hbl
    rcases hbl' with e | ⟨e, e'⟩
    ·have b1 : decide (48 ≤ x) = false := by simp; omega
     go_wp2
     repeat (go_quiet (fail); try go_wp2)
     go_end0
     exact ⟨rfl, by rw [hz'.out]; first | exact hS.drewN _ | exact hS, by first | exact kdrN hK _ | exact hK⟩
    ·have b1 : decide (48 ≤ x) = true := by simp; omega
     have b2 : decide (x ≤ 57) = false := by simp; omega
     go_wp2
     repeat (go_quiet (fail); try go_wp2)
     go_end0
     exact ⟨rfl, by rw [hz'.out]; first | exact hS.drewN _ | exact hS, by first | exact kdrN hK _ | exact hK⟩
   | true =>
    have hst := Js.digit_step hx hbl
    obtain ⟨k1, rfl⟩ : ∃ k, gk = k + 1 := ⟨Js.digitLen (b.drop (r + 1)), by have := hk.out; omega⟩
    have hq1 : Hid (r + 1 + k1 = q) := by have := hq.out; show _ = _; omega
    have hk1 : Hid (k1 = Js.digitLen (b.drop (r + 1))) := by have := hk.out; show _ = _; omega
    clear hx hq hk hst;simp only [Js.isDigit, Bool.and_eq_true] at hbl;obtain ⟨b1, b2⟩ := hbl;go_wp2
    repeat (go_quiet (fail); try go_wp2)
    go_roundg k1
    case measure => omega
    case rel => exact ⟨r + 1, hq1, hk1, (RS.to (p := (r : Int) + 1) (by repeat (first | exact hS | apply RS.drewN | apply RS.drew | apply RS.set1 | apply RS.set2)) (by omega) rfl), (by repeat (first | exact hK | apply Kbt.set_ | apply kdrN | apply keep_drew | apply kal))⟩
theorem digits_no {w0 : World} {g : Nat} {A : Option Addr} {c : Nat} {b : List Int} {w : World} {d : Int} {p x k : Nat} (h : RS w0 g A c b w p d) (hd : Js.digits b p = .no x k) :
  Calls Tryd.prog 101 #[.pointer (some ⟨g, 0, none⟩)] w fun e w' => e = .panicked [{ v := .iface 115 (.agg #[.int .i64 (x : Int), .int .i64 (k : Int)]), recovered := false }] ∧ Below w0.heap.size w0 w' ∧ Kbt w w' g none := by
 have hsm := h.small
 cases hx : b[p]? with
 | none =>
  obtain ⟨rfl, rfl⟩ : p = x ∧ 11 = k := by simpa [Js.digits, hx] using hd
  clear hd;have hp1 := peek_no h hx;clear hx;go_enter Tryd.func101, Tryd.ntmps101;go_wp2_with (go_at_call 74; refine hp1.mono ?_; rintro e w' ⟨rfl, n, rfl⟩);exact ⟨rfl, rfl, pbdN h.bel _, kdrN (Kbt.refl _ _ _) _⟩
 | some y =>
  cases hdx : Js.isDigit y with
  | true => simp [Js.digits, hx, hdx] at hd
  | false =>
   obtain ⟨rfl, rfl⟩ : p = x ∧ 6 = k := by simpa [Js.digits, hx, hdx] using hd
   clear hd;have hp1 := peek_ok h hx;clear hx
   have hbl' : y < 48 ∨ 48 ≤ y ∧ 57 < y := by
    simp only [Js.isDigit, Bool.and_eq_false_iff, decide_eq_false_iff_not] at hdx; omega
   clear hdx
   rcases hbl' with e | ⟨e, e'⟩
   ·go_enter Tryd.func101, Tryd.ntmps101
    go_wp2_with (first | (go_at_call 74; refine hp1.mono ?_; rintro e w' ⟨rfl, n, rfl⟩) | (go_at_call 60; refine (fail_calls _ (h.drewN _)).mono ?_; rintro e w' ⟨rfl, rfl⟩));exact ⟨rfl, rfl, pbdN h.bel _, kdrN (Kbt.refl _ _ _) _⟩
   ·go_enter Tryd.func101, Tryd.ntmps101
    go_wp2_with (first | (go_at_call 74; refine hp1.mono ?_; rintro e w' ⟨rfl, n, rfl⟩) | (go_at_call 60; refine (fail_calls _ (h.drewN _)).mono ?_; rintro e w' ⟨rfl, rfl⟩));exact ⟨rfl, rfl, pbdN h.bel _, kdrN (Kbt.refl _ _ _) _⟩
end Go.Proofs.YteighppcdpaekaaDoor.Rd
end
