/- Walks and words of this session, put together by a program of this session (pack.py). Conditions: as each text says. -/
import Derived.Test.YteighppcdpaekaaDoorS2
import Derived.Test.YteighppcdpaekaaDoorS6
set_option linter.unusedVariables false
set_option linter.unusedSimpArgs false
section
namespace Go.Proofs.YteighppcdpaekaaDoor.P
open Go.RowKit Go.Proofs.YteighppcdpaekaaDoorW.PrintWords Go.Proofs.YteighppcdpaekaaDoorW.PrintLast Go.Proofs.YteighppcdpaekaaDoorW.PrintMore
attribute [local go_sem] max2_int min2_int max_two min_two max_three min_three max_four min_four
set_option linter.unusedVariables false
set_option linter.unusedSimpArgs false
def R3q_Letters.l0 : Nat → List Int → List (S123) → Int → Option ((List (S123)))
 | 0, _, _, _ => none
 | k + 1, x0, x3, x4 => if x4 < (x0.length : Int) then ((R3q_One.f k x0 x4).bind fun bt518 => (if bt518.2 = 0 then (if x3.length < 5864062014805 then (R3q_Letters.l0 k x0 (x3 ++ [(⟨x4, (-1), 1⟩ : S123)]) (wrap64 (x4 + 1))) else (none)) else (if x3.length < 5864062014805 then (R3q_Letters.l0 k x0 (x3 ++ [(⟨x4, bt518.1, bt518.2⟩ : S123)]) (wrap64 (x4 + bt518.2))) else (none)))) else (some x3)
def R3q_Letters.f (k : Nat) (l0 : List Int) : Option ((List (S123))) := R3q_Letters.l0 k l0 ([] : List (S123)) 0
set_option maxHeartbeats 8000000 in
set_option maxRecDepth 100000 in
theorem R3q_Letters.calls (k : Nat) (A0 : Option Addr) (c0 : Nat) (l0 : List Int) (r : List (S123)) (w : World) (hr0 : Kd.C (Kd.int .u8) w A0 l0.length l0) (hc0 : l0.length ≤ c0) (h : R3q_Letters.f k l0 = some r) :
  Calls Tryd.prog 63 #[.slice A0 l0.length c0] w fun e w' => ∃ v0_ : Value, e = .returned (v0_) ∧ Kd.R k123 123 w' w.heap.size (fun _ => True) v0_ r ∧ Below w.heap.size w w' := by
 have hu123 := Tryd.underlying123;have HR0 := Sdq.mk hr0;have HC0 := Sdq.mk hc0;clear hr0 hc0;have HB := Sdq.mk (Below.refl w.heap.size w);have H : (R3q_Letters.l0 k l0 ([] : List (S123)) 0) = some r := h;clear h;have H' := Sdq.mk H;clear H;go_enter Tryd.func63, Tryd.ntmps63;go_wp2
 go_loopg [3, 4] k (fun kq v3 v4 w' => ∃ (x3_1 : List (S123)) (x4_1 : Int), v4 = .int .i64 x4_1 ∧ Sdq (R3q_Letters.l0 kq l0 x3_1 x4_1 = some r) ∧ Sdq (kq ≤ k) ∧ Sdq (Kd.R k123 123 w' w.heap.size (fun _ => True) v3 x3_1) ∧ Sdq (Below w.heap.size w w'))
 case atStart => exact ⟨(([] : List (S123))), (0), (by first | rfl | (simp; done) | (simp [*]; done)), H', ⟨Nat.le_refl _⟩, ⟨by first | exact Kd.R_nil _ _ _ _ _ | exact Kd.N_nil _ _ _ _ _ | exact Kd.V_nil _ _ _ _ _ | exact Kd.Q_nil _ _ _ _ _ | exact Kd.S_nil _ _ _ _ _⟩, ⟨by repeat (first | (with_reducible first | exact HB.out | apply bal | apply pbdN | apply bdr1) | exact HB.out)⟩⟩
 case round =>
  clear H';obtain ⟨x3_1, x4_1, rfl, HA, HK1, HO_3, HB⟩ := hrel
  cases gk with
  | zero => exact absurd HA.out (by simp [R3q_Letters.l0])
  | succ k1 =>
   have H := HA.out;clear HA;simp only [R3q_Letters.l0] at H;by_cases c2 : x4_1 < (l0.length : Int)
   ·rw [if_pos c2] at H
    have c2b0 : decide (x4_1 < (l0.length : Int)) = true := decide_eq_true c2;clear c2;replace H := Option.bind_eq_some_iff.mp H;obtain ⟨⟨t518, t519⟩, A30, H⟩ := H;replace H : (if t519 = 0 then (if x3_1.length < 5864062014805 then (R3q_Letters.l0 k1 l0 (x3_1 ++ [(⟨x4_1, (-1), 1⟩ : S123)]) (wrap64 (x4_1 + 1))) else (none)) else (if x3_1.length < 5864062014805 then (R3q_Letters.l0 k1 l0 (x3_1 ++ [(⟨x4_1, t518, t519⟩ : S123)]) (wrap64 (x4_1 + t519))) else (none))) = some r := H;have A3 := Sdq.mk A30;clear A30;by_cases c4 : t519 = 0
    ·rw [if_pos c4] at H
     have c4b0 : (t519 == 0) = true := beq_iff_eq.mpr c4;have c4b1 : (t519 != 0) = false := bne_eq_false_iff_eq.mpr c4;clear c4;by_cases c5 : x3_1.length < 5864062014805
     ·rw [if_pos c5] at H
      have LMc5 := Sdq.mk c5;clear c5
      obtain ⟨y520, hy520⟩ : ∃ y_ : List (S123), y_ = (x3_1 ++ [(⟨x4_1, (-1), 1⟩ : S123)]) := ⟨_, rfl⟩
      replace H : (R3q_Letters.l0 k1 l0 y520 (wrap64 (x4_1 + 1))) = some r := by first | (rw [hy520]; with_reducible exact H) | (have H2_ := (Option.bind_some _ _).symm.trans H; rw [hy520]; with_reducible exact H2_) | (have H2_ := (Option.bind_some _ _).symm.trans H; with_reducible exact H2_) | with_reducible exact H | (rw [hy520]; exact H) | exact H
      have Ny520 := Sdq.mk hy520;clear hy520;have H' := Sdq.mk H;clear H;go_wp2_with (first | ((with_reducible refine gate_callee (f := 85) rfl ?_); refine goesL_ (some 14) rfl rfl Tryd.func85 (by kernel_rfl) rfl #[.slice A0 l0.length c0, .int .i64 x4_1] rfl (by (try simp only [List.map_toArray, List.map_cons, List.map_nil]); first | done | rfl | (simp only [List.length_drop, List.length_take]; rfl)) ?_; (with_reducible refine (R3q_One.calls k1 _ _ l0 x4_1 t518 t519 _ ?side1 ?side2 A3.out).mono ?_); (case side1 => repeat (first | exact (Kd.C_below HR0.out HB.out) | (with_reducible refine Kd.C_alloc ?_ _) | (with_reducible refine Kd.C_drewN ?_ _) | (with_reducible refine Kd.C_drew ?_))); (case side2 => exact HC0.out); rintro e w6 ⟨rfl, hb⟩; refine ⟨_, rfl, ?_⟩; have n0_ := Sdq.mk (Kd.R_below (by (with_reducible repeat (first | apply Kd.R_alloc | apply Kd.R_drewN | apply Kd.R_drew)); exact HO_3.out) hb); have n1_ := Sdq.mk (below_step (by repeat (first | (with_reducible first | exact HB.out | apply bal | apply pbdN | apply bdr1) | exact HB.out)) hb); clear HO_3; clear HB; have HO_3 := n0_; have HB := n1_; clear n0_ n1_; (try clear hb); (try clear hb2); (try clear hk); (try clear hi)) | ((with_reducible refine gate_builtin (b := .append) (xs := #[.tmp 19, .tmp 22]) rfl ?_); at_builtin; refine Kd.R_append k123 (w0 := w) w.heap.size rfl (.tmp 19) (.tmp 22) 120 123 (.agg #[(.int .i64 0), (.int .i64 0), (.int .i64 0)]) 24 rfl Tryd.underlying120 info123 rfl (by decide) (by omega) u3 x3_1 (⟨x4_1, (-1), 1⟩ : S123) [.int .i64 x4_1, .int .i64 (-1), .int .i64 1] (fun _ => True) (fun _ => False) rfl rfl ?aP (fun _ hk => hk.elim) ?aF ?aO ?aB ?aS ?aL ?_; (case aP => exact k123_mkM _ _ _ (⟨x4_1, (-1), 1⟩ : S123)); (case aB => exact (by repeat (first | (with_reducible first | exact HB.out | apply bal | apply pbdN | apply bdr1) | exact HB.out))); (case aF => exact (fun _ _ => trivial)); (case aO => exact (by (with_reducible repeat (first | apply Kd.R_alloc | apply Kd.R_drewN | apply Kd.R_drew)); exact HO_3.out)); (case aS => exact (below_size (by repeat (first | (with_reducible first | exact HB.out | apply bal | apply pbdN | apply bdr1) | exact HB.out)))); (case aL => have := LMc5.out; omega); intro v521 w7 ho hb hg hat; rw [← Ny520.out] at ho; have n0_ := Sdq.mk (hb); have n1_ := Sdq.mk (ho); clear HB; clear HO_3; have HB := n0_; have HO522 := n1_; clear n0_ n1_; clear ho hb hg hat))
      go_roundg k1
      case measure => have := HK1.out; omega
      case rel => exact ⟨(y520), (wrap64 (x4_1 + 1)), (by first | rfl | (simp; done) | (simp [*]; done)), H', ⟨by have := HK1.out; omega⟩, ⟨by (with_reducible repeat (first | apply Kd.R_alloc | apply Kd.R_drewN | apply Kd.R_drew)); exact HO522.out⟩, ⟨by repeat (first | (with_reducible first | exact HB.out | apply bal | apply pbdN | apply bdr1) | exact HB.out)⟩⟩
     ·rw [if_neg c5] at H
      exact absurd H (by simp)
    ·rw [if_neg c4] at H
     have c4b0 : (t519 == 0) = false := beq_eq_false_iff_ne.mpr c4;have c4b1 : (t519 != 0) = true := bne_iff_ne.mpr c4;by_cases c8 : x3_1.length < 5864062014805
     ·rw [if_pos c8] at H
      have LMc8 := Sdq.mk c8;clear c8
      obtain ⟨y523, hy523⟩ : ∃ y_ : List (S123), y_ = (x3_1 ++ [(⟨x4_1, t518, t519⟩ : S123)]) := ⟨_, rfl⟩
      replace H : (R3q_Letters.l0 k1 l0 y523 (wrap64 (x4_1 + t519))) = some r := by first | (rw [hy523]; with_reducible exact H) | (have H2_ := (Option.bind_some _ _).symm.trans H; rw [hy523]; with_reducible exact H2_) | (have H2_ := (Option.bind_some _ _).symm.trans H; with_reducible exact H2_) | with_reducible exact H | (rw [hy523]; exact H) | exact H
      have Ny523 := Sdq.mk hy523;clear hy523;have H' := Sdq.mk H;clear H;go_wp2_with (first | ((with_reducible refine gate_callee (f := 85) rfl ?_); refine goesL_ (some 14) rfl rfl Tryd.func85 (by kernel_rfl) rfl #[.slice A0 l0.length c0, .int .i64 x4_1] rfl (by (try simp only [List.map_toArray, List.map_cons, List.map_nil]); first | done | rfl | (simp only [List.length_drop, List.length_take]; rfl)) ?_; (with_reducible refine (R3q_One.calls k1 _ _ l0 x4_1 t518 t519 _ ?side1 ?side2 A3.out).mono ?_); (case side1 => repeat (first | exact (Kd.C_below HR0.out HB.out) | (with_reducible refine Kd.C_alloc ?_ _) | (with_reducible refine Kd.C_drewN ?_ _) | (with_reducible refine Kd.C_drew ?_))); (case side2 => exact HC0.out); rintro e w9 ⟨rfl, hb⟩; refine ⟨_, rfl, ?_⟩; have n0_ := Sdq.mk (Kd.R_below (by (with_reducible repeat (first | apply Kd.R_alloc | apply Kd.R_drewN | apply Kd.R_drew)); exact HO_3.out) hb); have n1_ := Sdq.mk (below_step (by repeat (first | (with_reducible first | exact HB.out | apply bal | apply pbdN | apply bdr1) | exact HB.out)) hb); clear HO_3; clear HB; have HO_3 := n0_; have HB := n1_; clear n0_ n1_; (try clear hb); (try clear hb2); (try clear hk); (try clear hi)) | ((with_reducible refine gate_builtin (b := .append) (xs := #[.tmp 26, .tmp 31]) rfl ?_); at_builtin; refine Kd.R_append k123 (w0 := w) w.heap.size rfl (.tmp 26) (.tmp 31) 120 123 (.agg #[(.int .i64 0), (.int .i64 0), (.int .i64 0)]) 24 rfl Tryd.underlying120 info123 rfl (by decide) (by omega) u3 x3_1 (⟨x4_1, t518, t519⟩ : S123) [.int .i64 x4_1, .int .i64 t518, .int .i64 t519] (fun _ => True) (fun _ => False) rfl rfl ?aP (fun _ hk => hk.elim) ?aF ?aO ?aB ?aS ?aL ?_; (case aP => exact k123_mkM _ _ _ (⟨x4_1, t518, t519⟩ : S123)); (case aB => exact (by repeat (first | (with_reducible first | exact HB.out | apply bal | apply pbdN | apply bdr1) | exact HB.out))); (case aF => exact (fun _ _ => trivial)); (case aO => exact (by (with_reducible repeat (first | apply Kd.R_alloc | apply Kd.R_drewN | apply Kd.R_drew)); exact HO_3.out)); (case aS => exact (below_size (by repeat (first | (with_reducible first | exact HB.out | apply bal | apply pbdN | apply bdr1) | exact HB.out)))); (case aL => have := LMc8.out; omega); intro v524 w10 ho hb hg hat; rw [← Ny523.out] at ho; have n0_ := Sdq.mk (hb); have n1_ := Sdq.mk (ho); clear HB; clear HO_3; have HB := n0_; have HO525 := n1_; clear n0_ n1_; clear ho hb hg hat))
      go_roundg k1
      case measure => have := HK1.out; omega
      case rel => exact ⟨(y523), (wrap64 (x4_1 + t519)), (by first | rfl | (simp; done) | (simp [*]; done)), H', ⟨by have := HK1.out; omega⟩, ⟨by (with_reducible repeat (first | apply Kd.R_alloc | apply Kd.R_drewN | apply Kd.R_drew)); exact HO525.out⟩, ⟨by repeat (first | (with_reducible first | exact HB.out | apply bal | apply pbdN | apply bdr1) | exact HB.out)⟩⟩
     ·rw [if_neg c8] at H
      exact absurd H (by simp)
   ·rw [if_neg c2] at H
    have c2b0 : decide (x4_1 < (l0.length : Int)) = false := decide_eq_false c2;clear c2;obtain rfl := Option.some.inj H;go_wp2;go_ret;exact ⟨_, by first | rfl | (simp [errW_none, errW_some] <;> rfl) | (simp [*, errW_none, errW_some] <;> rfl), by (with_reducible repeat (first | apply Kd.R_alloc | apply Kd.R_drewN | apply Kd.R_drew)); exact HO_3.out, by repeat (first | (with_reducible first | exact HB.out | apply bal | apply pbdN | apply bdr1) | exact HB.out)⟩
def R3q_Valid.l0 : Nat → List (S123) → Int → Option (Int × Int)
 | 0, _, _ => none
 | k + 1, x4, x5 => if x5 < (x4.length : Int) then (if 0 ≤ x5 then (if ((rd_T123 x4 x5).f1) < 0 then (some ((rd_T123 x4 x5).f0, 10)) else (R3q_Valid.l0 k x4 (wrap64 (x5 + 1)))) else (none)) else (some (0, 0))
def R3q_Valid.f (k : Nat) (l0 : List Int) : Option (Int × Int) := (R3q_Letters.f k l0).bind fun t526 => (R3q_Valid.l0 k t526 0)
set_option maxHeartbeats 8000000 in
set_option maxRecDepth 100000 in
theorem R3q_Valid.calls (k : Nat) (A0 : Option Addr) (c0 : Nat) (l0 : List Int) (r1 : Int) (r2 : Int) (w : World) (hr0 : Kd.C (Kd.int .u8) w A0 l0.length l0) (hc0 : l0.length ≤ c0) (h : R3q_Valid.f k l0 = some (r1, r2)) :
  Calls Tryd.prog 43 #[.slice A0 l0.length c0] w fun e w' => e = .returned (.tuple #[.int .i64 r1, .int .i64 r2]) ∧ Below w.heap.size w w' := by
 have HR0 := Sdq.mk hr0;have HC0 := Sdq.mk hc0;clear hr0 hc0;have HB := Sdq.mk (Below.refl w.heap.size w);have H : ((R3q_Letters.f k l0).bind fun t526 => (R3q_Valid.l0 k t526 0)) = some (r1, r2) := h;clear h;replace H := Option.bind_eq_some_iff.mp H;obtain ⟨t526, A20, H⟩ := H;replace H : (R3q_Valid.l0 k t526 0) = some (r1, r2) := H;have A2 := Sdq.mk A20;clear A20;have H' := Sdq.mk H;clear H;go_enter Tryd.func43, Tryd.ntmps43;go_wp2_with (first | ((with_reducible refine gate_callee (f := 63) rfl ?_); refine goesL_ (some 7) rfl rfl Tryd.func63 (by kernel_rfl) rfl #[.slice A0 l0.length c0] rfl (by (try simp only [List.map_toArray, List.map_cons, List.map_nil]); first | done | rfl | (simp only [List.length_drop, List.length_take]; rfl)) ?_; (with_reducible refine (R3q_Letters.calls k _ _ l0 t526 _ ?side1 ?side2 A2.out).mono ?_); (case side1 => repeat (first | exact HR0.out | (with_reducible refine Kd.C_alloc ?_ _) | (with_reducible refine Kd.C_drewN ?_ _) | (with_reducible refine Kd.C_drew ?_))); (case side2 => exact HC0.out); rintro e w3 ⟨v527, rfl, ho0, hb⟩; refine ⟨_, rfl, ?_⟩; have n0_ := Sdq.mk (Kd.R_lower ho0 (below_size (by repeat (first | (with_reducible first | exact HB.out | apply bal | apply pbdN | apply bdr1) | exact HB.out)))); have n1_ := Sdq.mk (below_step (by repeat (first | (with_reducible first | exact HB.out | apply bal | apply pbdN | apply bdr1) | exact HB.out)) hb); clear HB; have HO528 := n0_; have HB := n1_; clear n0_ n1_; (try clear hb); (try clear hb2); (try clear hk); (try clear hi); (try clear ho0)))
 go_loopg [5] k (fun kq v5 w' => ∃ (x5_1 : Int), v5 = .int .i64 x5_1 ∧ Sdq (R3q_Valid.l0 kq t526 x5_1 = some (r1, r2)) ∧ Sdq (kq ≤ k) ∧ Sdq (Kd.R k123 123 w' w.heap.size (fun _ => True) v527 t526) ∧ Sdq (Below w.heap.size w w'))
 case atStart => exact ⟨(0), (by first | rfl | (simp; done) | (simp [*]; done)), H', ⟨Nat.le_refl _⟩, ⟨by (with_reducible repeat (first | apply Kd.R_alloc | apply Kd.R_drewN | apply Kd.R_drew)); exact HO528.out⟩, ⟨by repeat (first | (with_reducible first | exact HB.out | apply bal | apply pbdN | apply bdr1) | exact HB.out)⟩⟩
 case round =>
  clear H'
  try clear p2
  obtain ⟨x5_1, rfl, HA, HK1, HO_4, HB⟩ := hrel
  cases gk with
  | zero => exact absurd HA.out (by simp [R3q_Valid.l0])
  | succ k1 =>
   have H := HA.out;clear HA;simp only [R3q_Valid.l0] at H;by_cases c4 : x5_1 < (t526.length : Int)
   ·rw [if_pos c4] at H
    have c4b0 : decide (x5_1 < (t526.length : Int)) = true := decide_eq_true c4;clear c4;by_cases c5 : 0 ≤ x5_1
    ·rw [if_pos c5] at H
     have c5b0 : decide (0 ≤ x5_1) = true := decide_eq_true c5;clear c5;by_cases c6 : ((rd_T123 t526 x5_1).f1) < 0
     ·rw [if_pos c6] at H
      have c6b0 : decide (((rd_T123 t526 x5_1).f1) < 0) = true := decide_eq_true c6;clear c6;simp only [Option.some.injEq, Prod.mk.injEq] at H;obtain ⟨rfl, rfl⟩ := H;obtain ⟨Ao7, co7, eo7⟩ := Kd.R_slice HO_4.out;subst eo7;have p529 : 0 ≤ (x5_1 : Int) := of_decide_eq_true (by assumption);have q529 : x5_1 < (t526.length : Int) := of_decide_eq_true (by assumption);obtain ⟨ad529, e529, hx529_0, hx529_1, hx529_2⟩ := at_T123 (Kd.R_reads' HO_4.out).2.2 x5_1 p529 q529;cases e529;replace p529 := eq_true p529;replace q529 := eq_true q529;have p530 : 0 ≤ (x5_1 : Int) := of_decide_eq_true (by assumption);have q530 : x5_1 < (t526.length : Int) := of_decide_eq_true (by assumption);obtain ⟨ad530, e530, hx530_0, hx530_1, hx530_2⟩ := at_T123 (Kd.R_reads' HO_4.out).2.2 x5_1 p530 q530
      obtain rfl : ad529 = ad530 := (by injection e530)
      replace p530 := eq_true p530;replace q530 := eq_true q530;go_wp2
      go_ret2
      exact ⟨by first | rfl | (simp [errW_none, errW_some] <;> rfl) | (simp [*, errW_none, errW_some] <;> rfl), by repeat (first | (with_reducible first | exact HB.out | apply bal | apply pbdN | apply bdr1) | exact HB.out)⟩
     ·rw [if_neg c6] at H
      have c6b0 : decide (((rd_T123 t526 x5_1).f1) < 0) = false := decide_eq_false c6;clear c6;have H' := Sdq.mk H;clear H;obtain ⟨Ao8, co8, eo8⟩ := Kd.R_slice HO_4.out;subst eo8;have p529 : 0 ≤ (x5_1 : Int) := of_decide_eq_true (by assumption);have q529 : x5_1 < (t526.length : Int) := of_decide_eq_true (by assumption);obtain ⟨ad529, e529, hx529_0, hx529_1, hx529_2⟩ := at_T123 (Kd.R_reads' HO_4.out).2.2 x5_1 p529 q529;cases e529;replace p529 := eq_true p529;replace q529 := eq_true q529;go_wp2
      go_roundg k1
      case measure => have := HK1.out; omega
      case rel => exact ⟨(wrap64 (x5_1 + 1)), (by first | rfl | (simp; done) | (simp [*]; done)), H', ⟨by have := HK1.out; omega⟩, ⟨by (with_reducible repeat (first | apply Kd.R_alloc | apply Kd.R_drewN | apply Kd.R_drew)); exact HO_4.out⟩, ⟨by repeat (first | (with_reducible first | exact HB.out | apply bal | apply pbdN | apply bdr1) | exact HB.out)⟩⟩
    ·rw [if_neg c5] at H
     exact absurd H (by simp)
   ·rw [if_neg c4] at H
    have c4b0 : decide (x5_1 < (t526.length : Int)) = false := decide_eq_false c4;clear c4;simp only [Option.some.injEq, Prod.mk.injEq] at H;obtain ⟨rfl, rfl⟩ := H;obtain ⟨Ao9, co9, eo9⟩ := Kd.R_slice HO_4.out;subst eo9;go_wp2
    go_ret2
    exact ⟨by first | rfl | (simp [errW_none, errW_some] <;> rfl) | (simp [*, errW_none, errW_some] <;> rfl), by repeat (first | (with_reducible first | exact HB.out | apply bal | apply pbdN | apply bdr1) | exact HB.out)⟩
def IsS96 (w0 W : World) (g : Nat) (f0 : List Int) (f1 : Int) (f2 : Int) (f3 : Int) (f4 : Int) : Prop := ∃ A0 c0, W.heap[g]? = some (.cells #[.slice A0 f0.length c0, .int .i64 f1, .int .i64 f2, .int .i64 f3, .int .i64 f4] 96 (0, 0)) ∧ (w0.heap.size ≤ g ∧ f0.length ≤ c0) ∧ Kd.C (Kd.int .u8) w0 A0 f0.length f0
theorem IsS96.grown {w0 W : World} {g : Nat} {f0 : List Int} {f1 : Int} {f2 : Int} {f3 : Int} {f4 : Int} {W1 : World} {row : Option Nat} (h : IsS96 w0 W g f0 f1 f2 f3 f4) (hw : W.grownBy W1 row) (hne : some g ≠ row) : IsS96 w0 W1 g f0 f1 f2 f3 f4 := by
 obtain ⟨A0, c0, hb, hg, hr0⟩ := h;exact ⟨A0, c0, blk_grown hb hw hne, hg, hr0⟩
theorem IsS96.kept {w0 W : World} {g : Nat} {f0 : List Int} {f1 : Int} {f2 : Int} {f3 : Int} {f4 : Int} {W1 : World} {S : Nat → Prop} (h : IsS96 w0 W g f0 f1 f2 f3 f4) (hk : Kept W W1 S) (hne : ¬ S g) : IsS96 w0 W1 g f0 f1 f2 f3 f4 := by
 obtain ⟨A0, c0, hb, hg, hr0⟩ := h;exact ⟨A0, c0, blk_kept hb hk hne, hg, hr0⟩
theorem IsS96.below {w0 W : World} {g : Nat} {f0 : List Int} {f1 : Int} {f2 : Int} {f3 : Int} {f4 : Int} {W1 : World} (h : IsS96 w0 W g f0 f1 f2 f3 f4) (hw : Below W.heap.size W W1) : IsS96 w0 W1 g f0 f1 f2 f3 f4 := h.grown (grown_of_below hw none) (by simp)
theorem IsS96.alloc {w0 W : World} {g : Nat} {f0 : List Int} {f1 : Int} {f2 : Int} {f3 : Int} {f4 : Int} (h : IsS96 w0 W g f0 f1 f2 f3 f4) (o : Obj) : IsS96 w0 (W.alloc o) g f0 f1 f2 f3 f4 := h.below (bal (Below.refl _ _) o)
theorem IsS96.drewN {w0 W : World} {g : Nat} {f0 : List Int} {f1 : Int} {f2 : Int} {f3 : Int} {f4 : Int} (h : IsS96 w0 W g f0 f1 f2 f3 f4) (m : Nat) : IsS96 w0 (W.drewN m) g f0 f1 f2 f3 f4 := h
theorem IsS96.drew {w0 W : World} {g : Nat} {f0 : List Int} {f1 : Int} {f2 : Int} {f3 : Int} {f4 : Int} (h : IsS96 w0 W g f0 f1 f2 f3 f4) : IsS96 w0 W.drew g f0 f1 f2 f3 f4 := h
theorem IsS96.at_ {w0 W : World} {g : Nat} {f0 : List Int} {f1 : Int} {f2 : Int} {f3 : Int} {f4 : Int} {w' : World} {m : Nat} (hq : W.drewN m = w') (h : IsS96 w0 W g f0 f1 f2 f3 f4) : IsS96 w0 w' g f0 f1 f2 f3 f4 := by subst hq; exact IsS96.drewN h m
theorem IsS96.apart {w0 W : World} {g : Nat} {f0 : List Int} {f1 : Int} {f2 : Int} {f3 : Int} {f4 : Int} {α : Type} {d : Kd α} {e : Nat} {base : Nat} {ok : Nat → Prop} {v : Value} {xs : List α} (h : IsS96 w0 W g f0 f1 f2 f3 f4) (ho : d.R e W base ok v xs) (ht : ∀ q, q ∈ e :: d.E → q ≠ 96) : d.R e W base (fun k => ok k ∧ k ≠ g) v xs := by
 obtain ⟨A0, c0, hb, hg, hr0⟩ := h;exact Kd.R_types ho hb ht
theorem IsS96.own_ne {w0 W : World} {g : Nat} {f0 : List Int} {f1 : Int} {f2 : Int} {f3 : Int} {f4 : Int} {α : Type} {d : Kd α} {e : Nat} {base : Nat} {ok : Nat → Prop} {v : Value} {xs : List α} (h : IsS96 w0 W g f0 f1 f2 f3 f4) (ho : d.R e W base ok v xs) (ht : e ≠ 96) : some g ≠ v.ownBlock := by
 obtain ⟨A0, c0, hb, hg, hr0⟩ := h;exact Kd.R_ne ho hb ht
theorem IsS96.lt {w0 W : World} {g : Nat} {f0 : List Int} {f1 : Int} {f2 : Int} {f3 : Int} {f4 : Int} (h : IsS96 w0 W g f0 f1 f2 f3 f4) : g < W.heap.size := by
 obtain ⟨A0, c0, hb, hg, hr0⟩ := h;exact blk_lt hb
theorem IsS96.ge {w0 W : World} {g : Nat} {f0 : List Int} {f1 : Int} {f2 : Int} {f3 : Int} {f4 : Int} (h : IsS96 w0 W g f0 f1 f2 f3 f4) : w0.heap.size ≤ g := by
 obtain ⟨A0, c0, hb, hg, hr0⟩ := h;exact hg.1
theorem IsS96.far {w0 W : World} {g : Nat} {f0 : List Int} {f1 : Int} {f2 : Int} {f3 : Int} {f4 : Int} {p : Addr} (h : IsS96 w0 W g f0 f1 f2 f3 f4) (hne : g ≠ p.block) (u : Value) : IsS96 w0 (W.setCell p u) g f0 f1 f2 f3 f4 := by
 obtain ⟨A0, c0, hb, hg, hr0⟩ := h;exact ⟨A0, c0, blk_far hb hne u, hg, hr0⟩
theorem cellS96_0 {W : World} {g : Nat} {A0 : Option Addr} {c0 : Nat} {f0 : List Int} {f1 : Int} {f2 : Int} {f3 : Int} {f4 : Int} (h : W.heap[g]? = some (.cells #[.slice A0 f0.length c0, .int .i64 f1, .int .i64 f2, .int .i64 f3, .int .i64 f4] 96 (0, 0))) : W.cell? ⟨g, 0, none⟩ = some (.slice A0 f0.length c0) := (bceq h 0).trans rfl
theorem cellS96_1 {W : World} {g : Nat} {A0 : Option Addr} {c0 : Nat} {f0 : List Int} {f1 : Int} {f2 : Int} {f3 : Int} {f4 : Int} (h : W.heap[g]? = some (.cells #[.slice A0 f0.length c0, .int .i64 f1, .int .i64 f2, .int .i64 f3, .int .i64 f4] 96 (0, 0))) : W.cell? ⟨g, 1, none⟩ = some (.int .i64 f1) := (bceq h 1).trans rfl
theorem IsS96.set_1 {w0 W : World} {g : Nat} {f0 : List Int} {f1 : Int} {f2 : Int} {f3 : Int} {f4 : Int} (h : IsS96 w0 W g f0 f1 f2 f3 f4) (x : Int) : IsS96 w0 (W.setCell ⟨g, 1, none⟩ (.int .i64 x)) g f0 x f2 f3 f4 := by
 obtain ⟨A0, c0, hb, hg, hr0⟩ := h;exact ⟨A0, c0, by simpa using blk_set hb 1 (.int .i64 x), hg, hr0⟩
theorem cellS96_2 {W : World} {g : Nat} {A0 : Option Addr} {c0 : Nat} {f0 : List Int} {f1 : Int} {f2 : Int} {f3 : Int} {f4 : Int} (h : W.heap[g]? = some (.cells #[.slice A0 f0.length c0, .int .i64 f1, .int .i64 f2, .int .i64 f3, .int .i64 f4] 96 (0, 0))) : W.cell? ⟨g, 2, none⟩ = some (.int .i64 f2) := (bceq h 2).trans rfl
theorem IsS96.set_2 {w0 W : World} {g : Nat} {f0 : List Int} {f1 : Int} {f2 : Int} {f3 : Int} {f4 : Int} (h : IsS96 w0 W g f0 f1 f2 f3 f4) (x : Int) : IsS96 w0 (W.setCell ⟨g, 2, none⟩ (.int .i64 x)) g f0 f1 x f3 f4 := by
 obtain ⟨A0, c0, hb, hg, hr0⟩ := h;exact ⟨A0, c0, by simpa using blk_set hb 2 (.int .i64 x), hg, hr0⟩
theorem cellS96_3 {W : World} {g : Nat} {A0 : Option Addr} {c0 : Nat} {f0 : List Int} {f1 : Int} {f2 : Int} {f3 : Int} {f4 : Int} (h : W.heap[g]? = some (.cells #[.slice A0 f0.length c0, .int .i64 f1, .int .i64 f2, .int .i64 f3, .int .i64 f4] 96 (0, 0))) : W.cell? ⟨g, 3, none⟩ = some (.int .i64 f3) := (bceq h 3).trans rfl
theorem IsS96.set_3 {w0 W : World} {g : Nat} {f0 : List Int} {f1 : Int} {f2 : Int} {f3 : Int} {f4 : Int} (h : IsS96 w0 W g f0 f1 f2 f3 f4) (x : Int) : IsS96 w0 (W.setCell ⟨g, 3, none⟩ (.int .i64 x)) g f0 f1 f2 x f4 := by
 obtain ⟨A0, c0, hb, hg, hr0⟩ := h;exact ⟨A0, c0, by simpa using blk_set hb 3 (.int .i64 x), hg, hr0⟩
theorem cellS96_4 {W : World} {g : Nat} {A0 : Option Addr} {c0 : Nat} {f0 : List Int} {f1 : Int} {f2 : Int} {f3 : Int} {f4 : Int} (h : W.heap[g]? = some (.cells #[.slice A0 f0.length c0, .int .i64 f1, .int .i64 f2, .int .i64 f3, .int .i64 f4] 96 (0, 0))) : W.cell? ⟨g, 4, none⟩ = some (.int .i64 f4) := (bceq h 4).trans rfl
theorem IsS96.set_4 {w0 W : World} {g : Nat} {f0 : List Int} {f1 : Int} {f2 : Int} {f3 : Int} {f4 : Int} (h : IsS96 w0 W g f0 f1 f2 f3 f4) (x : Int) : IsS96 w0 (W.setCell ⟨g, 4, none⟩ (.int .i64 x)) g f0 f1 f2 f3 x := by
 obtain ⟨A0, c0, hb, hg, hr0⟩ := h;exact ⟨A0, c0, by simpa using blk_set hb 4 (.int .i64 x), hg, hr0⟩
theorem IsS96.new (w0 W : World) (A0 : Option Addr) (c0 : Nat) (f0 : List Int) (f1 : Int) (f2 : Int) (f3 : Int) (f4 : Int) (hB : Below w0.heap.size w0 W) (hr0 : Kd.C (Kd.int .u8) w0 A0 f0.length f0) (hc0 : f0.length ≤ c0) : IsS96 w0 (W.alloc (.cells #[.slice A0 f0.length c0, .int .i64 f1, .int .i64 f2, .int .i64 f3, .int .i64 f4] 96)) W.heap.size f0 f1 f2 f3 f4 := ⟨A0, c0, by simpa using heap_alloc_new W _, ⟨hB.size, hc0⟩, hr0⟩
def RRq_see.f (s0_0 : List Int) (s0_1 : Int) (s0_2 : Int) (s0_3 : Int) (s0_4 : Int) : Option (Int × Int × Int × Int × Int) := if s0_3 = 0 then (if s0_1 ≥ (s0_0.length : Int) then (some ((-1), s0_1, s0_2, s0_3, s0_4)) else (if 0 ≤ s0_1 then (if s0_1 < (s0_0.length : Int) then (some (wrap64 (rd s0_0 s0_1), s0_1, s0_2, s0_3, s0_4)) else (none)) else (none))) else (some ((-1), s0_1, s0_2, s0_3, s0_4))
set_option maxHeartbeats 8000000 in
set_option maxRecDepth 100000 in
theorem RRq_see.calls (g : Nat) (s0_0 : List Int) (s0_1 : Int) (s0_2 : Int) (s0_3 : Int) (s0_4 : Int) (r1 : Int) (r2 : Int) (r3 : Int) (r4 : Int) (r5 : Int) (w0 w : World) (hI : IsS96 w0 w g s0_0 s0_1 s0_2 s0_3 s0_4) (hB : Below w0.heap.size w0 w) (h : RRq_see.f s0_0 s0_1 s0_2 s0_3 s0_4 = some (r1, r2, r3, r4, r5)) :
  Calls Tryd.prog 64 #[.pointer (some ⟨g, 0, none⟩)] w fun e w' => e = .returned (.int .i64 r1) ∧ IsS96 w0 w' g s0_0 r2 r3 r4 r5 ∧ Below w0.heap.size w0 w' ∧ Kbt w w' g none := by
 have HI0 := Sdq.mk hI;have HK := Sdq.mk (Kbt.refl w g none);have HL := Sdq.mk hB.size;clear hI;have HW0 := Sdq.mk hB.size;have HB := Sdq.mk hB;clear hB;have H : (if s0_3 = 0 then (if s0_1 ≥ (s0_0.length : Int) then (some ((-1), s0_1, s0_2, s0_3, s0_4)) else (if 0 ≤ s0_1 then (if s0_1 < (s0_0.length : Int) then (some (wrap64 (rd s0_0 s0_1), s0_1, s0_2, s0_3, s0_4)) else (none)) else (none))) else (some ((-1), s0_1, s0_2, s0_3, s0_4))) = some (r1, r2, r3, r4, r5) := h;clear h;by_cases c2 : s0_3 = 0
 ·rw [if_pos c2] at H
  have c2b0 : (s0_3 == 0) = true := beq_iff_eq.mpr c2;have c2b1 : (s0_3 != 0) = false := bne_eq_false_iff_eq.mpr c2;clear c2;by_cases c3 : s0_1 ≥ (s0_0.length : Int)
  ·rw [if_pos c3] at H
   have c3b0 : decide ((s0_0.length : Int) ≤ s0_1) = true := decide_eq_true c3;clear c3;simp only [Option.some.injEq, Prod.mk.injEq] at H;obtain ⟨rfl, rfl, rfl, rfl, rfl⟩ := H;obtain ⟨ASz4_0, cSz4_0, HGz4, hgz4, HSz4_0⟩ := HI0.out;have hcz4_0 := cellS96_0 HGz4;have hcz4_1 := cellS96_1 HGz4;have hcz4_2 := cellS96_2 HGz4;have hcz4_3 := cellS96_3 HGz4;have hcz4_4 := cellS96_4 HGz4;have hfz4_1 := bfz HGz4 1;have hfz4_2 := bfz HGz4 2;have hfz4_3 := bfz HGz4 3;have hfz4_4 := bfz HGz4 4;clear HGz4 hgz4;go_enter Tryd.func64, Tryd.ntmps64;go_wp2
   repeat (go_quiet (fail); try go_wp2)
   go_ret;exact ⟨by first | rfl | (simp [errW_none, errW_some] <;> rfl) | (simp [*, errW_none, errW_some] <;> rfl), by repeat (first | (with_reducible first | exact HI0.out | apply IsS96.alloc | apply IsS96.drewN | apply IsS96.drew | apply IsS96.set_1 | apply IsS96.set_2 | apply IsS96.set_3 | apply IsS96.set_4) | exact HI0.out), by repeat (first | (with_reducible first | exact HB.out | apply bal | apply pbdN | apply bdr1 | refine bstq ?_ (IsS96.ge HI0.out)) | exact HB.out), by repeat (first | (with_reducible first | exact HK.out | apply Kbt.set_ | apply kdrN | apply keep_drew | apply kal) | exact HK.out)⟩
  ·rw [if_neg c3] at H
   have c3b0 : decide ((s0_0.length : Int) ≤ s0_1) = false := decide_eq_false c3;clear c3;by_cases c5 : 0 ≤ s0_1
   ·rw [if_pos c5] at H
    have c5b0 : decide (0 ≤ s0_1) = true := decide_eq_true c5;clear c5;by_cases c6 : s0_1 < (s0_0.length : Int)
    ·rw [if_pos c6] at H
     have c6b0 : decide (s0_1 < (s0_0.length : Int)) = true := decide_eq_true c6;clear c6;simp only [Option.some.injEq, Prod.mk.injEq] at H;obtain ⟨rfl, rfl, rfl, rfl, rfl⟩ := H;obtain ⟨ASz7_0, cSz7_0, HGz7, hgz7, HSz7_0⟩ := HI0.out;have hcz7_0 := cellS96_0 HGz7;have hcz7_1 := cellS96_1 HGz7;have hcz7_2 := cellS96_2 HGz7;have hcz7_3 := cellS96_3 HGz7;have hcz7_4 := cellS96_4 HGz7;have hfz7_1 := bfz HGz7 1;have hfz7_2 := bfz HGz7 2;have hfz7_3 := bfz HGz7 3;have hfz7_4 := bfz HGz7 4;clear HGz7 hgz7;have p531 : 0 ≤ (s0_1 : Int) := of_decide_eq_true (by assumption);have q531 : s0_1 < (s0_0.length : Int) := of_decide_eq_true (by assumption);obtain ⟨ad531, e531, hx531_0⟩ := Kd.at_int HSz7_0 s0_1 p531 q531;cases e531;replace hx531_0 := pw_cell_below HB.out hx531_0;replace p531 := eq_true p531;replace q531 := eq_true q531;go_enter Tryd.func64, Tryd.ntmps64;go_wp2
     repeat (go_quiet (fail); try go_wp2)
     go_ret;exact ⟨by first | rfl | (simp [errW_none, errW_some] <;> rfl) | (simp [*, errW_none, errW_some] <;> rfl), by repeat (first | (with_reducible first | exact HI0.out | apply IsS96.alloc | apply IsS96.drewN | apply IsS96.drew | apply IsS96.set_1 | apply IsS96.set_2 | apply IsS96.set_3 | apply IsS96.set_4) | exact HI0.out), by repeat (first | (with_reducible first | exact HB.out | apply bal | apply pbdN | apply bdr1 | refine bstq ?_ (IsS96.ge HI0.out)) | exact HB.out), by repeat (first | (with_reducible first | exact HK.out | apply Kbt.set_ | apply kdrN | apply keep_drew | apply kal) | exact HK.out)⟩
    ·rw [if_neg c6] at H
     exact absurd H (by simp)
   ·rw [if_neg c5] at H
    exact absurd H (by simp)
 ·rw [if_neg c2] at H
  have c2b0 : (s0_3 == 0) = false := beq_eq_false_iff_ne.mpr c2;have c2b1 : (s0_3 != 0) = true := bne_iff_ne.mpr c2;simp only [Option.some.injEq, Prod.mk.injEq] at H;obtain ⟨rfl, rfl, rfl, rfl, rfl⟩ := H;obtain ⟨ASz8_0, cSz8_0, HGz8, hgz8, HSz8_0⟩ := HI0.out;have hcz8_0 := cellS96_0 HGz8;have hcz8_1 := cellS96_1 HGz8;have hcz8_2 := cellS96_2 HGz8;have hcz8_3 := cellS96_3 HGz8;have hcz8_4 := cellS96_4 HGz8;have hfz8_1 := bfz HGz8 1;have hfz8_2 := bfz HGz8 2;have hfz8_3 := bfz HGz8 3;have hfz8_4 := bfz HGz8 4;clear HGz8 hgz8;go_enter Tryd.func64, Tryd.ntmps64;go_wp2
  repeat (go_quiet (fail); try go_wp2)
  go_ret;exact ⟨by first | rfl | (simp [errW_none, errW_some] <;> rfl) | (simp [*, errW_none, errW_some] <;> rfl), by repeat (first | (with_reducible first | exact HI0.out | apply IsS96.alloc | apply IsS96.drewN | apply IsS96.drew | apply IsS96.set_1 | apply IsS96.set_2 | apply IsS96.set_3 | apply IsS96.set_4) | exact HI0.out), by repeat (first | (with_reducible first | exact HB.out | apply bal | apply pbdN | apply bdr1 | refine bstq ?_ (IsS96.ge HI0.out)) | exact HB.out), by repeat (first | (with_reducible first | exact HK.out | apply Kbt.set_ | apply kdrN | apply keep_drew | apply kal) | exact HK.out)⟩
def RRq_blank.l0 : Nat → Int → List Int → Int → Int → Int → Int → Option (Int × Int × Int × Int)
 | 0, _, _, _, _, _, _ => none
 | k + 1, x2, x1000, x1001, x1002, x1003, x1004 => if x2 = 32 then ((RRq_see.f x1000 (wrap64 (x1001 + 1)) x1002 x1003 x1004).bind fun bt537 => (RRq_blank.l0 k bt537.1 x1000 bt537.2.1 bt537.2.2.1 bt537.2.2.2.1 bt537.2.2.2.2)) else (if x2 = 9 then ((RRq_see.f x1000 (wrap64 (x1001 + 1)) x1002 x1003 x1004).bind fun bt542 => (RRq_blank.l0 k bt542.1 x1000 bt542.2.1 bt542.2.2.1 bt542.2.2.2.1 bt542.2.2.2.2)) else (if x2 = 10 then ((RRq_see.f x1000 (wrap64 (x1001 + 1)) x1002 x1003 x1004).bind fun bt547 => (RRq_blank.l0 k bt547.1 x1000 bt547.2.1 bt547.2.2.1 bt547.2.2.2.1 bt547.2.2.2.2)) else (if x2 = 13 then ((RRq_see.f x1000 (wrap64 (x1001 + 1)) x1002 x1003 x1004).bind fun bt552 => (RRq_blank.l0 k bt552.1 x1000 bt552.2.1 bt552.2.2.1 bt552.2.2.2.1 bt552.2.2.2.2)) else (some (x1001, x1002, x1003, x1004)))))
def RRq_blank.f (k : Nat) (s0_0 : List Int) (s0_1 : Int) (s0_2 : Int) (s0_3 : Int) (s0_4 : Int) : Option (Int × Int × Int × Int) := (RRq_see.f s0_0 s0_1 s0_2 s0_3 s0_4).bind fun bt532 => (RRq_blank.l0 k bt532.1 s0_0 bt532.2.1 bt532.2.2.1 bt532.2.2.2.1 bt532.2.2.2.2)
set_option maxHeartbeats 8000000 in
set_option maxRecDepth 100000 in
theorem RRq_blank.calls (k : Nat) (g : Nat) (s0_0 : List Int) (s0_1 : Int) (s0_2 : Int) (s0_3 : Int) (s0_4 : Int) (r1 : Int) (r2 : Int) (r3 : Int) (r4 : Int) (w0 w : World) (hI : IsS96 w0 w g s0_0 s0_1 s0_2 s0_3 s0_4) (hB : Below w0.heap.size w0 w) (h : RRq_blank.f k s0_0 s0_1 s0_2 s0_3 s0_4 = some (r1, r2, r3, r4)) :
  Calls Tryd.prog 44 #[.pointer (some ⟨g, 0, none⟩)] w fun e w' => e = .returned (.tuple #[]) ∧ IsS96 w0 w' g s0_0 r1 r2 r3 r4 ∧ Below w0.heap.size w0 w' ∧ Kbt w w' g none := by
 have HI0 := Sdq.mk hI;have HK := Sdq.mk (Kbt.refl w g none);have HL := Sdq.mk hB.size;clear hI;have HW0 := Sdq.mk hB.size;have HB := Sdq.mk hB;clear hB;have H : ((RRq_see.f s0_0 s0_1 s0_2 s0_3 s0_4).bind fun bt532 => (RRq_blank.l0 k bt532.1 s0_0 bt532.2.1 bt532.2.2.1 bt532.2.2.2.1 bt532.2.2.2.2)) = some (r1, r2, r3, r4) := h;clear h;replace H := Option.bind_eq_some_iff.mp H;obtain ⟨⟨t532, t533, t534, t535, t536⟩, A20, H⟩ := H;replace H : (RRq_blank.l0 k t532 s0_0 t533 t534 t535 t536) = some (r1, r2, r3, r4) := H;have A2 := Sdq.mk A20;clear A20;have H' := Sdq.mk H;clear H;go_enter Tryd.func44, Tryd.ntmps44;go_wp2_with (first | ((with_reducible refine gate_callee (f := 64) rfl ?_); refine goesL_ (some 4) rfl rfl Tryd.func64 (by kernel_rfl) rfl #[.pointer (some ⟨g, 0, none⟩)] rfl (by (try simp only [List.map_toArray, List.map_cons, List.map_nil]); first | done | rfl | (simp only [List.length_drop, List.length_take]; rfl)) ?_; (with_reducible refine (RRq_see.calls g s0_0 s0_1 s0_2 s0_3 s0_4 t532 t533 t534 t535 t536 w0 _ ?side1 ?side2 A2.out).mono ?_); (case side1 => repeat (first | (with_reducible first | exact HI0.out | apply IsS96.alloc | apply IsS96.drewN | apply IsS96.drew | apply IsS96.set_1 | apply IsS96.set_2 | apply IsS96.set_3 | apply IsS96.set_4) | exact HI0.out)); (case side2 => repeat (first | (with_reducible first | exact HB.out | apply bal | apply pbdN | apply bdr1 | refine bstq ?_ (IsS96.ge HI0.out)) | exact HB.out)); rintro e w3 ⟨rfl, hi, hb, hk⟩; refine ⟨_, rfl, ?_⟩; have n0_ := Sdq.mk (Kbt.trans (by repeat (first | (with_reducible first | exact HK.out | apply Kbt.set_ | apply kdrN | apply keep_drew | apply kal) | exact HK.out)) hk (.inl rfl)); have n1_ := Sdq.mk (hb); have n2_ := Sdq.mk (hi); clear HK; clear HB; clear HI0; have HK := n0_; have HB := n1_; have HI0 := n2_; clear n0_ n1_ n2_; (try clear hb); (try clear hb2); (try clear hk); (try clear hi)))
 go_loopg [2] k (fun kq v2 w' => ∃ (x2_1 : Int) (x1001_1 : Int) (x1002_1 : Int) (x1003_1 : Int) (x1004_1 : Int), v2 = .int .i64 x2_1 ∧ Sdq (RRq_blank.l0 kq x2_1 s0_0 x1001_1 x1002_1 x1003_1 x1004_1 = some (r1, r2, r3, r4)) ∧ Sdq (kq ≤ k) ∧ Sdq (IsS96 w0 w' g s0_0 x1001_1 x1002_1 x1003_1 x1004_1) ∧ Sdq (Kbt w w' g none) ∧ Sdq (Below w0.heap.size w0 w'))
 case atStart => exact ⟨(t532), (t533), (t534), (t535), (t536), (by first | rfl | (simp; done) | (simp [*]; done)), H', ⟨Nat.le_refl _⟩, ⟨by repeat (first | (with_reducible first | exact HI0.out | apply IsS96.alloc | apply IsS96.drewN | apply IsS96.drew | apply IsS96.set_1 | apply IsS96.set_2 | apply IsS96.set_3 | apply IsS96.set_4) | exact HI0.out)⟩, ⟨by repeat (first | (with_reducible first | exact HK.out | apply Kbt.set_ | apply kdrN | apply keep_drew | apply kal) | exact HK.out)⟩, ⟨by repeat (first | (with_reducible first | exact HB.out | apply bal | apply pbdN | apply bdr1 | refine bstq ?_ (IsS96.ge HI0.out)) | exact HB.out)⟩⟩
 case round =>
  clear H'
  try clear p2
  obtain ⟨x2_1, x1001_1, x1002_1, x1003_1, x1004_1, rfl, HA, HK1, HI0, HK, HB⟩ := hrel
  cases gk with
  | zero => exact absurd HA.out (by simp [RRq_blank.l0])
  | succ k1 =>
   have H := HA.out;clear HA;simp only [RRq_blank.l0] at H;by_cases c4 : x2_1 = 32
   ·rw [if_pos c4] at H
    have c4b0 : (x2_1 == 32) = true := beq_iff_eq.mpr c4;have c4b1 : (x2_1 != 32) = false := bne_eq_false_iff_eq.mpr c4;clear c4;replace H := Option.bind_eq_some_iff.mp H;obtain ⟨⟨t537, t538, t539, t540, t541⟩, A50, H⟩ := H;replace H : (RRq_blank.l0 k1 t537 s0_0 t538 t539 t540 t541) = some (r1, r2, r3, r4) := H;have A5 := Sdq.mk A50;clear A50;have H' := Sdq.mk H;clear H;obtain ⟨ASz6_0, cSz6_0, HGz6, hgz6, HSz6_0⟩ := HI0.out;have hcz6_0 := cellS96_0 HGz6;have hcz6_1 := cellS96_1 HGz6;have hcz6_2 := cellS96_2 HGz6;have hcz6_3 := cellS96_3 HGz6;have hcz6_4 := cellS96_4 HGz6;have hfz6_1 := bfz HGz6 1;have hfz6_2 := bfz HGz6 2;have hfz6_3 := bfz HGz6 3;have hfz6_4 := bfz HGz6 4;clear HGz6 hgz6;go_wp2_with (first | ((with_reducible refine gate_callee (f := 64) rfl ?_); refine goesL_ (some 20) rfl rfl Tryd.func64 (by kernel_rfl) rfl #[.pointer (some ⟨g, 0, none⟩)] rfl (by (try simp only [List.map_toArray, List.map_cons, List.map_nil]); first | done | rfl | (simp only [List.length_drop, List.length_take]; rfl)) ?_; (with_reducible refine (RRq_see.calls g s0_0 (wrap64 (x1001_1 + 1)) x1002_1 x1003_1 x1004_1 t537 t538 t539 t540 t541 w0 _ ?side1 ?side2 A5.out).mono ?_); (case side1 => repeat (first | (with_reducible first | exact HI0.out | apply IsS96.alloc | apply IsS96.drewN | apply IsS96.drew | apply IsS96.set_1 | apply IsS96.set_2 | apply IsS96.set_3 | apply IsS96.set_4) | exact HI0.out)); (case side2 => repeat (first | (with_reducible first | exact HB.out | apply bal | apply pbdN | apply bdr1 | refine bstq ?_ (IsS96.ge HI0.out)) | exact HB.out)); rintro e w7 ⟨rfl, hi, hb, hk⟩; refine ⟨_, rfl, ?_⟩; have n0_ := Sdq.mk (Kbt.trans (by repeat (first | (with_reducible first | exact HK.out | apply Kbt.set_ | apply kdrN | apply keep_drew | apply kal) | exact HK.out)) hk (.inl rfl)); have n1_ := Sdq.mk (hb); have n2_ := Sdq.mk (hi); clear HK; clear HB; clear HI0; have HK := n0_; have HB := n1_; have HI0 := n2_; clear n0_ n1_ n2_; (try clear hb); (try clear hb2); (try clear hk); (try clear hi)))
    go_roundg k1
    case measure => have := HK1.out; omega
    case rel => exact ⟨(t537), (t538), (t539), (t540), (t541), (by first | rfl | (simp; done) | (simp [*]; done)), H', ⟨by have := HK1.out; omega⟩, ⟨by repeat (first | (with_reducible first | exact HI0.out | apply IsS96.alloc | apply IsS96.drewN | apply IsS96.drew | apply IsS96.set_1 | apply IsS96.set_2 | apply IsS96.set_3 | apply IsS96.set_4) | exact HI0.out)⟩, ⟨by repeat (first | (with_reducible first | exact HK.out | apply Kbt.set_ | apply kdrN | apply keep_drew | apply kal) | exact HK.out)⟩, ⟨by repeat (first | (with_reducible first | exact HB.out | apply bal | apply pbdN | apply bdr1 | refine bstq ?_ (IsS96.ge HI0.out)) | exact HB.out)⟩⟩
   ·rw [if_neg c4] at H
    have c4b0 : (x2_1 == 32) = false := beq_eq_false_iff_ne.mpr c4;have c4b1 : (x2_1 != 32) = true := bne_iff_ne.mpr c4;by_cases c8 : x2_1 = 9
    ·rw [if_pos c8] at H
     have c8b0 : (x2_1 == 9) = true := beq_iff_eq.mpr c8;have c8b1 : (x2_1 != 9) = false := bne_eq_false_iff_eq.mpr c8;clear c8;replace H := Option.bind_eq_some_iff.mp H;obtain ⟨⟨t542, t543, t544, t545, t546⟩, A90, H⟩ := H;replace H : (RRq_blank.l0 k1 t542 s0_0 t543 t544 t545 t546) = some (r1, r2, r3, r4) := H;have A9 := Sdq.mk A90;clear A90;have H' := Sdq.mk H;clear H;obtain ⟨ASz10_0, cSz10_0, HGz10, hgz10, HSz10_0⟩ := HI0.out;have hcz10_0 := cellS96_0 HGz10;have hcz10_1 := cellS96_1 HGz10;have hcz10_2 := cellS96_2 HGz10;have hcz10_3 := cellS96_3 HGz10;have hcz10_4 := cellS96_4 HGz10;have hfz10_1 := bfz HGz10 1;have hfz10_2 := bfz HGz10 2;have hfz10_3 := bfz HGz10 3;have hfz10_4 := bfz HGz10 4;clear HGz10 hgz10;go_wp2_with (first | ((with_reducible refine gate_callee (f := 64) rfl ?_); refine goesL_ (some 20) rfl rfl Tryd.func64 (by kernel_rfl) rfl #[.pointer (some ⟨g, 0, none⟩)] rfl (by (try simp only [List.map_toArray, List.map_cons, List.map_nil]); first | done | rfl | (simp only [List.length_drop, List.length_take]; rfl)) ?_; (with_reducible refine (RRq_see.calls g s0_0 (wrap64 (x1001_1 + 1)) x1002_1 x1003_1 x1004_1 t542 t543 t544 t545 t546 w0 _ ?side1 ?side2 A9.out).mono ?_); (case side1 => repeat (first | (with_reducible first | exact HI0.out | apply IsS96.alloc | apply IsS96.drewN | apply IsS96.drew | apply IsS96.set_1 | apply IsS96.set_2 | apply IsS96.set_3 | apply IsS96.set_4) | exact HI0.out)); (case side2 => repeat (first | (with_reducible first | exact HB.out | apply bal | apply pbdN | apply bdr1 | refine bstq ?_ (IsS96.ge HI0.out)) | exact HB.out)); rintro e w11 ⟨rfl, hi, hb, hk⟩; refine ⟨_, rfl, ?_⟩; have n0_ := Sdq.mk (Kbt.trans (by repeat (first | (with_reducible first | exact HK.out | apply Kbt.set_ | apply kdrN | apply keep_drew | apply kal) | exact HK.out)) hk (.inl rfl)); have n1_ := Sdq.mk (hb); have n2_ := Sdq.mk (hi); clear HK; clear HB; clear HI0; have HK := n0_; have HB := n1_; have HI0 := n2_; clear n0_ n1_ n2_; (try clear hb); (try clear hb2); (try clear hk); (try clear hi)))
     go_roundg k1
     case measure => have := HK1.out; omega
     case rel => exact ⟨(t542), (t543), (t544), (t545), (t546), (by first | rfl | (simp; done) | (simp [*]; done)), H', ⟨by have := HK1.out; omega⟩, ⟨by repeat (first | (with_reducible first | exact HI0.out | apply IsS96.alloc | apply IsS96.drewN | apply IsS96.drew | apply IsS96.set_1 | apply IsS96.set_2 | apply IsS96.set_3 | apply IsS96.set_4) | exact HI0.out)⟩, ⟨by repeat (first | (with_reducible first | exact HK.out | apply Kbt.set_ | apply kdrN | apply keep_drew | apply kal) | exact HK.out)⟩, ⟨by repeat (first | (with_reducible first | exact HB.out | apply bal | apply pbdN | apply bdr1 | refine bstq ?_ (IsS96.ge HI0.out)) | exact HB.out)⟩⟩
    ·rw [if_neg c8] at H
     have c8b0 : (x2_1 == 9) = false := beq_eq_false_iff_ne.mpr c8;have c8b1 : (x2_1 != 9) = true := bne_iff_ne.mpr c8;by_cases c12 : x2_1 = 10
     ·rw [if_pos c12] at H
      have c12b0 : (x2_1 == 10) = true := beq_iff_eq.mpr c12;have c12b1 : (x2_1 != 10) = false := bne_eq_false_iff_eq.mpr c12;clear c12;replace H := Option.bind_eq_some_iff.mp H;obtain ⟨⟨t547, t548, t549, t550, t551⟩, A130, H⟩ := H;replace H : (RRq_blank.l0 k1 t547 s0_0 t548 t549 t550 t551) = some (r1, r2, r3, r4) := H;have A13 := Sdq.mk A130;clear A130;have H' := Sdq.mk H;clear H;obtain ⟨ASz14_0, cSz14_0, HGz14, hgz14, HSz14_0⟩ := HI0.out;have hcz14_0 := cellS96_0 HGz14;have hcz14_1 := cellS96_1 HGz14;have hcz14_2 := cellS96_2 HGz14;have hcz14_3 := cellS96_3 HGz14;have hcz14_4 := cellS96_4 HGz14;have hfz14_1 := bfz HGz14 1;have hfz14_2 := bfz HGz14 2;have hfz14_3 := bfz HGz14 3;have hfz14_4 := bfz HGz14 4;clear HGz14 hgz14;go_wp2_with (first | ((with_reducible refine gate_callee (f := 64) rfl ?_); refine goesL_ (some 20) rfl rfl Tryd.func64 (by kernel_rfl) rfl #[.pointer (some ⟨g, 0, none⟩)] rfl (by (try simp only [List.map_toArray, List.map_cons, List.map_nil]); first | done | rfl | (simp only [List.length_drop, List.length_take]; rfl)) ?_; (with_reducible refine (RRq_see.calls g s0_0 (wrap64 (x1001_1 + 1)) x1002_1 x1003_1 x1004_1 t547 t548 t549 t550 t551 w0 _ ?side1 ?side2 A13.out).mono ?_); (case side1 => repeat (first | (with_reducible first | exact HI0.out | apply IsS96.alloc | apply IsS96.drewN | apply IsS96.drew | apply IsS96.set_1 | apply IsS96.set_2 | apply IsS96.set_3 | apply IsS96.set_4) | exact HI0.out)); (case side2 => repeat (first | (with_reducible first | exact HB.out | apply bal | apply pbdN | apply bdr1 | refine bstq ?_ (IsS96.ge HI0.out)) | exact HB.out)); rintro e w15 ⟨rfl, hi, hb, hk⟩; refine ⟨_, rfl, ?_⟩; have n0_ := Sdq.mk (Kbt.trans (by repeat (first | (with_reducible first | exact HK.out | apply Kbt.set_ | apply kdrN | apply keep_drew | apply kal) | exact HK.out)) hk (.inl rfl)); have n1_ := Sdq.mk (hb); have n2_ := Sdq.mk (hi); clear HK; clear HB; clear HI0; have HK := n0_; have HB := n1_; have HI0 := n2_; clear n0_ n1_ n2_; (try clear hb); (try clear hb2); (try clear hk); (try clear hi)))
      go_roundg k1
      case measure => have := HK1.out; omega
      case rel => exact ⟨(t547), (t548), (t549), (t550), (t551), (by first | rfl | (simp; done) | (simp [*]; done)), H', ⟨by have := HK1.out; omega⟩, ⟨by repeat (first | (with_reducible first | exact HI0.out | apply IsS96.alloc | apply IsS96.drewN | apply IsS96.drew | apply IsS96.set_1 | apply IsS96.set_2 | apply IsS96.set_3 | apply IsS96.set_4) | exact HI0.out)⟩, ⟨by repeat (first | (with_reducible first | exact HK.out | apply Kbt.set_ | apply kdrN | apply keep_drew | apply kal) | exact HK.out)⟩, ⟨by repeat (first | (with_reducible first | exact HB.out | apply bal | apply pbdN | apply bdr1 | refine bstq ?_ (IsS96.ge HI0.out)) | exact HB.out)⟩⟩
     ·rw [if_neg c12] at H
      have c12b0 : (x2_1 == 10) = false := beq_eq_false_iff_ne.mpr c12;have c12b1 : (x2_1 != 10) = true := bne_iff_ne.mpr c12;by_cases c16 : x2_1 = 13
      ·rw [if_pos c16] at H
       have c16b0 : (x2_1 == 13) = true := beq_iff_eq.mpr c16;have c16b1 : (x2_1 != 13) = false := bne_eq_false_iff_eq.mpr c16;clear c16;replace H := Option.bind_eq_some_iff.mp H;obtain ⟨⟨t552, t553, t554, t555, t556⟩, A170, H⟩ := H;replace H : (RRq_blank.l0 k1 t552 s0_0 t553 t554 t555 t556) = some (r1, r2, r3, r4) := H;have A17 := Sdq.mk A170;clear A170;have H' := Sdq.mk H;clear H;obtain ⟨ASz18_0, cSz18_0, HGz18, hgz18, HSz18_0⟩ := HI0.out;have hcz18_0 := cellS96_0 HGz18;have hcz18_1 := cellS96_1 HGz18;have hcz18_2 := cellS96_2 HGz18;have hcz18_3 := cellS96_3 HGz18;have hcz18_4 := cellS96_4 HGz18;have hfz18_1 := bfz HGz18 1;have hfz18_2 := bfz HGz18 2;have hfz18_3 := bfz HGz18 3;have hfz18_4 := bfz HGz18 4;clear HGz18 hgz18;go_wp2_with (first | ((with_reducible refine gate_callee (f := 64) rfl ?_); refine goesL_ (some 20) rfl rfl Tryd.func64 (by kernel_rfl) rfl #[.pointer (some ⟨g, 0, none⟩)] rfl (by (try simp only [List.map_toArray, List.map_cons, List.map_nil]); first | done | rfl | (simp only [List.length_drop, List.length_take]; rfl)) ?_; (with_reducible refine (RRq_see.calls g s0_0 (wrap64 (x1001_1 + 1)) x1002_1 x1003_1 x1004_1 t552 t553 t554 t555 t556 w0 _ ?side1 ?side2 A17.out).mono ?_); (case side1 => repeat (first | (with_reducible first | exact HI0.out | apply IsS96.alloc | apply IsS96.drewN | apply IsS96.drew | apply IsS96.set_1 | apply IsS96.set_2 | apply IsS96.set_3 | apply IsS96.set_4) | exact HI0.out)); (case side2 => repeat (first | (with_reducible first | exact HB.out | apply bal | apply pbdN | apply bdr1 | refine bstq ?_ (IsS96.ge HI0.out)) | exact HB.out)); rintro e w19 ⟨rfl, hi, hb, hk⟩; refine ⟨_, rfl, ?_⟩; have n0_ := Sdq.mk (Kbt.trans (by repeat (first | (with_reducible first | exact HK.out | apply Kbt.set_ | apply kdrN | apply keep_drew | apply kal) | exact HK.out)) hk (.inl rfl)); have n1_ := Sdq.mk (hb); have n2_ := Sdq.mk (hi); clear HK; clear HB; clear HI0; have HK := n0_; have HB := n1_; have HI0 := n2_; clear n0_ n1_ n2_; (try clear hb); (try clear hb2); (try clear hk); (try clear hi)))
       go_roundg k1
       case measure => have := HK1.out; omega
       case rel => exact ⟨(t552), (t553), (t554), (t555), (t556), (by first | rfl | (simp; done) | (simp [*]; done)), H', ⟨by have := HK1.out; omega⟩, ⟨by repeat (first | (with_reducible first | exact HI0.out | apply IsS96.alloc | apply IsS96.drewN | apply IsS96.drew | apply IsS96.set_1 | apply IsS96.set_2 | apply IsS96.set_3 | apply IsS96.set_4) | exact HI0.out)⟩, ⟨by repeat (first | (with_reducible first | exact HK.out | apply Kbt.set_ | apply kdrN | apply keep_drew | apply kal) | exact HK.out)⟩, ⟨by repeat (first | (with_reducible first | exact HB.out | apply bal | apply pbdN | apply bdr1 | refine bstq ?_ (IsS96.ge HI0.out)) | exact HB.out)⟩⟩
      ·rw [if_neg c16] at H
       have c16b0 : (x2_1 == 13) = false := beq_eq_false_iff_ne.mpr c16;have c16b1 : (x2_1 != 13) = true := bne_iff_ne.mpr c16;simp only [Option.some.injEq, Prod.mk.injEq] at H;obtain ⟨rfl, rfl, rfl, rfl⟩ := H;go_wp2
       first | go_end0 | ((try simp only [Exit.inBlock, Exit.then]); refine bodyPost_ret (results_none rfl _ _ _) rfl ?_)
       exact ⟨by first | rfl | (simp [errW_none, errW_some] <;> rfl) | (simp [*, errW_none, errW_some] <;> rfl), by repeat (first | (with_reducible first | exact HI0.out | apply IsS96.alloc | apply IsS96.drewN | apply IsS96.drew | apply IsS96.set_1 | apply IsS96.set_2 | apply IsS96.set_3 | apply IsS96.set_4) | exact HI0.out), by repeat (first | (with_reducible first | exact HB.out | apply bal | apply pbdN | apply bdr1 | refine bstq ?_ (IsS96.ge HI0.out)) | exact HB.out), by repeat (first | (with_reducible first | exact HK.out | apply Kbt.set_ | apply kdrN | apply keep_drew | apply kal) | exact HK.out)⟩
def RRq_fail.f (s0_0 : List Int) (s0_1 : Int) (s0_2 : Int) (s0_3 : Int) (s0_4 : Int) (a1 : Int) (a2 : Int) : Option (Int × Int × Int × Int) := if s0_3 = 0 then (some (s0_1, s0_2, a1, a2)) else (some (s0_1, s0_2, s0_3, s0_4))
set_option maxHeartbeats 8000000 in
set_option maxRecDepth 100000 in
theorem RRq_fail.calls (g : Nat) (s0_0 : List Int) (s0_1 : Int) (s0_2 : Int) (s0_3 : Int) (s0_4 : Int) (a1 : Int) (a2 : Int) (r1 : Int) (r2 : Int) (r3 : Int) (r4 : Int) (w0 w : World) (hI : IsS96 w0 w g s0_0 s0_1 s0_2 s0_3 s0_4) (hB : Below w0.heap.size w0 w) (h : RRq_fail.f s0_0 s0_1 s0_2 s0_3 s0_4 a1 a2 = some (r1, r2, r3, r4)) :
  Calls Tryd.prog 46 #[.pointer (some ⟨g, 0, none⟩), .int .i64 a1, .int .i64 a2] w fun e w' => e = .returned (.tuple #[]) ∧ IsS96 w0 w' g s0_0 r1 r2 r3 r4 ∧ Below w0.heap.size w0 w' ∧ Kbt w w' g none := by
 have HI0 := Sdq.mk hI;have HK := Sdq.mk (Kbt.refl w g none);have HL := Sdq.mk hB.size;clear hI;have HW0 := Sdq.mk hB.size;have HB := Sdq.mk hB;clear hB;have H : (if s0_3 = 0 then (some (s0_1, s0_2, a1, a2)) else (some (s0_1, s0_2, s0_3, s0_4))) = some (r1, r2, r3, r4) := h;clear h;by_cases c4 : s0_3 = 0
 ·rw [if_pos c4] at H
  have c4b0 : (s0_3 == 0) = true := beq_iff_eq.mpr c4;have c4b1 : (s0_3 != 0) = false := bne_eq_false_iff_eq.mpr c4;clear c4;simp only [Option.some.injEq, Prod.mk.injEq] at H;obtain ⟨rfl, rfl, rfl, rfl⟩ := H;obtain ⟨ASz5_0, cSz5_0, HGz5, hgz5, HSz5_0⟩ := HI0.out;have hcz5_0 := cellS96_0 HGz5;have hcz5_1 := cellS96_1 HGz5;have hcz5_2 := cellS96_2 HGz5;have hcz5_3 := cellS96_3 HGz5;have hcz5_4 := cellS96_4 HGz5;have hfz5_1 := bfz HGz5 1;have hfz5_2 := bfz HGz5 2;have hfz5_3 := bfz HGz5 3;have hfz5_4 := bfz HGz5 4;clear HGz5 hgz5;go_enter Tryd.func46, Tryd.ntmps46;go_wp2
  first | go_end0 | ((try simp only [Exit.inBlock, Exit.then]); refine bodyPost_ret (results_none rfl _ _ _) rfl ?_)
  exact ⟨by first | rfl | (simp [errW_none, errW_some] <;> rfl) | (simp [*, errW_none, errW_some] <;> rfl), by repeat (first | (with_reducible first | exact HI0.out | apply IsS96.alloc | apply IsS96.drewN | apply IsS96.drew | apply IsS96.set_1 | apply IsS96.set_2 | apply IsS96.set_3 | apply IsS96.set_4) | exact HI0.out), by repeat (first | (with_reducible first | exact HB.out | apply bal | apply pbdN | apply bdr1 | refine bstq ?_ (IsS96.ge HI0.out)) | exact HB.out), by repeat (first | (with_reducible first | exact HK.out | apply Kbt.set_ | apply kdrN | apply keep_drew | apply kal) | exact HK.out)⟩
 ·rw [if_neg c4] at H
  have c4b0 : (s0_3 == 0) = false := beq_eq_false_iff_ne.mpr c4;have c4b1 : (s0_3 != 0) = true := bne_iff_ne.mpr c4;simp only [Option.some.injEq, Prod.mk.injEq] at H;obtain ⟨rfl, rfl, rfl, rfl⟩ := H;obtain ⟨ASz6_0, cSz6_0, HGz6, hgz6, HSz6_0⟩ := HI0.out;have hcz6_0 := cellS96_0 HGz6;have hcz6_1 := cellS96_1 HGz6;have hcz6_2 := cellS96_2 HGz6;have hcz6_3 := cellS96_3 HGz6;have hcz6_4 := cellS96_4 HGz6;have hfz6_1 := bfz HGz6 1;have hfz6_2 := bfz HGz6 2;have hfz6_3 := bfz HGz6 3;have hfz6_4 := bfz HGz6 4;clear HGz6 hgz6;go_enter Tryd.func46, Tryd.ntmps46;go_wp2
  first | go_end0 | ((try simp only [Exit.inBlock, Exit.then]); refine bodyPost_ret (results_none rfl _ _ _) rfl ?_)
  exact ⟨by first | rfl | (simp [errW_none, errW_some] <;> rfl) | (simp [*, errW_none, errW_some] <;> rfl), by repeat (first | (with_reducible first | exact HI0.out | apply IsS96.alloc | apply IsS96.drewN | apply IsS96.drew | apply IsS96.set_1 | apply IsS96.set_2 | apply IsS96.set_3 | apply IsS96.set_4) | exact HI0.out), by repeat (first | (with_reducible first | exact HB.out | apply bal | apply pbdN | apply bdr1 | refine bstq ?_ (IsS96.ge HI0.out)) | exact HB.out), by repeat (first | (with_reducible first | exact HK.out | apply Kbt.set_ | apply kdrN | apply keep_drew | apply kal) | exact HK.out)⟩
def RRq_peek.f (s0_0 : List Int) (s0_1 : Int) (s0_2 : Int) (s0_3 : Int) (s0_4 : Int) : Option (Int × Int × Int × Int × Int) := if s0_3 = 0 then (if s0_1 ≥ (s0_0.length : Int) then ((RRq_fail.f s0_0 s0_1 s0_2 s0_3 s0_4 11 (s0_0.length : Int)).bind fun bt557 => (some ((-1), bt557.1, bt557.2.1, bt557.2.2.1, bt557.2.2.2))) else (if 0 ≤ s0_1 then (if s0_1 < (s0_0.length : Int) then (some (wrap64 (rd s0_0 s0_1), s0_1, s0_2, s0_3, s0_4)) else (none)) else (none))) else (some ((-1), s0_1, s0_2, s0_3, s0_4))
set_option maxHeartbeats 8000000 in
set_option maxRecDepth 100000 in
theorem RRq_peek.calls (g : Nat) (s0_0 : List Int) (s0_1 : Int) (s0_2 : Int) (s0_3 : Int) (s0_4 : Int) (r1 : Int) (r2 : Int) (r3 : Int) (r4 : Int) (r5 : Int) (w0 w : World) (hI : IsS96 w0 w g s0_0 s0_1 s0_2 s0_3 s0_4) (hB : Below w0.heap.size w0 w) (h : RRq_peek.f s0_0 s0_1 s0_2 s0_3 s0_4 = some (r1, r2, r3, r4, r5)) :
  Calls Tryd.prog 65 #[.pointer (some ⟨g, 0, none⟩)] w fun e w' => e = .returned (.int .i64 r1) ∧ IsS96 w0 w' g s0_0 r2 r3 r4 r5 ∧ Below w0.heap.size w0 w' ∧ Kbt w w' g none := by
 have HI0 := Sdq.mk hI;have HK := Sdq.mk (Kbt.refl w g none);have HL := Sdq.mk hB.size;clear hI;have HW0 := Sdq.mk hB.size;have HB := Sdq.mk hB;clear hB;have H : (if s0_3 = 0 then (if s0_1 ≥ (s0_0.length : Int) then ((RRq_fail.f s0_0 s0_1 s0_2 s0_3 s0_4 11 (s0_0.length : Int)).bind fun bt557 => (some ((-1), bt557.1, bt557.2.1, bt557.2.2.1, bt557.2.2.2))) else (if 0 ≤ s0_1 then (if s0_1 < (s0_0.length : Int) then (some (wrap64 (rd s0_0 s0_1), s0_1, s0_2, s0_3, s0_4)) else (none)) else (none))) else (some ((-1), s0_1, s0_2, s0_3, s0_4))) = some (r1, r2, r3, r4, r5) := h;clear h;by_cases c2 : s0_3 = 0
 ·rw [if_pos c2] at H
  have c2b0 : (s0_3 == 0) = true := beq_iff_eq.mpr c2;have c2b1 : (s0_3 != 0) = false := bne_eq_false_iff_eq.mpr c2;clear c2;by_cases c3 : s0_1 ≥ (s0_0.length : Int)
  ·rw [if_pos c3] at H
   have c3b0 : decide ((s0_0.length : Int) ≤ s0_1) = true := decide_eq_true c3;clear c3;replace H := Option.bind_eq_some_iff.mp H;obtain ⟨⟨t557, t558, t559, t560⟩, A40, H⟩ := H;replace H : (some ((-1), t557, t558, t559, t560)) = some (r1, r2, r3, r4, r5) := H;have A4 := Sdq.mk A40;clear A40;simp only [Option.some.injEq, Prod.mk.injEq] at H;obtain ⟨rfl, rfl, rfl, rfl, rfl⟩ := H;obtain ⟨ASz5_0, cSz5_0, HGz5, hgz5, HSz5_0⟩ := HI0.out;have hcz5_0 := cellS96_0 HGz5;have hcz5_1 := cellS96_1 HGz5;have hcz5_2 := cellS96_2 HGz5;have hcz5_3 := cellS96_3 HGz5;have hcz5_4 := cellS96_4 HGz5;have hfz5_1 := bfz HGz5 1;have hfz5_2 := bfz HGz5 2;have hfz5_3 := bfz HGz5 3;have hfz5_4 := bfz HGz5 4;clear HGz5 hgz5;go_enter Tryd.func65, Tryd.ntmps65;go_wp2_with (first | (go_at_call 46; (with_reducible refine (RRq_fail.calls g s0_0 s0_1 s0_2 s0_3 s0_4 11 (s0_0.length : Int) t557 t558 t559 t560 w0 _ ?side1 ?side2 A4.out).mono ?_); (case side1 => repeat (first | (with_reducible first | exact HI0.out | apply IsS96.alloc | apply IsS96.drewN | apply IsS96.drew | apply IsS96.set_1 | apply IsS96.set_2 | apply IsS96.set_3 | apply IsS96.set_4) | exact HI0.out)); (case side2 => repeat (first | (with_reducible first | exact HB.out | apply bal | apply pbdN | apply bdr1 | refine bstq ?_ (IsS96.ge HI0.out)) | exact HB.out)); rintro e w6 ⟨rfl, hi, hb, hk⟩; have n0_ := Sdq.mk (Kbt.trans (by repeat (first | (with_reducible first | exact HK.out | apply Kbt.set_ | apply kdrN | apply keep_drew | apply kal) | exact HK.out)) hk (.inl rfl)); have n1_ := Sdq.mk (hb); have n2_ := Sdq.mk (hi); clear HK; clear HB; clear HI0; have HK := n0_; have HB := n1_; have HI0 := n2_; clear n0_ n1_ n2_; (try clear hb); (try clear hb2); (try clear hk); (try clear hi)))
   repeat (go_quiet (first | (go_at_call 46; (with_reducible refine (RRq_fail.calls g s0_0 s0_1 s0_2 s0_3 s0_4 11 (s0_0.length : Int) t557 t558 t559 t560 w0 _ ?side1 ?side2 A4.out).mono ?_); (case side1 => repeat (first | (with_reducible first | exact HI0.out | apply IsS96.alloc | apply IsS96.drewN | apply IsS96.drew | apply IsS96.set_1 | apply IsS96.set_2 | apply IsS96.set_3 | apply IsS96.set_4) | exact HI0.out)); (case side2 => repeat (first | (with_reducible first | exact HB.out | apply bal | apply pbdN | apply bdr1 | refine bstq ?_ (IsS96.ge HI0.out)) | exact HB.out)); rintro e w6 ⟨rfl, hi, hb, hk⟩; have n0_ := Sdq.mk (Kbt.trans (by repeat (first | (with_reducible first | exact HK.out | apply Kbt.set_ | apply kdrN | apply keep_drew | apply kal) | exact HK.out)) hk (.inl rfl)); have n1_ := Sdq.mk (hb); have n2_ := Sdq.mk (hi); clear HK; clear HB; clear HI0; have HK := n0_; have HB := n1_; have HI0 := n2_; clear n0_ n1_ n2_; (try clear hb); (try clear hb2); (try clear hk); (try clear hi))); try go_wp2_with (first | (go_at_call 46; (with_reducible refine (RRq_fail.calls g s0_0 s0_1 s0_2 s0_3 s0_4 11 (s0_0.length : Int) t557 t558 t559 t560 w0 _ ?side1 ?side2 A4.out).mono ?_); (case side1 => repeat (first | (with_reducible first | exact HI0.out | apply IsS96.alloc | apply IsS96.drewN | apply IsS96.drew | apply IsS96.set_1 | apply IsS96.set_2 | apply IsS96.set_3 | apply IsS96.set_4) | exact HI0.out)); (case side2 => repeat (first | (with_reducible first | exact HB.out | apply bal | apply pbdN | apply bdr1 | refine bstq ?_ (IsS96.ge HI0.out)) | exact HB.out)); rintro e w6 ⟨rfl, hi, hb, hk⟩; have n0_ := Sdq.mk (Kbt.trans (by repeat (first | (with_reducible first | exact HK.out | apply Kbt.set_ | apply kdrN | apply keep_drew | apply kal) | exact HK.out)) hk (.inl rfl)); have n1_ := Sdq.mk (hb); have n2_ := Sdq.mk (hi); clear HK; clear HB; clear HI0; have HK := n0_; have HB := n1_; have HI0 := n2_; clear n0_ n1_ n2_; (try clear hb); (try clear hb2); (try clear hk); (try clear hi))))
   go_ret;exact ⟨by first | rfl | (simp [errW_none, errW_some] <;> rfl) | (simp [*, errW_none, errW_some] <;> rfl), by repeat (first | (with_reducible first | exact HI0.out | apply IsS96.alloc | apply IsS96.drewN | apply IsS96.drew | apply IsS96.set_1 | apply IsS96.set_2 | apply IsS96.set_3 | apply IsS96.set_4) | exact HI0.out), by repeat (first | (with_reducible first | exact HB.out | apply bal | apply pbdN | apply bdr1 | refine bstq ?_ (IsS96.ge HI0.out)) | exact HB.out), by repeat (first | (with_reducible first | exact HK.out | apply Kbt.set_ | apply kdrN | apply keep_drew | apply kal) | exact HK.out)⟩
  ·rw [if_neg c3] at H
   have c3b0 : decide ((s0_0.length : Int) ≤ s0_1) = false := decide_eq_false c3;clear c3;by_cases c7 : 0 ≤ s0_1
   ·rw [if_pos c7] at H
    have c7b0 : decide (0 ≤ s0_1) = true := decide_eq_true c7;clear c7;by_cases c8 : s0_1 < (s0_0.length : Int)
    ·rw [if_pos c8] at H
     have c8b0 : decide (s0_1 < (s0_0.length : Int)) = true := decide_eq_true c8;clear c8;simp only [Option.some.injEq, Prod.mk.injEq] at H;obtain ⟨rfl, rfl, rfl, rfl, rfl⟩ := H;obtain ⟨ASz9_0, cSz9_0, HGz9, hgz9, HSz9_0⟩ := HI0.out;have hcz9_0 := cellS96_0 HGz9;have hcz9_1 := cellS96_1 HGz9;have hcz9_2 := cellS96_2 HGz9;have hcz9_3 := cellS96_3 HGz9;have hcz9_4 := cellS96_4 HGz9;have hfz9_1 := bfz HGz9 1;have hfz9_2 := bfz HGz9 2;have hfz9_3 := bfz HGz9 3;have hfz9_4 := bfz HGz9 4;clear HGz9 hgz9;have p561 : 0 ≤ (s0_1 : Int) := of_decide_eq_true (by assumption);have q561 : s0_1 < (s0_0.length : Int) := of_decide_eq_true (by assumption);obtain ⟨ad561, e561, hx561_0⟩ := Kd.at_int HSz9_0 s0_1 p561 q561;cases e561;replace hx561_0 := pw_cell_below HB.out hx561_0;replace p561 := eq_true p561;replace q561 := eq_true q561;go_enter Tryd.func65, Tryd.ntmps65;go_wp2
     repeat (go_quiet (fail); try go_wp2)
     go_ret;exact ⟨by first | rfl | (simp [errW_none, errW_some] <;> rfl) | (simp [*, errW_none, errW_some] <;> rfl), by repeat (first | (with_reducible first | exact HI0.out | apply IsS96.alloc | apply IsS96.drewN | apply IsS96.drew | apply IsS96.set_1 | apply IsS96.set_2 | apply IsS96.set_3 | apply IsS96.set_4) | exact HI0.out), by repeat (first | (with_reducible first | exact HB.out | apply bal | apply pbdN | apply bdr1 | refine bstq ?_ (IsS96.ge HI0.out)) | exact HB.out), by repeat (first | (with_reducible first | exact HK.out | apply Kbt.set_ | apply kdrN | apply keep_drew | apply kal) | exact HK.out)⟩
    ·rw [if_neg c8] at H
     exact absurd H (by simp)
   ·rw [if_neg c7] at H
    exact absurd H (by simp)
 ·rw [if_neg c2] at H
  have c2b0 : (s0_3 == 0) = false := beq_eq_false_iff_ne.mpr c2;have c2b1 : (s0_3 != 0) = true := bne_iff_ne.mpr c2;simp only [Option.some.injEq, Prod.mk.injEq] at H;obtain ⟨rfl, rfl, rfl, rfl, rfl⟩ := H;obtain ⟨ASz10_0, cSz10_0, HGz10, hgz10, HSz10_0⟩ := HI0.out;have hcz10_0 := cellS96_0 HGz10;have hcz10_1 := cellS96_1 HGz10;have hcz10_2 := cellS96_2 HGz10;have hcz10_3 := cellS96_3 HGz10;have hcz10_4 := cellS96_4 HGz10;have hfz10_1 := bfz HGz10 1;have hfz10_2 := bfz HGz10 2;have hfz10_3 := bfz HGz10 3;have hfz10_4 := bfz HGz10 4;clear HGz10 hgz10;go_enter Tryd.func65, Tryd.ntmps65;go_wp2
  repeat (go_quiet (fail); try go_wp2)
  go_ret;exact ⟨by first | rfl | (simp [errW_none, errW_some] <;> rfl) | (simp [*, errW_none, errW_some] <;> rfl), by repeat (first | (with_reducible first | exact HI0.out | apply IsS96.alloc | apply IsS96.drewN | apply IsS96.drew | apply IsS96.set_1 | apply IsS96.set_2 | apply IsS96.set_3 | apply IsS96.set_4) | exact HI0.out), by repeat (first | (with_reducible first | exact HB.out | apply bal | apply pbdN | apply bdr1 | refine bstq ?_ (IsS96.ge HI0.out)) | exact HB.out), by repeat (first | (with_reducible first | exact HK.out | apply Kbt.set_ | apply kdrN | apply keep_drew | apply kal) | exact HK.out)⟩
end Go.Proofs.YteighppcdpaekaaDoor.P
end
section
namespace Go.Proofs.YteighppcdpaekaaDoor.P
open Go.RowKit Go.Proofs.YteighppcdpaekaaDoorW.PrintWords Go.Proofs.YteighppcdpaekaaDoorW.PrintLast Go.Proofs.YteighppcdpaekaaDoorW.PrintMore
structure PS (w0 w : World) (g : Nat) (b : List Int) (W : World) (a d e B : Int) : Prop where
 i : IsS96 w0 W g b a d e B
 bl : Below w0.heap.size w0 W
 k : Kbt w W g none
section
variable {w0 w : World} {g : Nat} {b : List Int} {W W' : World} {a d e B a' d' e' B' : Int}
theorem PS.start (hi : IsS96 w0 w g b a d e B) (hb : Below w0.heap.size w0 w) : PS w0 w g b w a d e B := ⟨hi, hb, Kbt.refl _ _ _⟩
theorem PS.call (h : PS w0 w g b W a d e B) (hi : IsS96 w0 W' g b a' d' e' B') (hb : Below w0.heap.size w0 W') (hk : Kbt W W' g none) : PS w0 w g b W' a' d' e' B' := ⟨hi, hb, h.k.trans hk (.inl rfl)⟩
theorem PS.set1 (h : PS w0 w g b W a d e B) (x : Int) : PS w0 w g b (W.setCell ⟨g, 1, none⟩ (.int .i64 x)) x d e B := ⟨h.i.set_1 x, bstq h.bl h.i.ge, h.k.set_ _ _⟩
theorem PS.set2 (h : PS w0 w g b W a d e B) (x : Int) : PS w0 w g b (W.setCell ⟨g, 2, none⟩ (.int .i64 x)) a x e B := ⟨h.i.set_2 x, bstq h.bl h.i.ge, h.k.set_ _ _⟩
theorem PS.cells (h : PS w0 w g b W a d e B) : W.cell? ⟨g, 1, none⟩ = some (.int .i64 a) ∧ W.cell? ⟨g, 2, none⟩ = some (.int .i64 d) ∧ W.cell? ⟨g, 3, none⟩ = some (.int .i64 e) ∧ W.frozen? ⟨g, 1, none⟩ = false ∧ W.frozen? ⟨g, 2, none⟩ = false := by
 obtain ⟨A, c, HG, _, _⟩ := h.i;exact ⟨cellS96_1 HG, cellS96_2 HG, cellS96_3 HG, bfz HG 1, bfz HG 2⟩
end
def RRq_enter.f (k : Nat) (s0_0 : List Int) (s0_1 : Int) (s0_2 : Int) (s0_3 : Int) (s0_4 : Int) (a1 : Int) : Option (Bool × Int × Int × Int × Int) := if (wrap64 (s0_2 + 1)) > 64 then ((RRq_fail.f s0_0 s0_1 (wrap64 (s0_2 + 1)) s0_3 s0_4 13 s0_1).bind fun bt733 => (some (true, bt733.1, bt733.2.1, bt733.2.2.1, bt733.2.2.2))) else ((RRq_blank.f k s0_0 (wrap64 (s0_1 + 1)) (wrap64 (s0_2 + 1)) s0_3 s0_4).bind fun bt737 => ((RRq_peek.f s0_0 bt737.1 bt737.2.1 bt737.2.2.1 bt737.2.2.2).bind fun bt741 => (if bt741.2.2.2.1 = 0 then (if bt741.1 = a1 then (some (true, wrap64 (bt741.2.1 + 1), wrap64 (bt741.2.2.1 - 1), bt741.2.2.2.1, bt741.2.2.2.2)) else (some (false, bt741.2.1, bt741.2.2.1, bt741.2.2.2.1, bt741.2.2.2.2))) else (some (true, bt741.2.1, bt741.2.2.1, bt741.2.2.2.1, bt741.2.2.2.2)))))
set_option maxRecDepth 100000 in
set_option maxHeartbeats 3200000 in
theorem RRq_enter.calls (k : Nat) (g : Nat) (s0_0 : List Int) (s0_1 : Int) (s0_2 : Int) (s0_3 : Int) (s0_4 : Int) (A1 : Int) (r1 : Bool) (r2 : Int) (r3 : Int) (r4 : Int) (r5 : Int) (w0 w : World) (hI : IsS96 w0 w g s0_0 s0_1 s0_2 s0_3 s0_4) (hB : Below w0.heap.size w0 w) (h : RRq_enter.f k s0_0 s0_1 s0_2 s0_3 s0_4 A1 = some (r1, r2, r3, r4, r5)) :
  Calls Tryd.prog 86 #[.pointer (some ⟨g, 0, none⟩), .int .i64 A1] w fun e w' => e = .returned (.bool r1) ∧ IsS96 w0 w' g s0_0 r2 r3 r4 r5 ∧ Below w0.heap.size w0 w' ∧ Kbt w w' g none := by
 have N := Sdq.mk (PS.start hI hB);clear hI hB;simp only [RRq_enter.f] at h;have H := Sdq.mk h;clear h;obtain ⟨c1, c2, c3, f1, f2⟩ := N.out.cells;go_enter Tryd.func86, Tryd.ntmps86;by_cases c : wrap64 (s0_2 + 1) > 64
 ·have h := H.out
  clear H;rw [if_pos c] at h;obtain ⟨⟨a1, d1, e1, B1⟩, q, h⟩ := Option.bind_eq_some_iff.mp h
  obtain ⟨rfl, rfl, rfl, rfl, rfl⟩ := (by simpa using h : true = r1 ∧ a1 = r2 ∧ d1 = r3 ∧ e1 = r4 ∧ B1 = r5)
  clear h;have Q := Sdq.mk q;clear q
  go_wp2_with fail
  have N2 := Sdq.mk (N.out.set2 (wrap64 (s0_2 + 1)));clear N c1 c2 c3 f1 f2;refine (RRq_fail.calls g s0_0 s0_1 _ s0_3 s0_4 13 s0_1 a1 d1 e1 B1 w0 _ N2.out.i N2.out.bl Q.out).mono ?_;rintro en w1 ⟨rfl, hi, hb, hk⟩;have N := Sdq.mk (N2.out.call hi hb hk);clear N2 hi hb hk Q
  go_wp2_with fail
  go_ret;exact ⟨rfl, N.out.i, N.out.bl, N.out.k⟩
 ·have h := H.out
  clear H;rw [if_neg c] at h;obtain ⟨⟨a1, d1, e1, B1⟩, q, h⟩ := Option.bind_eq_some_iff.mp h;obtain ⟨⟨t, a2, d2, e2, B2⟩, q2, h⟩ := Option.bind_eq_some_iff.mp h;have Q := Sdq.mk q;have Q2 := Sdq.mk q2;have H := Sdq.mk h;clear q q2 h
  go_wp2_with fail
  have N2 := Sdq.mk ((N.out.set2 (wrap64 (s0_2 + 1))).set1 (wrap64 (s0_1 + 1)));clear N c1 c2 c3 f1 f2;refine (RRq_blank.calls k g s0_0 _ _ s0_3 s0_4 a1 d1 e1 B1 w0 _ N2.out.i N2.out.bl Q.out).mono ?_;rintro en w1 ⟨rfl, hi, hb, hk⟩;have N := Sdq.mk (N2.out.call hi hb hk);clear N2 hi hb hk Q
  go_wp2_with fail
  refine (RRq_peek.calls g s0_0 a1 d1 e1 B1 t a2 d2 e2 B2 w0 _ N.out.i N.out.bl Q2.out).mono ?_;rintro en w2 ⟨rfl, hi, hb, hk⟩;have N2 := Sdq.mk (N.out.call hi hb hk);clear N hi hb hk Q2;obtain ⟨c1, c2, c3, f1, f2⟩ := N2.out.cells;by_cases he : e2 = 0
  ·have h := H.out
   clear H;rw [if_pos he] at h
   have eb : (e2 != 0) = false := by simp [he]
   by_cases ht : t = A1
   ·rw [if_pos ht] at h
    obtain ⟨rfl, rfl, rfl, rfl, rfl⟩ := (by simpa using h : true = r1 ∧ wrap64 (a2 + 1) = r2 ∧ wrap64 (d2 - 1) = r3 ∧ e2 = r4 ∧ B2 = r5)
    clear h;have N := Sdq.mk ((N2.out.set1 (wrap64 (a2 + 1))).set2 (wrap64 (d2 - 1)));clear N2
    have tb : (t == A1) = true := by simp [ht]
    clear ht
    go_wp2_with fail
    go_ret;exact ⟨rfl, N.out.i, N.out.bl, N.out.k⟩
   ·rw [if_neg ht] at h
    obtain ⟨rfl, rfl, rfl, rfl, rfl⟩ := (by simpa using h : false = r1 ∧ a2 = r2 ∧ d2 = r3 ∧ e2 = r4 ∧ B2 = r5)
    clear h
    have tb : (t == A1) = false := by simp [ht]
    clear ht
    go_wp2_with fail
    go_ret;exact ⟨rfl, N2.out.i, N2.out.bl, N2.out.k⟩
  ·have h := H.out
   clear H;rw [if_neg he] at h
   have eb : (e2 != 0) = true := by simp [he]
   obtain ⟨rfl, rfl, rfl, rfl, rfl⟩ := (by simpa using h : true = r1 ∧ a2 = r2 ∧ d2 = r3 ∧ e2 = r4 ∧ B2 = r5)
   clear h
   go_wp2_with fail
   go_ret;exact ⟨rfl, N2.out.i, N2.out.bl, N2.out.k⟩
def RRq_more.f (k : Nat) (s0_0 : List Int) (s0_1 : Int) (s0_2 : Int) (s0_3 : Int) (s0_4 : Int) (a1 : Int) : Option (Bool × Int × Int × Int × Int) := (RRq_blank.f k s0_0 s0_1 s0_2 s0_3 s0_4).bind fun bt746 => ((RRq_peek.f s0_0 bt746.1 bt746.2.1 bt746.2.2.1 bt746.2.2.2).bind fun bt750 => (if bt750.2.2.2.1 = 0 then (if bt750.1 = a1 then (some (false, wrap64 (bt750.2.1 + 1), wrap64 (bt750.2.2.1 - 1), bt750.2.2.2.1, bt750.2.2.2.2)) else (if bt750.1 = 44 then ((RRq_blank.f k s0_0 (wrap64 (bt750.2.1 + 1)) bt750.2.2.1 bt750.2.2.2.1 bt750.2.2.2.2).bind fun bt755 => (some (true, bt755.1, bt755.2.1, bt755.2.2.1, bt755.2.2.2))) else ((RRq_fail.f s0_0 bt750.2.1 bt750.2.2.1 bt750.2.2.2.1 bt750.2.2.2.2 6 bt750.2.1).bind fun bt759 => (some (false, bt759.1, bt759.2.1, bt759.2.2.1, bt759.2.2.2))))) else (some (false, bt750.2.1, bt750.2.2.1, bt750.2.2.2.1, bt750.2.2.2.2))))
set_option maxRecDepth 100000 in
set_option maxHeartbeats 3200000 in
theorem RRq_more.calls (k : Nat) (g : Nat) (s0_0 : List Int) (s0_1 : Int) (s0_2 : Int) (s0_3 : Int) (s0_4 : Int) (A1 : Int) (r1 : Bool) (r2 : Int) (r3 : Int) (r4 : Int) (r5 : Int) (w0 w : World) (hI : IsS96 w0 w g s0_0 s0_1 s0_2 s0_3 s0_4) (hB : Below w0.heap.size w0 w) (h : RRq_more.f k s0_0 s0_1 s0_2 s0_3 s0_4 A1 = some (r1, r2, r3, r4, r5)) :
  Calls Tryd.prog 88 #[.pointer (some ⟨g, 0, none⟩), .int .i64 A1] w fun e w' => e = .returned (.bool r1) ∧ IsS96 w0 w' g s0_0 r2 r3 r4 r5 ∧ Below w0.heap.size w0 w' ∧ Kbt w w' g none := by
 have N := Sdq.mk (PS.start hI hB);clear hI hB;simp only [RRq_more.f] at h;obtain ⟨⟨a1, d1, e1, B1⟩, q, h⟩ := Option.bind_eq_some_iff.mp h;obtain ⟨⟨t, a2, d2, e2, B2⟩, q2, h⟩ := Option.bind_eq_some_iff.mp h;have Q := Sdq.mk q;have Q2 := Sdq.mk q2;have H := Sdq.mk h;clear q q2 h;go_enter Tryd.func88, Tryd.ntmps88
 go_wp2_with fail
 refine (RRq_blank.calls k g s0_0 s0_1 s0_2 s0_3 s0_4 a1 d1 e1 B1 w0 _ N.out.i N.out.bl Q.out).mono ?_;rintro en w1 ⟨rfl, hi, hb, hk⟩;have N2 := Sdq.mk (N.out.call hi hb hk);clear N hi hb hk Q
 go_wp2_with fail
 refine (RRq_peek.calls g s0_0 a1 d1 e1 B1 t a2 d2 e2 B2 w0 _ N2.out.i N2.out.bl Q2.out).mono ?_;rintro en w2 ⟨rfl, hi, hb, hk⟩;have N := Sdq.mk (N2.out.call hi hb hk);clear N2 hi hb hk Q2;obtain ⟨c1, c2, c3, f1, f2⟩ := N.out.cells;have h := H.out;clear H;by_cases he : e2 = 0
 ·rw [if_pos he] at h
  have eb : (e2 != 0) = false := by simp [he]
  by_cases ht : t = A1
  ·rw [if_pos ht] at h
   obtain ⟨rfl, rfl, rfl, rfl, rfl⟩ := (by simpa using h : false = r1 ∧ wrap64 (a2 + 1) = r2 ∧ wrap64 (d2 - 1) = r3 ∧ e2 = r4 ∧ B2 = r5)
   clear h;have N2 := Sdq.mk ((N.out.set1 (wrap64 (a2 + 1))).set2 (wrap64 (d2 - 1)));clear N
   have tb : (t == A1) = true := by simp [ht]
   clear ht
   go_wp2_with fail
   go_ret;exact ⟨rfl, N2.out.i, N2.out.bl, N2.out.k⟩
  ·rw [if_neg ht] at h
   have tb : (t == A1) = false := by simp [ht]
   by_cases hc : t = 44
   ·rw [if_pos hc] at h
    obtain ⟨⟨a3, d3, e3, B3⟩, q, h⟩ := Option.bind_eq_some_iff.mp h
    obtain ⟨rfl, rfl, rfl, rfl, rfl⟩ := (by simpa using h : true = r1 ∧ a3 = r2 ∧ d3 = r3 ∧ e3 = r4 ∧ B3 = r5)
    clear h ht;have Q := Sdq.mk q;clear q
    have cb : (t != 44) = false := by simp [hc]
    clear hc
    go_wp2_with fail
    have N2 := Sdq.mk (N.out.set1 (wrap64 (a2 + 1)));clear N c1 c2 c3 f1 f2;refine (RRq_blank.calls k g s0_0 _ d2 e2 B2 a3 d3 e3 B3 w0 _ N2.out.i N2.out.bl Q.out).mono ?_;rintro en w3 ⟨rfl, hi, hb, hk⟩;have N := Sdq.mk (N2.out.call hi hb hk);clear N2 hi hb hk Q
    go_wp2_with fail
    go_ret;exact ⟨rfl, N.out.i, N.out.bl, N.out.k⟩
   ·rw [if_neg hc] at h
    obtain ⟨⟨a3, d3, e3, B3⟩, q, h⟩ := Option.bind_eq_some_iff.mp h
    obtain ⟨rfl, rfl, rfl, rfl, rfl⟩ := (by simpa using h : false = r1 ∧ a3 = r2 ∧ d3 = r3 ∧ e3 = r4 ∧ B3 = r5)
    clear h ht;have Q := Sdq.mk q;clear q
    have cb : (t != 44) = true := by simp [hc]
    clear hc
    go_wp2_with fail
    refine (RRq_fail.calls g s0_0 a2 d2 e2 B2 6 a2 a3 d3 e3 B3 w0 _ N.out.i N.out.bl Q.out).mono ?_;rintro en w3 ⟨rfl, hi, hb, hk⟩;have N2 := Sdq.mk (N.out.call hi hb hk);clear N hi hb hk Q c1 c2 c3 f1 f2
    go_wp2_with fail
    go_ret;exact ⟨rfl, N2.out.i, N2.out.bl, N2.out.k⟩
 ·rw [if_neg he] at h
  have eb : (e2 != 0) = true := by simp [he]
  obtain ⟨rfl, rfl, rfl, rfl, rfl⟩ := (by simpa using h : false = r1 ∧ a2 = r2 ∧ d2 = r3 ∧ e2 = r4 ∧ B2 = r5)
  clear h
  go_wp2_with fail
  go_ret;exact ⟨rfl, N.out.i, N.out.bl, N.out.k⟩
end Go.Proofs.YteighppcdpaekaaDoor.P
end
section
namespace Go.Proofs.YteighppcdpaekaaDoor.P
open Go.RowKit Go.Proofs.YteighppcdpaekaaDoorW.PrintWords Go.Proofs.YteighppcdpaekaaDoorW.PrintLast Go.Proofs.YteighppcdpaekaaDoorW.PrintMore
def RRq_must.j0 : Nat → Bool → List Int → Int → Int → Int → Int → Option (Int × Int × Int × Int)
 | 0, _, _, _, _, _, _ => none
 | k + 1, x16, x1000, x1001, x1002, x1003, x1004 => if x16 = true then ((RRq_fail.f x1000 x1001 x1002 x1003 x1004 6 x1001).bind fun bt567 => (if bt567.2.2.1 = 0 then (some (wrap64 (bt567.1 + 1), bt567.2.1, bt567.2.2.1, bt567.2.2.2)) else (some (bt567.1, bt567.2.1, bt567.2.2.1, bt567.2.2.2)))) else (if x1003 = 0 then (some (wrap64 (x1001 + 1), x1002, x1003, x1004)) else (some (x1001, x1002, x1003, x1004)))
def RRq_must.f (k : Nat) (s0_0 : List Int) (s0_1 : Int) (s0_2 : Int) (s0_3 : Int) (s0_4 : Int) (a1 : Int) : Option (Int × Int × Int × Int) := (RRq_peek.f s0_0 s0_1 s0_2 s0_3 s0_4).bind fun bt562 => (if bt562.2.2.2.1 = 0 then (RRq_must.j0 k (bt562.1 != a1) s0_0 bt562.2.1 bt562.2.2.1 bt562.2.2.2.1 bt562.2.2.2.2) else (RRq_must.j0 k false s0_0 bt562.2.1 bt562.2.2.1 bt562.2.2.2.1 bt562.2.2.2.2))
set_option maxRecDepth 100000 in
set_option maxHeartbeats 3200000 in
theorem RRq_must.calls (k : Nat) (g : Nat) (s0_0 : List Int) (s0_1 : Int) (s0_2 : Int) (s0_3 : Int) (s0_4 : Int) (A1 : Int) (r1 : Int) (r2 : Int) (r3 : Int) (r4 : Int) (w0 w : World) (hI : IsS96 w0 w g s0_0 s0_1 s0_2 s0_3 s0_4) (hB : Below w0.heap.size w0 w) (h : RRq_must.f k s0_0 s0_1 s0_2 s0_3 s0_4 A1 = some (r1, r2, r3, r4)) :
  Calls Tryd.prog 87 #[.pointer (some ⟨g, 0, none⟩), .int .i64 A1] w fun e w' => e = .returned (.tuple #[]) ∧ IsS96 w0 w' g s0_0 r1 r2 r3 r4 ∧ Below w0.heap.size w0 w' ∧ Kbt w w' g none := by
 have N := Sdq.mk (PS.start hI hB);clear hI hB;simp only [RRq_must.f] at h;obtain ⟨⟨t, a1, d1, e1, B1⟩, q, h⟩ := Option.bind_eq_some_iff.mp h
 replace h : RRq_must.j0 k (e1 == 0 && t != A1) s0_0 a1 d1 e1 B1 = some (r1, r2, r3, r4) := by
  by_cases he : e1 = 0
  ·rw [if_pos he] at h; rw [show (e1 == 0 && t != A1) = (t != A1) by simp [he]]; exact h
  ·rw [if_neg he] at h; rw [show (e1 == 0 && t != A1) = false by simp [he]]; exact h
 have Q := Sdq.mk q;have H := Sdq.mk h;clear q h;go_enter Tryd.func87, Tryd.ntmps87
 go_wp2_with fail
 refine (RRq_peek.calls g s0_0 s0_1 s0_2 s0_3 s0_4 t a1 d1 e1 B1 w0 _ N.out.i N.out.bl Q.out).mono ?_;rintro en w1 ⟨rfl, hi, hb, hk⟩;have N2 := Sdq.mk (N.out.call hi hb hk);clear N hi hb hk Q;obtain ⟨c1, c2, c3, f1, f2⟩ := N2.out.cells
 cases k with
 | zero => exact absurd H.out (by simp [RRq_must.j0])
 | succ k =>
 have h := H.out;clear H;simp only [RRq_must.j0] at h
 rcases Bool.eq_false_or_eq_true (e1 == 0) with q1 | q1
 ·rcases Bool.eq_false_or_eq_true (t != A1) with q2 | q2
  ·rw [if_pos (by rw [q1, q2]; rfl)] at h
   obtain ⟨⟨a2, d2, e2, B2⟩, q, h⟩ := Option.bind_eq_some_iff.mp h;have Q := Sdq.mk q;have H := Sdq.mk h;clear q h
   go_wp2_with fail
   refine (RRq_fail.calls g s0_0 a1 d1 e1 B1 6 a1 a2 d2 e2 B2 w0 _ N2.out.i N2.out.bl Q.out).mono ?_;rintro en w2 ⟨rfl, hi, hb, hk⟩;have N := Sdq.mk (N2.out.call hi hb hk);clear N2 hi hb hk Q c1 c2 c3 f1 f2;obtain ⟨c1, c2, c3, f1, f2⟩ := N.out.cells;have h := H.out;clear H;by_cases he : e2 = 0
   ·rw [if_pos he] at h
    obtain ⟨rfl, rfl, rfl, rfl⟩ := (by simpa using h : wrap64 (a2 + 1) = r1 ∧ d2 = r2 ∧ e2 = r3 ∧ B2 = r4)
    have N3 := Sdq.mk (N.out.set1 (wrap64 (a2 + 1)))
    have eb : (e2 == 0) = true := by simp [he]
    clear h he N
    go_wp2_with fail
    go_end0
    exact ⟨rfl, N3.out.i, N3.out.bl, N3.out.k⟩
   ·rw [if_neg he] at h
    obtain ⟨rfl, rfl, rfl, rfl⟩ := (by simpa using h : a2 = r1 ∧ d2 = r2 ∧ e2 = r3 ∧ B2 = r4)
    have eb : (e2 == 0) = false := by simp [he]
    clear h he
    go_wp2_with fail
    go_end0
    exact ⟨rfl, N.out.i, N.out.bl, N.out.k⟩
  ·rw [if_neg (by rw [q1, q2]; decide), if_pos (by simpa using q1)] at h
   obtain ⟨rfl, rfl, rfl, rfl⟩ := (by simpa using h : wrap64 (a1 + 1) = r1 ∧ d1 = r2 ∧ e1 = r3 ∧ B1 = r4)
   have N3 := Sdq.mk (N2.out.set1 (wrap64 (a1 + 1)));clear h N2
   go_wp2_with fail
   go_end0
   exact ⟨rfl, N3.out.i, N3.out.bl, N3.out.k⟩
 ·rw [if_neg (by simp [q1]), if_neg (by simpa using q1)] at h
  obtain ⟨rfl, rfl, rfl, rfl⟩ := (by simpa using h : a1 = r1 ∧ d1 = r2 ∧ e1 = r3 ∧ B1 = r4)
  clear h
  go_wp2_with fail
  go_end0
  exact ⟨rfl, N2.out.i, N2.out.bl, N2.out.k⟩
mutual
def RRq_digits.j0 : Nat → Bool → List Int → Int → Int → Int → Int → Option (Int × Int × Int × Int)
 | 0, _, _, _, _, _, _ => none
 | k + 1, x17, x1000, x1001, x1002, x1003, x1004 => if x17 = true then ((RRq_fail.f x1000 x1001 x1002 x1003 x1004 6 x1001).bind fun bt681 => (RRq_digits.j1 k x1000 bt681.1 bt681.2.1 bt681.2.2.1 bt681.2.2.2)) else (RRq_digits.j1 k x1000 x1001 x1002 x1003 x1004)
def RRq_digits.j1 : Nat → List Int → Int → Int → Int → Int → Option (Int × Int × Int × Int)
 | 0, _, _, _, _, _ => none
 | k + 1, x1000, x1001, x1002, x1003, x1004 => (RRq_see.f x1000 x1001 x1002 x1003 x1004).bind fun bt685 => (RRq_digits.l0 k bt685.1 x1000 bt685.2.1 bt685.2.2.1 bt685.2.2.2.1 bt685.2.2.2.2)
def RRq_digits.l0 : Nat → Int → List Int → Int → Int → Int → Int → Option (Int × Int × Int × Int)
 | 0, _, _, _, _, _, _ => none
 | k + 1, x2, x1000, x1001, x1002, x1003, x1004 => if x2 ≥ 48 then (if x2 ≤ 57 then ((RRq_see.f x1000 (wrap64 (x1001 + 1)) x1002 x1003 x1004).bind fun bt690 => (RRq_digits.l0 k bt690.1 x1000 bt690.2.1 bt690.2.2.1 bt690.2.2.2.1 bt690.2.2.2.2)) else (some (x1001, x1002, x1003, x1004))) else (some (x1001, x1002, x1003, x1004))
end
def RRq_digits.f (k : Nat) (s0_0 : List Int) (s0_1 : Int) (s0_2 : Int) (s0_3 : Int) (s0_4 : Int) : Option (Int × Int × Int × Int) := (RRq_peek.f s0_0 s0_1 s0_2 s0_3 s0_4).bind fun bt676 => (if bt676.2.2.2.1 = 0 then (if bt676.1 < 48 then (RRq_digits.j0 k true s0_0 bt676.2.1 bt676.2.2.1 bt676.2.2.2.1 bt676.2.2.2.2) else (RRq_digits.j0 k (decide (bt676.1 > 57)) s0_0 bt676.2.1 bt676.2.2.1 bt676.2.2.2.1 bt676.2.2.2.2)) else (RRq_digits.j0 k false s0_0 bt676.2.1 bt676.2.2.1 bt676.2.2.2.1 bt676.2.2.2.2))
set_option maxRecDepth 100000 in
set_option maxHeartbeats 3200000 in
theorem RRq_digits.calls (k : Nat) (g : Nat) (s0_0 : List Int) (s0_1 : Int) (s0_2 : Int) (s0_3 : Int) (s0_4 : Int) (r1 : Int) (r2 : Int) (r3 : Int) (r4 : Int) (w0 w : World) (hI : IsS96 w0 w g s0_0 s0_1 s0_2 s0_3 s0_4) (hB : Below w0.heap.size w0 w) (h : RRq_digits.f k s0_0 s0_1 s0_2 s0_3 s0_4 = some (r1, r2, r3, r4)) :
  Calls Tryd.prog 90 #[.pointer (some ⟨g, 0, none⟩)] w fun e w' => e = .returned (.tuple #[]) ∧ IsS96 w0 w' g s0_0 r1 r2 r3 r4 ∧ Below w0.heap.size w0 w' ∧ Kbt w w' g none := by
 have N := Sdq.mk (PS.start hI hB);clear hI hB;simp only [RRq_digits.f] at h;obtain ⟨⟨t, a1, d1, e1, B1⟩, q, h⟩ := Option.bind_eq_some_iff.mp h
 replace h : RRq_digits.j0 k (e1 == 0 && (decide (t < 48) || decide (t > 57))) s0_0 a1 d1 e1 B1 = some (r1, r2, r3, r4) := by
  by_cases he : e1 = 0
  ·rw [if_pos he] at h
   by_cases ht : t < 48
   ·rw [if_pos ht] at h; rw [show (e1 == 0 && (decide (t < 48) || decide (t > 57))) = true by simp [he, ht]]; exact h
   ·rw [if_neg ht] at h; rw [show (e1 == 0 && (decide (t < 48) || decide (t > 57))) = decide (t > 57) by simp [he, ht]]; exact h
  ·rw [if_neg he] at h; rw [show (e1 == 0 && (decide (t < 48) || decide (t > 57))) = false by simp [he]]; exact h
 have Q := Sdq.mk q;have H := Sdq.mk h;clear q h;go_enter Tryd.func90, Tryd.ntmps90
 go_wp2_with fail
 refine (RRq_peek.calls g s0_0 s0_1 s0_2 s0_3 s0_4 t a1 d1 e1 B1 w0 _ N.out.i N.out.bl Q.out).mono ?_;rintro en w1 ⟨rfl, hi, hb, hk⟩;have N2 := Sdq.mk (N.out.call hi hb hk);clear N hi hb hk Q;obtain ⟨c1, c2, c3, f1, f2⟩ := N2.out.cells
 cases k with
 | zero => exact absurd H.out (by simp [RRq_digits.j0])
 | succ k =>
 go_upto_region 1 with fail
 go_cut [17] (fun s wc => s = .bool (e1 == 0 && (decide (t < 48) || decide (t > 57))) ∧ wc = w1)
 case first =>
  rcases Bool.eq_false_or_eq_true (e1 == 0) with q1 | q1 <;> rcases (show (t < 48 ∧ ¬ t > 57) ∨ (¬ t < 48 ∧ t > 57) ∨ (¬ t < 48 ∧ ¬ t > 57) by omega) with ⟨q2, q3⟩ | ⟨q2, q3⟩ | ⟨q2, q3⟩
  all_goals
   go_wp2_with fail
   go_meet
   exact ⟨by simp [q1, q2, q3], rfl⟩
 case rest =>
  obtain ⟨rfl, rfl⟩ := hcut
  go_upto_if 17 with fail
  go_cut [] (fun wc => ∃ a3 d3 e3 B3, Sdq (PS w0 w g s0_0 wc a3 d3 e3 B3) ∧ Sdq (RRq_digits.j1 k s0_0 a3 d3 e3 B3 = some (r1, r2, r3, r4)))
  case first =>
   have h := H.out;clear H;simp only [RRq_digits.j0] at h
   rcases Bool.eq_false_or_eq_true (e1 == 0 && (decide (t < 48) || decide (t > 57))) with q1 | q1
   ·rw [if_pos q1] at h
    obtain ⟨⟨a3, d3, e3, B3⟩, q, h⟩ := Option.bind_eq_some_iff.mp h;have Q := Sdq.mk q;have H := Sdq.mk h;clear q h;rw [q1]
    go_wp2_with fail
    refine (RRq_fail.calls g s0_0 a1 d1 e1 B1 6 a1 a3 d3 e3 B3 w0 _ N2.out.i N2.out.bl Q.out).mono ?_;rintro en w3 ⟨rfl, hi, hb, hk⟩;have N := Sdq.mk (N2.out.call hi hb hk);clear N2 hi hb hk Q
    go_wp2_with fail
    go_meet
    exact ⟨_, _, _, _, N, H⟩
   ·rw [if_neg (by rw [q1]; decide)] at h
    have H := Sdq.mk h;clear h;rw [q1]
    go_wp2_with fail
    go_meet
    exact ⟨_, _, _, _, N2, H⟩
  case rest =>
   clear N2 H c1 c2 c3 f1 f2;obtain ⟨a3, d3, e3, B3, N, H⟩ := hcut
   cases k with
   | zero => exact absurd H.out (by simp [RRq_digits.j1])
   | succ k =>
   have h := H.out;clear H;simp only [RRq_digits.j1] at h;obtain ⟨⟨c, a4, d4, e4, B4⟩, q, h⟩ := Option.bind_eq_some_iff.mp h;have Q := Sdq.mk q;have H := Sdq.mk h;clear q h
   go_wp2_with fail
   refine (RRq_see.calls g s0_0 a3 d3 e3 B3 c a4 d4 e4 B4 w0 _ N.out.i N.out.bl Q.out).mono ?_;rintro en w4 ⟨rfl, hi, hb, hk⟩;have N2 := Sdq.mk (N.out.call hi hb hk);clear N hi hb hk Q
   go_wp2_with fail
   go_loopg [2] k (fun kq s2 wc => ∃ c a d e B : Int, s2 = .int .i64 c ∧ Sdq (RRq_digits.l0 kq c s0_0 a d e B = some (r1, r2, r3, r4)) ∧ Sdq (PS w0 w g s0_0 wc a d e B))
   case atStart => exact ⟨_, _, _, _, _, rfl, H, N2⟩
   case round =>
    clear H N2;obtain ⟨c, a, d, e, B, rfl, H, N⟩ := hrel
    cases gk with
    | zero => exact absurd H.out (by simp [RRq_digits.l0])
    | succ gk =>
    obtain ⟨c1, c2, c3, f1, f2⟩ := N.out.cells;have h := H.out;clear H;simp only [RRq_digits.l0] at h;by_cases q1 : c ≥ 48
    case neg =>
     rw [if_neg q1] at h
     obtain ⟨rfl, rfl, rfl, rfl⟩ := (by simpa using h : a = r1 ∧ d = r2 ∧ e = r3 ∧ B = r4)
     clear h
     go_wp2_with fail
     go_end0
     exact ⟨rfl, N.out.i, N.out.bl, N.out.k⟩
    rw [if_pos q1] at h;by_cases q2 : c ≤ 57
    case neg =>
     rw [if_neg q2] at h
     obtain ⟨rfl, rfl, rfl, rfl⟩ := (by simpa using h : a = r1 ∧ d = r2 ∧ e = r3 ∧ B = r4)
     clear h
     go_wp2_with fail
     go_end0
     exact ⟨rfl, N.out.i, N.out.bl, N.out.k⟩
    rw [if_pos q2] at h;obtain ⟨⟨c', a5, d5, e5, B5⟩, q, h⟩ := Option.bind_eq_some_iff.mp h;have Q := Sdq.mk q;have H := Sdq.mk h;clear q h
    go_wp2_with fail
    have N2 := Sdq.mk (N.out.set1 (wrap64 (a + 1)));clear N c1 c2 c3 f1 f2;refine (RRq_see.calls g s0_0 _ d e B c' a5 d5 e5 B5 w0 _ N2.out.i N2.out.bl Q.out).mono ?_;rintro en w5 ⟨rfl, hi, hb, hk⟩;have N := Sdq.mk (N2.out.call hi hb hk);clear N2 hi hb hk Q
    go_wp2_with fail
    go_roundg gk
    case measure => omega
    exact ⟨_, _, _, _, _, rfl, H, N⟩
end Go.Proofs.YteighppcdpaekaaDoor.P
end
section
namespace Go.Proofs.YteighppcdpaekaaDoor.Rf
open Go.RowKit Go.Proofs.YteighppcdpaekaaDoorW.PrintWords Go.Proofs.YteighppcdpaekaaDoor Go.Proofs.YteighppcdpaekaaDoor.P
theorem absP {P : Program} {c : Code} {Q : Exit → Act → World → Prop} {a : Act} {W : World} (S : World → Prop) (h : S W) (hk : ∀ W', S W' → c.wp P Q a W') : c.wp P Q a W := hk W h
def Z44 : Obj := .cells #[.int .i64 0, .string ⟨#[]⟩, .slice none 0 0, .slice none 0 0] 44 (0, 0)
structure NS (w0 w : World) (g : Nat) (b : List Int) (W : World) (a d e B : Int) : Prop where
 i : IsS96 w0 W g b a d e B
 bl : Below w0.heap.size w0 W
 k : Kbt w W g none
 r : W.heap[w.heap.size]? = some Z44
 lt : g < w.heap.size
section
variable {w0 w : World} {g : Nat} {b : List Int} {W W' : World} {a d e B a' d' e' B' : Int}
theorem NS.call (h : NS w0 w g b W a d e B) (hi : IsS96 w0 W' g b a' d' e' B') (hb : Below w0.heap.size w0 W') (hk : Kbt W W' g none) : NS w0 w g b W' a' d' e' B' :=
 ⟨hi, hb, h.k.trans hk (.inl rfl), (hk.2 _ (blk_lt h.r) (Nat.ne_of_gt h.lt) (by simp)).trans h.r, h.lt⟩
theorem NS.set1 (h : NS w0 w g b W a d e B) (x : Int) : NS w0 w g b (W.setCell ⟨g, 1, none⟩ (.int .i64 x)) x d e B :=
 ⟨h.i.set_1 x, bstq h.bl h.i.ge, h.k.set_ _ _, blk_far h.r (Nat.ne_of_gt h.lt) _, h.lt⟩
theorem NS.cells (h : NS w0 w g b W a d e B) : ∃ A c, W.cell? ⟨g, 0, none⟩ = some (.slice A b.length c) ∧ W.cell? ⟨g, 1, none⟩ = some (.int .i64 a) ∧ W.cell? ⟨g, 3, none⟩ = some (.int .i64 e) ∧ W.frozen? ⟨g, 1, none⟩ = false ∧ b.length ≤ c ∧ Kd.C (Kd.int .u8) W A b.length b := by
 obtain ⟨A, c, HG, hg, HC⟩ := h.i;exact ⟨A, c, cellS96_0 HG, cellS96_1 HG, cellS96_3 HG, bfz HG 1, hg.2, Kd.C_below HC h.bl⟩
theorem NS.r0 (h : NS w0 w g b W a d e B) : W.heap[w.heap.size]? = some (.cells #[.int .i64 0, .string ⟨#[]⟩, .slice none 0 0, .slice none 0 0] 44 (0, 0)) := h.r
theorem NS.z (h : NS w0 w g b W a d e B) : W.cell? ⟨w.heap.size, 0, none⟩ = some (.int .i64 0) ∧ W.cell? ⟨w.heap.size, 1, none⟩ = some (.string ⟨#[]⟩) ∧ W.cell? ⟨w.heap.size, 2, none⟩ = some (.slice none 0 0) ∧ W.cell? ⟨w.heap.size, 3, none⟩ = some (.slice none 0 0) ∧ W.frozen? ⟨w.heap.size, 0, none⟩ = false ∧ W.frozen? ⟨w.heap.size, 1, none⟩ = false ∧ W.frozen? ⟨w.heap.size, 2, none⟩ = false ∧ W.frozen? ⟨w.heap.size, 3, none⟩ = false :=
 ⟨(bceq h.r0 0).trans rfl, (bceq h.r0 1).trans rfl, (bceq h.r0 2).trans rfl, (bceq h.r0 3).trans rfl, bfz h.r0 0, bfz h.r0 1, bfz h.r0 2, bfz h.r0 3⟩
theorem NS.fin (h : NS w0 w g b W a d e B) (x : Int) (s : ByteArray) : ∀ W', (((W.setCell ⟨w.heap.size, 0, none⟩ (.int .i64 x)).setCell ⟨w.heap.size, 1, none⟩ (.string s)).setCell ⟨w.heap.size, 2, none⟩ (.slice none 0 0)).setCell ⟨w.heap.size, 3, none⟩ (.slice none 0 0) = W' →
  IsS96 w0 W' g b a d e B ∧ Below w0.heap.size w0 W' ∧ Kbt w W' g none ∧ W'.cell? ⟨w.heap.size, 0, none⟩ = some (.int .i64 x) ∧ W'.cell? ⟨w.heap.size, 1, none⟩ = some (.string s) ∧ W'.cell? ⟨w.heap.size, 2, none⟩ = some (.slice none 0 0) ∧ W'.cell? ⟨w.heap.size, 3, none⟩ = some (.slice none 0 0) := by
 rintro _ rfl;have hn := Nat.ne_of_lt h.lt;have hs : w0.heap.size ≤ w.heap.size := Nat.le_trans h.i.ge (Nat.le_of_lt h.lt);have hB := blk_set (blk_set (blk_set (blk_set h.r0 0 (.int .i64 x)) 1 (.string s)) 2 (.slice none 0 0)) 3 (.slice none 0 0);refine ⟨(((h.i.far (p := ⟨w.heap.size, 0, none⟩) hn _).far (p := ⟨w.heap.size, 1, none⟩) hn _).far (p := ⟨w.heap.size, 2, none⟩) hn _).far (p := ⟨w.heap.size, 3, none⟩) hn _, ?_, ?_, (bceq hB 0).trans rfl, (bceq hB 1).trans rfl, (bceq hB 2).trans rfl, (bceq hB 3).trans rfl⟩
 ·exact bstq (bstq (bstq (bstq h.bl hs) hs) hs) hs
 ·exact keep_far (p := ⟨w.heap.size, 3, none⟩) (keep_far (p := ⟨w.heap.size, 2, none⟩) (keep_far (p := ⟨w.heap.size, 1, none⟩) (keep_far (p := ⟨w.heap.size, 0, none⟩) h.k (Nat.le_refl _) _) (Nat.le_refl _) _) (Nat.le_refl _) _) (Nat.le_refl _) _
end
end Go.Proofs.YteighppcdpaekaaDoor.Rf
namespace Go.Proofs.YteighppcdpaekaaDoor.P
open Go.RowKit Go.Proofs.YteighppcdpaekaaDoor.Rf Go.Proofs.YteighppcdpaekaaDoorW.PrintWords Go.Proofs.YteighppcdpaekaaDoorW.PrintLast Go.Proofs.YteighppcdpaekaaDoorW.PrintMore
def RRq_word.l0 : Nat → ByteArray → Int → Int → List Int → Int → Int → Int → Int → Option (Int × ByteArray × List ByteArray × (List (S44)) × Int × Int × Int × Int)
 | 0, _, _, _, _, _, _, _, _ => none
 | k + 1, x1, x2, x7, x1000, x1001, x1002, x1003, x1004 => if x7 < (x1.size : Int) then (if 0 ≤ x7 then ((RRq_must.f k x1000 x1001 x1002 x1003 x1004 (wrap64 (bt x1 x7))).bind fun bt672 => (RRq_word.l0 k x1 x2 (wrap64 (x7 + 1)) x1000 bt672.1 bt672.2.1 bt672.2.2.1 bt672.2.2.2)) else (none)) else (some (x2, (⟨#[]⟩ : ByteArray), ([] : List ByteArray), ([] : List (S44)), x1001, x1002, x1003, x1004))
def RRq_word.f (k : Nat) (s0_0 : List Int) (s0_1 : Int) (s0_2 : Int) (s0_3 : Int) (s0_4 : Int) (a1 : ByteArray) (a2 : Int) : Option (Int × ByteArray × List ByteArray × (List (S44)) × Int × Int × Int × Int) := RRq_word.l0 k a1 a2 0 s0_0 s0_1 s0_2 s0_3 s0_4
set_option maxRecDepth 100000 in
set_option maxHeartbeats 3200000 in
theorem RRq_word.calls (k : Nat) (g : Nat) (s0_0 : List Int) (s0_1 : Int) (s0_2 : Int) (s0_3 : Int) (s0_4 : Int) (A1 : ByteArray) (A2 : Int) (r1 : Int) (r2 : ByteArray) (r3 : List ByteArray) (r4 : List (S44)) (r5 : Int) (r6 : Int) (r7 : Int) (r8 : Int) (w0 w : World) (hI : IsS96 w0 w g s0_0 s0_1 s0_2 s0_3 s0_4) (hB : Below w0.heap.size w0 w) (hlt : g < w.heap.size) (h : RRq_word.f k s0_0 s0_1 s0_2 s0_3 s0_4 A1 A2 = some (r1, r2, r3, r4, r5, r6, r7, r8)) :
  Calls Tryd.prog 69 #[.pointer (some ⟨g, 0, none⟩), .string A1, .int .i64 A2] w fun e w' => ∃ v2_ v3_ : Value, e = .returned (.agg #[.int .i64 r1, .string r2, v2_, v3_]) ∧ Kd.R Kd.string 9 w' w.heap.size (fun _ => True) v2_ r3 ∧ Kd.R k44 44 w' w.heap.size (fun k_ => some k_ ≠ (v2_ : Value).ownBlock) v3_ r4 ∧ IsS96 w0 w' g s0_0 r5 r6 r7 r8 ∧ Below w0.heap.size w0 w' ∧ Kbt w w' g none := by
 have N := Sdq.mk (show NS w0 w g s0_0 (w.alloc Z44) s0_1 s0_2 s0_3 s0_4 from ⟨hI.alloc _, bal hB _, kal (Kbt.refl _ _ _) _, blk_new _ _, hlt⟩);simp only [RRq_word.f] at h;have H := Sdq.mk h;clear hI hB h hlt;go_enter Tryd.func69, Tryd.ntmps69
 go_upto_region 1 with fail
 refine absP (fun W => NS w0 w g s0_0 W s0_1 s0_2 s0_3 s0_4) N.out ?_;clear N;intro w1 N1;have N := Sdq.mk N1;clear N1
 go_wp2_with fail
 go_loopg [7] k (fun kq s7 wc => ∃ i a d e B : Int, s7 = .int .i64 i ∧ Sdq (RRq_word.l0 kq A1 A2 i s0_0 a d e B = some (r1, r2, r3, r4, r5, r6, r7, r8)) ∧ Sdq (NS w0 w g s0_0 wc a d e B))
 case atStart => exact ⟨0, _, _, _, _, rfl, H, N⟩
 case round =>
  clear H N;obtain ⟨i, a, d, e, B, rfl, H, N⟩ := hrel
  cases gk with
  | zero => exact absurd H.out (by simp [RRq_word.l0])
  | succ gk =>
  have h := H.out;clear H;simp only [RRq_word.l0] at h;by_cases q1 : i < (A1.size : Int)
  case neg =>
   rw [if_neg q1] at h
   obtain ⟨rfl, rfl, rfl, rfl, rfl, rfl, rfl, rfl⟩ := (by simpa using h : A2 = r1 ∧ ⟨#[]⟩ = r2 ∧ [] = r3 ∧ [] = r4 ∧ a = r5 ∧ d = r6 ∧ e = r7 ∧ B = r8)
   clear h;obtain ⟨z0, z1, z2, z3, f0, f1, f2, f3⟩ := N.out.z
   go_wp2_with fail
   have F := N.out.fin A2 ⟨#[]⟩ _ rfl;clear N z0 z1 z2 z3 f0 f1 f2 f3;generalize World.setCell _ _ _ = wf at F ⊢;obtain ⟨F1, F2, F3, c0, c1, c2, c3⟩ := F;exact bodyPost_ret (v := .agg #[.int .i64 A2, .string ⟨#[]⟩, .slice none 0 0, .slice none 0 0]) (by simp [results, Tryd.results69, go_sem, c0, c1, c2, c3]) rfl ⟨_, _, rfl, Kd.R_nil _ _ _ _ _, Kd.R_nil _ _ _ _ _, F1, F2, F3⟩
  rw [if_pos q1] at h
  have q2 : 0 ≤ i := Classical.byContradiction fun q2 => by
   rw [if_neg q2] at h
   simp at h
  rw [if_pos q2] at h;obtain ⟨⟨a2, d2, e2, B2⟩, q, h⟩ := Option.bind_eq_some_iff.mp h
  have hi0 : i.toNat < A1.size := by omega
  have hbt : bt A1 i = ((A1[i.toNat]'hi0).toNat : Int) := by
   exact (bt_at A1 i hi0).symm
  rw [hbt] at q;clear hbt;have Q := Sdq.mk q;have H := Sdq.mk h;clear q h
  go_wp2_with fail
  refine (RRq_must.calls gk g s0_0 a d e B _ a2 d2 e2 B2 w0 _ N.out.i N.out.bl Q.out).mono ?_;rintro en w2 ⟨rfl, hi, hb, hk⟩;have N2 := Sdq.mk (N.out.call hi hb hk);clear N hi hb hk Q
  go_wp2_with fail
  go_roundg gk
  case measure => omega
  exact ⟨_, _, _, _, _, rfl, H, N2⟩
end Go.Proofs.YteighppcdpaekaaDoor.P
end
section
namespace Go.Proofs.YteighppcdpaekaaDoor.P
open Go.RowKit Go.Proofs.YteighppcdpaekaaDoorW.PrintWords Go.Proofs.YteighppcdpaekaaDoorW.PrintLast Go.Proofs.YteighppcdpaekaaDoorW.PrintMore
mutual
def RRq_hex.l0 : Nat → Int → Int → List Int → Int → Int → Int → Int → Option (Int × Int × Int × Int × Int)
 | 0, _, _, _, _, _, _, _ => none
 | k + 1, x3, x4, x1000, x1001, x1002, x1003, x1004 => if x4 < 4 then ((RRq_peek.f x1000 x1001 x1002 x1003 x1004).bind fun bt571 => (if bt571.1 ≥ 48 then (RRq_hex.j1 k x3 x4 bt571.1 (-1) (decide (bt571.1 ≤ 57)) x1000 bt571.2.1 bt571.2.2.1 bt571.2.2.2.1 bt571.2.2.2.2) else (RRq_hex.j1 k x3 x4 bt571.1 (-1) false x1000 bt571.2.1 bt571.2.2.1 bt571.2.2.2.1 bt571.2.2.2.2))) else (some (x3, x1001, x1002, x1003, x1004))
def RRq_hex.j1 : Nat → Int → Int → Int → Int → Bool → List Int → Int → Int → Int → Int → Option (Int × Int × Int × Int × Int)
 | 0, _, _, _, _, _, _, _, _, _, _ => none
 | k + 1, x3, x4, x5, x6, x18, x1000, x1001, x1002, x1003, x1004 => if x18 = true then (RRq_hex.j2 k x3 x4 x5 (wrap64 (x5 - 48)) x1000 x1001 x1002 x1003 x1004) else (RRq_hex.j2 k x3 x4 x5 x6 x1000 x1001 x1002 x1003 x1004)
def RRq_hex.j2 : Nat → Int → Int → Int → Int → List Int → Int → Int → Int → Int → Option (Int × Int × Int × Int × Int)
 | 0, _, _, _, _, _, _, _, _, _ => none
 | k + 1, x3, x4, x5, x6, x1000, x1001, x1002, x1003, x1004 => if x5 ≥ 97 then (RRq_hex.j3 k x3 x4 x5 x6 (decide (x5 ≤ 102)) x1000 x1001 x1002 x1003 x1004) else (RRq_hex.j3 k x3 x4 x5 x6 false x1000 x1001 x1002 x1003 x1004)
def RRq_hex.j3 : Nat → Int → Int → Int → Int → Bool → List Int → Int → Int → Int → Int → Option (Int × Int × Int × Int × Int)
 | 0, _, _, _, _, _, _, _, _, _, _ => none
 | k + 1, x3, x4, x5, x6, x26, x1000, x1001, x1002, x1003, x1004 => if x26 = true then (RRq_hex.j4 k x3 x4 x5 (wrap64 ((wrap64 (x5 - 97)) + 10)) x1000 x1001 x1002 x1003 x1004) else (RRq_hex.j4 k x3 x4 x5 x6 x1000 x1001 x1002 x1003 x1004)
def RRq_hex.j4 : Nat → Int → Int → Int → Int → List Int → Int → Int → Int → Int → Option (Int × Int × Int × Int × Int)
 | 0, _, _, _, _, _, _, _, _, _ => none
 | k + 1, x3, x4, x5, x6, x1000, x1001, x1002, x1003, x1004 => if x5 ≥ 65 then (RRq_hex.j5 k x3 x4 x5 x6 (decide (x5 ≤ 70)) x1000 x1001 x1002 x1003 x1004) else (RRq_hex.j5 k x3 x4 x5 x6 false x1000 x1001 x1002 x1003 x1004)
def RRq_hex.j5 : Nat → Int → Int → Int → Int → Bool → List Int → Int → Int → Int → Int → Option (Int × Int × Int × Int × Int)
 | 0, _, _, _, _, _, _, _, _, _, _ => none
 | k + 1, x3, x4, x5, x6, x35, x1000, x1001, x1002, x1003, x1004 => if x35 = true then (RRq_hex.j6 k x3 x4 (wrap64 ((wrap64 (x5 - 65)) + 10)) x1000 x1001 x1002 x1003 x1004) else (RRq_hex.j6 k x3 x4 x6 x1000 x1001 x1002 x1003 x1004)
def RRq_hex.j6 : Nat → Int → Int → Int → List Int → Int → Int → Int → Int → Option (Int × Int × Int × Int × Int)
 | 0, _, _, _, _, _, _, _, _ => none
 | k + 1, x3, x4, x6, x1000, x1001, x1002, x1003, x1004 => if x1003 = 0 then (RRq_hex.j7 k x3 x4 x6 (decide (x6 < 0)) x1000 x1001 x1002 x1003 x1004) else (RRq_hex.j7 k x3 x4 x6 false x1000 x1001 x1002 x1003 x1004)
def RRq_hex.j7 : Nat → Int → Int → Int → Bool → List Int → Int → Int → Int → Int → Option (Int × Int × Int × Int × Int)
 | 0, _, _, _, _, _, _, _, _, _ => none
 | k + 1, x3, x4, x6, x47, x1000, x1001, x1002, x1003, x1004 => if x47 = true then ((RRq_fail.f x1000 x1001 x1002 x1003 x1004 6 x1001).bind fun bt576 => (if bt576.2.2.1 = 0 then (RRq_hex.l0 k (wrap64 ((wrap64 (x3 * 16)) + x6)) (wrap64 (x4 + 1)) x1000 (wrap64 (bt576.1 + 1)) bt576.2.1 bt576.2.2.1 bt576.2.2.2) else (some (0, bt576.1, bt576.2.1, bt576.2.2.1, bt576.2.2.2)))) else (if x1003 = 0 then (RRq_hex.l0 k (wrap64 ((wrap64 (x3 * 16)) + x6)) (wrap64 (x4 + 1)) x1000 (wrap64 (x1001 + 1)) x1002 x1003 x1004) else (some (0, x1001, x1002, x1003, x1004)))
end
def RRq_hex.f (k : Nat) (s0_0 : List Int) (s0_1 : Int) (s0_2 : Int) (s0_3 : Int) (s0_4 : Int) : Option (Int × Int × Int × Int × Int) := RRq_hex.l0 k 0 0 s0_0 s0_1 s0_2 s0_3 s0_4
def hexD (c : Int) : Int := if 65 ≤ c ∧ c ≤ 70 then wrap64 (wrap64 (c - 65) + 10) else if 97 ≤ c ∧ c ≤ 102 then wrap64 (wrap64 (c - 97) + 10) else if 48 ≤ c ∧ c ≤ 57 then wrap64 (c - 48) else -1
theorem hex_cls (c : Int) : (48 ≤ c ∧ c ≤ 57) ∨ (97 ≤ c ∧ c ≤ 102) ∨ (65 ≤ c ∧ c ≤ 70) ∨ (¬ (48 ≤ c ∧ c ≤ 57) ∧ ¬ (97 ≤ c ∧ c ≤ 102) ∧ ¬ (65 ≤ c ∧ c ≤ 70)) := by omega
theorem hex_dig {k : Nat} {x3 x4 c a d e B : Int} {b : List Int} {r : Int × Int × Int × Int × Int} (h : (if c ≥ 48 then RRq_hex.j1 k x3 x4 c (-1) (decide (c ≤ 57)) b a d e B else RRq_hex.j1 k x3 x4 c (-1) false b a d e B) = some r) :
  ∃ j, j < k ∧ RRq_hex.j7 j x3 x4 (hexD c) (e == 0 && decide (hexD c < 0)) b a d e B = some r := by
 have h1 : RRq_hex.j1 k x3 x4 c (-1) (decide (48 ≤ c ∧ c ≤ 57)) b a d e B = some r := by
  by_cases h0 : c ≥ 48
  ·rw [if_pos h0] at h; rw [show decide (48 ≤ c ∧ c ≤ 57) = decide (c ≤ 57) by simp; omega]; exact h
  ·rw [if_neg h0] at h; rw [show decide (48 ≤ c ∧ c ≤ 57) = false by simp; omega]; exact h
 clear h
 cases k with
 | zero => simp [RRq_hex.j1] at h1
 | succ k =>
 have h2 : RRq_hex.j2 k x3 x4 c (if 48 ≤ c ∧ c ≤ 57 then wrap64 (c - 48) else -1) b a d e B = some r := by
  simp only [RRq_hex.j1, decide_eq_true_eq] at h1
  split at h1 <;> rename_i hq <;> simpa [hq] using h1
 clear h1
 cases k with
 | zero => simp [RRq_hex.j2] at h2
 | succ k =>
 generalize hy : (if 48 ≤ c ∧ c ≤ 57 then wrap64 (c - 48) else -1) = y at h2
 have h3 : RRq_hex.j3 k x3 x4 c y (decide (97 ≤ c ∧ c ≤ 102)) b a d e B = some r := by
  simp only [RRq_hex.j2] at h2;by_cases h0 : c ≥ 97
  ·rw [if_pos h0] at h2; rw [show decide (97 ≤ c ∧ c ≤ 102) = decide (c ≤ 102) by simp; omega]; exact h2
  ·rw [if_neg h0] at h2; rw [show decide (97 ≤ c ∧ c ≤ 102) = false by simp; omega]; exact h2
 clear h2
 cases k with
 | zero => simp [RRq_hex.j3] at h3
 | succ k =>
 have h4 : RRq_hex.j4 k x3 x4 c (if 97 ≤ c ∧ c ≤ 102 then wrap64 (wrap64 (c - 97) + 10) else y) b a d e B = some r := by
  simp only [RRq_hex.j3, decide_eq_true_eq] at h3
  split at h3 <;> rename_i hq <;> simpa [hq] using h3
 clear h3
 cases k with
 | zero => simp [RRq_hex.j4] at h4
 | succ k =>
 generalize hz : (if 97 ≤ c ∧ c ≤ 102 then wrap64 (wrap64 (c - 97) + 10) else y) = z at h4
 have h5 : RRq_hex.j5 k x3 x4 c z (decide (65 ≤ c ∧ c ≤ 70)) b a d e B = some r := by
  simp only [RRq_hex.j4] at h4;by_cases h0 : c ≥ 65
  ·rw [if_pos h0] at h4; rw [show decide (65 ≤ c ∧ c ≤ 70) = decide (c ≤ 70) by simp; omega]; exact h4
  ·rw [if_neg h0] at h4; rw [show decide (65 ≤ c ∧ c ≤ 70) = false by simp; omega]; exact h4
 clear h4
 cases k with
 | zero => simp [RRq_hex.j5] at h5
 | succ k =>
 have h6 : RRq_hex.j6 k x3 x4 (hexD c) b a d e B = some r := by
  simp only [RRq_hex.j5, decide_eq_true_eq] at h5
  have hc : hexD c = if 65 ≤ c ∧ c ≤ 70 then wrap64 (wrap64 (c - 65) + 10) else z := by unfold hexD; rw [← hz, ← hy]
  rw [hc]
  split at h5 <;> rename_i hq <;> simpa [hq] using h5
 clear h5
 cases k with
 | zero => simp [RRq_hex.j6] at h6
 | succ k =>
 refine ⟨k, by omega, ?_⟩;simp only [RRq_hex.j6] at h6;by_cases he : e = 0
 ·rw [if_pos he] at h6; rw [show (e == 0 && decide (hexD c < 0)) = decide (hexD c < 0) by simp [he]]; exact h6
 ·rw [if_neg he] at h6; rw [show (e == 0 && decide (hexD c < 0)) = false by simp [he]]; exact h6
set_option maxRecDepth 100000 in
set_option maxHeartbeats 3200000 in
theorem RRq_hex.calls (k : Nat) (g : Nat) (s0_0 : List Int) (s0_1 : Int) (s0_2 : Int) (s0_3 : Int) (s0_4 : Int) (r1 : Int) (r2 : Int) (r3 : Int) (r4 : Int) (r5 : Int) (w0 w : World) (hI : IsS96 w0 w g s0_0 s0_1 s0_2 s0_3 s0_4) (hB : Below w0.heap.size w0 w) (h : RRq_hex.f k s0_0 s0_1 s0_2 s0_3 s0_4 = some (r1, r2, r3, r4, r5)) :
  Calls Tryd.prog 107 #[.pointer (some ⟨g, 0, none⟩)] w fun e w' => e = .returned (.int .i64 r1) ∧ IsS96 w0 w' g s0_0 r2 r3 r4 r5 ∧ Below w0.heap.size w0 w' ∧ Kbt w w' g none := by
 have N := Sdq.mk (PS.start hI hB);clear hI hB;simp only [RRq_hex.f] at h;have H := Sdq.mk h;clear h;go_enter Tryd.func107, Tryd.ntmps107
 go_wp2_with fail
 go_loopg [3, 4] k (fun kq s3 s4 wc => ∃ x3 x4 a d e B : Int, s3 = .int .i64 x3 ∧ s4 = .int .i64 x4 ∧ Sdq (RRq_hex.l0 kq x3 x4 s0_0 a d e B = some (r1, r2, r3, r4, r5)) ∧ Sdq (PS w0 w g s0_0 wc a d e B))
 case atStart => exact ⟨_, _, _, _, _, _, rfl, rfl, H, N⟩
 case round =>
  clear H N;obtain ⟨x3, x4, a, d, e, B, rfl, rfl, H, N⟩ := hrel
  cases gk with
  | zero => exact absurd H.out (by simp [RRq_hex.l0])
  | succ gk =>
  have h := H.out;clear H;simp only [RRq_hex.l0] at h;by_cases h4 : x4 < 4
  case neg =>
   rw [if_neg h4] at h
   obtain ⟨rfl, rfl, rfl, rfl, rfl⟩ := (by simpa using h : x3 = r1 ∧ a = r2 ∧ d = r3 ∧ e = r4 ∧ B = r5)
   clear h
   go_wp2_with fail
   go_ret;exact ⟨rfl, N.out.i, N.out.bl, N.out.k⟩
  rw [if_pos h4] at h;obtain ⟨⟨c, a1, d1, e1, B1⟩, q, h⟩ := Option.bind_eq_some_iff.mp h;have Q := Sdq.mk q;obtain ⟨j, hj, h⟩ := hex_dig h;have H := Sdq.mk h;clear q h
  go_wp2_with fail
  refine (RRq_peek.calls g s0_0 a d e B c a1 d1 e1 B1 w0 _ N.out.i N.out.bl Q.out).mono ?_;rintro en w2 ⟨rfl, hi, hb, hk⟩;have N2 := Sdq.mk (N.out.call hi hb hk);clear N hi hb hk Q;obtain ⟨c1, c2, c3, f1, f2⟩ := N2.out.cells
  cases j with
  | zero => exact absurd H.out (by simp [RRq_hex.j7])
  | succ j =>
  have h := H.out;clear H;simp only [RRq_hex.j7] at h
  rcases hex_cls c with ⟨k1, k2⟩ | ⟨k1, k2⟩ | ⟨k1, k2⟩ | ⟨k1, k2, k3⟩
  ·have k3 : ¬ 97 ≤ c := by omega
   have k5 : ¬ 65 ≤ c := by omega
   have hv : hexD c = c - 48 := by unfold hexD; rw [if_neg (by omega), if_neg (by omega), if_pos (by omega)]; unfold wrap64; omega
   rw [if_neg (by rw [hv]; simp; omega)] at h
   rcases Bool.eq_false_or_eq_true (e1 == 0) with q1 | q1
   ·rw [if_pos (by simpa using q1), hv] at h
    have H := Sdq.mk h
    have eb : (e1 != 0) = false := by simpa using q1
    have N3 := Sdq.mk (N2.out.set1 (wrap64 (a1 + 1)));clear h N2 hv
    go_wp2_with fail
    go_roundg j
    case measure => omega
    exact ⟨_, _, _, _, _, _, rfl, rfl, H, N3⟩
   ·rw [if_neg (by simpa using q1)] at h
    obtain ⟨rfl, rfl, rfl, rfl, rfl⟩ := (by simpa using h : 0 = r1 ∧ a1 = r2 ∧ d1 = r3 ∧ e1 = r4 ∧ B1 = r5)
    have eb : (e1 != 0) = true := by simpa using q1
    clear h hv
    go_wp2_with fail
    go_ret;exact ⟨rfl, N2.out.i, N2.out.bl, N2.out.k⟩
  ·have k3 : ¬ c ≤ 57 := by omega
   have k4 : 48 ≤ c := by omega
   have k5 : 65 ≤ c := by omega
   have k6 : ¬ c ≤ 70 := by omega
   have hv : hexD c = c - 97 + 10 := by unfold hexD; rw [if_neg (by omega), if_pos (by omega)]; unfold wrap64; omega
   rw [if_neg (by rw [hv]; simp; omega)] at h
   rcases Bool.eq_false_or_eq_true (e1 == 0) with q1 | q1
   ·rw [if_pos (by simpa using q1), hv] at h
    have H := Sdq.mk h
    have eb : (e1 != 0) = false := by simpa using q1
    have N3 := Sdq.mk (N2.out.set1 (wrap64 (a1 + 1)));clear h N2 hv
    go_wp2_with fail
    go_roundg j
    case measure => omega
    exact ⟨_, _, _, _, _, _, rfl, rfl, H, N3⟩
   ·rw [if_neg (by simpa using q1)] at h
    obtain ⟨rfl, rfl, rfl, rfl, rfl⟩ := (by simpa using h : 0 = r1 ∧ a1 = r2 ∧ d1 = r3 ∧ e1 = r4 ∧ B1 = r5)
    have eb : (e1 != 0) = true := by simpa using q1
    clear h hv
    go_wp2_with fail
    go_ret;exact ⟨rfl, N2.out.i, N2.out.bl, N2.out.k⟩
  ·have k3 : ¬ c ≤ 57 := by omega
   have k4 : 48 ≤ c := by omega
   have k5 : ¬ 97 ≤ c := by omega
   have hv : hexD c = c - 65 + 10 := by unfold hexD; rw [if_pos (by omega)]; unfold wrap64; omega
   rw [if_neg (by rw [hv]; simp; omega)] at h
   rcases Bool.eq_false_or_eq_true (e1 == 0) with q1 | q1
   ·rw [if_pos (by simpa using q1), hv] at h
    have H := Sdq.mk h
    have eb : (e1 != 0) = false := by simpa using q1
    have N3 := Sdq.mk (N2.out.set1 (wrap64 (a1 + 1)));clear h N2 hv
    go_wp2_with fail
    go_roundg j
    case measure => omega
    exact ⟨_, _, _, _, _, _, rfl, rfl, H, N3⟩
   ·rw [if_neg (by simpa using q1)] at h
    obtain ⟨rfl, rfl, rfl, rfl, rfl⟩ := (by simpa using h : 0 = r1 ∧ a1 = r2 ∧ d1 = r3 ∧ e1 = r4 ∧ B1 = r5)
    have eb : (e1 != 0) = true := by simpa using q1
    clear h hv
    go_wp2_with fail
    go_ret;exact ⟨rfl, N2.out.i, N2.out.bl, N2.out.k⟩
  ·have hv : hexD c = -1 := by unfold hexD; rw [if_neg k3, if_neg k2, if_neg k1]
   rcases (show c < 48 ∨ (57 < c ∧ c < 65) ∨ (70 < c ∧ c < 97) ∨ 102 < c by omega) with k4 | ⟨k4, k5⟩ | ⟨k4, k5⟩ | k4
   all_goals
    clear k1 k2 k3
    rcases Bool.eq_false_or_eq_true (e1 == 0) with q1 | q1
    ·rw [if_pos (by rw [hv]; simpa using q1)] at h
     obtain ⟨⟨a2, d2, e2, B2⟩, q, h⟩ := Option.bind_eq_some_iff.mp h;rw [hv] at h;have Q := Sdq.mk q;have H := Sdq.mk h;clear q h hv
     go_wp2_with fail
     refine (RRq_fail.calls g s0_0 a1 d1 e1 B1 6 a1 a2 d2 e2 B2 w0 _ N2.out.i N2.out.bl Q.out).mono ?_;rintro en w3 ⟨rfl, hi, hb, hk⟩;have N := Sdq.mk (N2.out.call hi hb hk);clear N2 hi hb hk Q c1 c2 c3 f1 f2;obtain ⟨c1, c2, c3, f1, f2⟩ := N.out.cells;have h := H.out;clear H;by_cases q3 : e2 = 0
     ·rw [if_pos q3] at h
      have H := Sdq.mk h
      have eb : (e2 != 0) = false := by simp [q3]
      have N3 := Sdq.mk (N.out.set1 (wrap64 (a2 + 1)));clear h q3 N
      go_wp2_with fail
      go_roundg j
      case measure => omega
      exact ⟨_, _, _, _, _, _, rfl, rfl, H, N3⟩
     ·rw [if_neg q3] at h
      obtain ⟨rfl, rfl, rfl, rfl, rfl⟩ := (by simpa using h : 0 = r1 ∧ a2 = r2 ∧ d2 = r3 ∧ e2 = r4 ∧ B2 = r5)
      have eb : (e2 != 0) = true := by simp [q3]
      clear h q3
      go_wp2_with fail
      go_ret;exact ⟨rfl, N.out.i, N.out.bl, N.out.k⟩
    ·rw [if_neg (by simp [q1]), if_neg (by simpa using q1)] at h
     obtain ⟨rfl, rfl, rfl, rfl, rfl⟩ := (by simpa using h : 0 = r1 ∧ a1 = r2 ∧ d1 = r3 ∧ e1 = r4 ∧ B1 = r5)
     have eb : (e1 != 0) = true := by simpa using q1
     clear h hv
     go_wp2_with fail
     go_ret;exact ⟨rfl, N2.out.i, N2.out.bl, N2.out.k⟩
end Go.Proofs.YteighppcdpaekaaDoor.P
end
section
namespace Go.Proofs.YteighppcdpaekaaDoor.P
open Go.RowKit Go.Proofs.YteighppcdpaekaaDoorW.PrintWords Go.Proofs.YteighppcdpaekaaDoorW.PrintLast Go.Proofs.YteighppcdpaekaaDoorW.PrintMore
mutual
def RRq_second.j0 : Nat → Int → Int → Bool → List Int → Int → Int → Int → Int → Option (Int × Int × Int × Int × Int)
 | 0, _, _, _, _, _, _, _, _ => none
 | k + 1, x1, x2, x32, x1000, x1001, x1002, x1003, x1004 => if x32 = true then ((RRq_fail.f x1000 x1001 x1002 x1003 x1004 6 x1).bind fun bt594 => (RRq_second.j1 k x1 x2 x1000 bt594.1 bt594.2.1 bt594.2.2.1 bt594.2.2.2)) else (RRq_second.j1 k x1 x2 x1000 x1001 x1002 x1003 x1004)
def RRq_second.j1 : Nat → Int → Int → List Int → Int → Int → Int → Int → Option (Int × Int × Int × Int × Int)
 | 0, _, _, _, _, _, _, _ => none
 | k + 1, x1, x2, x1000, x1001, x1002, x1003, x1004 => if x1003 = 0 then ((RRq_hex.f k x1000 (wrap64 (x1001 + 1)) x1002 x1003 x1004).bind fun bt598 => (if bt598.2.2.2.1 = 0 then (if bt598.1 < 56320 then ((RRq_fail.f x1000 bt598.2.1 bt598.2.2.1 bt598.2.2.2.1 bt598.2.2.2.2 6 x1).bind fun bt603 => (some (wrap64 ((wrap64 ((wrap64 (65536 + (wrap64 ((wrap64 (x2 - 55296)) * 1024)))) + bt598.1)) - 56320), bt603.1, bt603.2.1, bt603.2.2.1, bt603.2.2.2))) else (if bt598.1 > 57343 then ((RRq_fail.f x1000 bt598.2.1 bt598.2.2.1 bt598.2.2.2.1 bt598.2.2.2.2 6 x1).bind fun bt607 => (some (wrap64 ((wrap64 ((wrap64 (65536 + (wrap64 ((wrap64 (x2 - 55296)) * 1024)))) + bt598.1)) - 56320), bt607.1, bt607.2.1, bt607.2.2.1, bt607.2.2.2))) else (some (wrap64 ((wrap64 ((wrap64 (65536 + (wrap64 ((wrap64 (x2 - 55296)) * 1024)))) + bt598.1)) - 56320), bt598.2.1, bt598.2.2.1, bt598.2.2.2.1, bt598.2.2.2.2)))) else (some (wrap64 ((wrap64 ((wrap64 (65536 + (wrap64 ((wrap64 (x2 - 55296)) * 1024)))) + bt598.1)) - 56320), bt598.2.1, bt598.2.2.1, bt598.2.2.2.1, bt598.2.2.2.2)))) else (some (0, x1001, x1002, x1003, x1004))
end
def RRq_second.f (k : Nat) (s0_0 : List Int) (s0_1 : Int) (s0_2 : Int) (s0_3 : Int) (s0_4 : Int) (a1 : Int) (a2 : Int) : Option (Int × Int × Int × Int × Int) := (RRq_see.f s0_0 s0_1 s0_2 s0_3 s0_4).bind fun bt580 => (if bt580.1 = 92 then ((RRq_peek.f s0_0 (wrap64 (bt580.2.1 + 1)) bt580.2.2.1 bt580.2.2.2.1 bt580.2.2.2.2).bind fun bt589 => (if bt589.2.2.2.1 = 0 then (RRq_second.j0 k a1 a2 (bt589.1 != 117) s0_0 bt589.2.1 bt589.2.2.1 bt589.2.2.2.1 bt589.2.2.2.2) else (RRq_second.j0 k a1 a2 false s0_0 bt589.2.1 bt589.2.2.1 bt589.2.2.2.1 bt589.2.2.2.2))) else ((RRq_fail.f s0_0 bt580.2.1 bt580.2.2.1 bt580.2.2.2.1 bt580.2.2.2.2 6 a1).bind fun bt585 => (some (0, bt585.1, bt585.2.1, bt585.2.2.1, bt585.2.2.2))))
set_option maxRecDepth 100000 in
set_option maxHeartbeats 3200000 in
theorem RRq_second.calls (k : Nat) (g : Nat) (s0_0 : List Int) (s0_1 : Int) (s0_2 : Int) (s0_3 : Int) (s0_4 : Int) (A1 : Int) (A2 : Int) (r1 : Int) (r2 : Int) (r3 : Int) (r4 : Int) (r5 : Int) (w0 w : World) (hI : IsS96 w0 w g s0_0 s0_1 s0_2 s0_3 s0_4) (hB : Below w0.heap.size w0 w) (h : RRq_second.f k s0_0 s0_1 s0_2 s0_3 s0_4 A1 A2 = some (r1, r2, r3, r4, r5)) :
  Calls Tryd.prog 108 #[.pointer (some ⟨g, 0, none⟩), .int .i64 A1, .int .i64 A2] w fun e w' => e = .returned (.int .i64 r1) ∧ IsS96 w0 w' g s0_0 r2 r3 r4 r5 ∧ Below w0.heap.size w0 w' ∧ Kbt w w' g none := by
 have N := Sdq.mk (PS.start hI hB);clear hI hB;simp only [RRq_second.f] at h;obtain ⟨⟨t, a1, d1, e1, B1⟩, q, h⟩ := Option.bind_eq_some_iff.mp h;have Q := Sdq.mk q;have H := Sdq.mk h;clear q h;go_enter Tryd.func108, Tryd.ntmps108
 go_wp2_with fail
 refine (RRq_see.calls g s0_0 s0_1 s0_2 s0_3 s0_4 t a1 d1 e1 B1 w0 _ N.out.i N.out.bl Q.out).mono ?_;rintro en w1 ⟨rfl, hi, hb, hk⟩;have N2 := Sdq.mk (N.out.call hi hb hk);clear N hi hb hk Q;have h := H.out;clear H;by_cases ht : t = 92
 case neg =>
  rw [if_neg ht] at h;obtain ⟨⟨a2, d2, e2, B2⟩, q, h⟩ := Option.bind_eq_some_iff.mp h
  obtain ⟨rfl, rfl, rfl, rfl, rfl⟩ := (by simpa using h : 0 = r1 ∧ a2 = r2 ∧ d2 = r3 ∧ e2 = r4 ∧ B2 = r5)
  have Q := Sdq.mk q
  have tb : (t != 92) = true := by simp [ht]
  clear q h ht
  go_wp2_with fail
  refine (RRq_fail.calls g s0_0 a1 d1 e1 B1 6 A1 a2 d2 e2 B2 w0 _ N2.out.i N2.out.bl Q.out).mono ?_;rintro en w2 ⟨rfl, hi, hb, hk⟩;have N := Sdq.mk (N2.out.call hi hb hk);clear N2 hi hb hk Q
  go_wp2_with fail
  go_ret;exact ⟨rfl, N.out.i, N.out.bl, N.out.k⟩
 rw [if_pos ht] at h;obtain ⟨⟨u, a2, d2, e2, B2⟩, q, h⟩ := Option.bind_eq_some_iff.mp h
 replace h : RRq_second.j0 k A1 A2 (e2 == 0 && u != 117) s0_0 a2 d2 e2 B2 = some (r1, r2, r3, r4, r5) := by
  by_cases he : e2 = 0
  ·rw [if_pos he] at h; rw [show (e2 == 0 && u != 117) = (u != 117) by simp [he]]; exact h
  ·rw [if_neg he] at h; rw [show (e2 == 0 && u != 117) = false by simp [he]]; exact h
 have Q := Sdq.mk q;have H := Sdq.mk h
 have tb : (t != 92) = false := by simp [ht]
 clear q h ht;obtain ⟨c1, c2, c3, f1, f2⟩ := N2.out.cells
 go_wp2_with fail
 have N := Sdq.mk (N2.out.set1 (wrap64 (a1 + 1)));clear N2 c1 c2 c3 f1 f2;refine (RRq_peek.calls g s0_0 _ d1 e1 B1 u a2 d2 e2 B2 w0 _ N.out.i N.out.bl Q.out).mono ?_;rintro en w2 ⟨rfl, hi, hb, hk⟩;have N2 := Sdq.mk (N.out.call hi hb hk);clear N hi hb hk Q
 cases k with
 | zero => exact absurd H.out (by simp [RRq_second.j0])
 | succ k =>
 obtain ⟨c1, c2, c3, f1, f2⟩ := N2.out.cells
 go_upto_region 6 with fail
 go_cut [32] (fun s wc => s = .bool (e2 == 0 && u != 117) ∧ wc = w2)
 case first =>
  rcases Bool.eq_false_or_eq_true (e2 == 0) with q1 | q1 <;> rcases Bool.eq_false_or_eq_true (u != 117) with q2 | q2
  all_goals
   go_wp2_with fail
   go_meet
   exact ⟨by simp [q1, q2], rfl⟩
 case rest =>
  obtain ⟨rfl, rfl⟩ := hcut;clear c1 c2 c3 f1 f2
  go_upto_if 32 with fail
  go_cut [] (fun wc => ∃ a3 d3 e3 B3, Sdq (PS w0 w g s0_0 wc a3 d3 e3 B3) ∧ Sdq (RRq_second.j1 k A1 A2 s0_0 a3 d3 e3 B3 = some (r1, r2, r3, r4, r5)))
  case first =>
   have h := H.out;clear H;simp only [RRq_second.j0] at h
   rcases Bool.eq_false_or_eq_true (e2 == 0 && u != 117) with q1 | q1
   ·rw [if_pos q1] at h
    obtain ⟨⟨a3, d3, e3, B3⟩, q, h⟩ := Option.bind_eq_some_iff.mp h;have Q := Sdq.mk q;have H := Sdq.mk h;clear q h;rw [q1]
    go_wp2_with fail
    refine (RRq_fail.calls g s0_0 a2 d2 e2 B2 6 A1 a3 d3 e3 B3 w0 _ N2.out.i N2.out.bl Q.out).mono ?_;rintro en w3 ⟨rfl, hi, hb, hk⟩;have N := Sdq.mk (N2.out.call hi hb hk);clear N2 hi hb hk Q
    go_wp2_with fail
    go_meet
    exact ⟨_, _, _, _, N, H⟩
   ·rw [if_neg (by rw [q1]; decide)] at h
    have H := Sdq.mk h;clear h;rw [q1]
    go_wp2_with fail
    go_meet
    exact ⟨_, _, _, _, N2, H⟩
  case rest =>
   clear N2 H;obtain ⟨a3, d3, e3, B3, N, H⟩ := hcut;obtain ⟨c1, c2, c3, f1, f2⟩ := N.out.cells
   cases k with
   | zero => exact absurd H.out (by simp [RRq_second.j1])
   | succ k =>
   have h := H.out;clear H;simp only [RRq_second.j1] at h;by_cases he : e3 = 0
   case neg =>
    rw [if_neg he] at h
    obtain ⟨rfl, rfl, rfl, rfl, rfl⟩ := (by simpa using h : 0 = r1 ∧ a3 = r2 ∧ d3 = r3 ∧ e3 = r4 ∧ B3 = r5)
    have eb : (e3 != 0) = true := by simp [he]
    clear h
    go_wp2_with fail
    go_ret;exact ⟨rfl, N.out.i, N.out.bl, N.out.k⟩
   rw [if_pos he] at h
   have eb : (e3 != 0) = false := by simp [he]
   obtain ⟨⟨v, a4, d4, e4, B4⟩, q, h⟩ := Option.bind_eq_some_iff.mp h;have Q := Sdq.mk q;generalize hV : wrap64 (wrap64 (wrap64 (65536 + wrap64 (wrap64 (A2 - 55296) * 1024)) + v) - 56320) = V at h
   replace h : (if (e4 == 0 && (decide (v < 56320) || decide (v > 57343))) = true then (RRq_fail.f s0_0 a4 d4 e4 B4 6 A1).bind fun z => some (V, z.1, z.2.1, z.2.2.1, z.2.2.2) else some (V, a4, d4, e4, B4)) = some (r1, r2, r3, r4, r5) := by
    by_cases he4 : e4 = 0
    ·rw [if_pos he4] at h
     by_cases hv1 : v < 56320
     ·rw [if_pos hv1] at h; simpa [he4, hv1] using h
     ·rw [if_neg hv1] at h
      by_cases hv2 : v > 57343
      ·rw [if_pos hv2] at h; simpa [he4, hv1, hv2] using h
      ·rw [if_neg hv2] at h; simpa [he4, hv1, hv2] using h
    ·rw [if_neg he4] at h; simpa [he4] using h
   have H := Sdq.mk h;have HV := Sdq.mk hV;clear q h he hV
   go_wp2_with fail
   have N2 := Sdq.mk (N.out.set1 (wrap64 (a3 + 1)));clear N c1 c2 c3 f1 f2 eb;refine (RRq_hex.calls k g s0_0 _ d3 e3 B3 v a4 d4 e4 B4 w0 _ N2.out.i N2.out.bl Q.out).mono ?_;rintro en w4 ⟨rfl, hi, hb, hk⟩;have N := Sdq.mk (N2.out.call hi hb hk);clear N2 hi hb hk Q;obtain ⟨c1, c2, c3, f1, f2⟩ := N.out.cells
   go_upto_region 12 with fail
   go_cut [62] (fun s wc => s = .bool (e4 == 0 && (decide (v < 56320) || decide (v > 57343))) ∧ wc = w4)
   case first =>
    rcases Bool.eq_false_or_eq_true (e4 == 0) with q1 | q1 <;> rcases (show (v < 56320 ∧ ¬ v > 57343) ∨ (¬ v < 56320 ∧ v > 57343) ∨ (¬ v < 56320 ∧ ¬ v > 57343) by omega) with ⟨q2, q3⟩ | ⟨q2, q3⟩ | ⟨q2, q3⟩
    all_goals
     go_wp2_with fail
     go_meet
     exact ⟨by simp [q1, q2, q3], rfl⟩
   case rest =>
    obtain ⟨rfl, rfl⟩ := hcut;clear c1 c2 c3 f1 f2;have h := H.out;clear H;have hV := HV.out;clear HV
    rcases Bool.eq_false_or_eq_true (e4 == 0 && (decide (v < 56320) || decide (v > 57343))) with q1 | q1
    ·rw [if_pos q1] at h
     obtain ⟨⟨a5, d5, e5, B5⟩, q, h⟩ := Option.bind_eq_some_iff.mp h
     obtain ⟨rfl, rfl, rfl, rfl, rfl⟩ := (by simpa using h : V = r1 ∧ a5 = r2 ∧ d5 = r3 ∧ e5 = r4 ∧ B5 = r5)
     have Q := Sdq.mk q;clear q h;rw [q1]
     go_wp2_with fail
     refine (RRq_fail.calls g s0_0 a4 d4 e4 B4 6 A1 a5 d5 e5 B5 w0 _ N.out.i N.out.bl Q.out).mono ?_;rintro en w5 ⟨rfl, hi, hb, hk⟩;have N2 := Sdq.mk (N.out.call hi hb hk);clear N hi hb hk Q
     go_wp2_with fail
     go_ret;exact ⟨by subst hV; rfl, N2.out.i, N2.out.bl, N2.out.k⟩
    ·rw [if_neg (by rw [q1]; decide)] at h
     obtain ⟨rfl, rfl, rfl, rfl, rfl⟩ := (by simpa using h : V = r1 ∧ a4 = r2 ∧ d4 = r3 ∧ e4 = r4 ∧ B4 = r5)
     clear h;rw [q1]
     go_wp2_with fail
     go_ret;exact ⟨by subst hV; rfl, N.out.i, N.out.bl, N.out.k⟩
end Go.Proofs.YteighppcdpaekaaDoor.P
end
