/- Walks and words of this session, put together by a program of this session (pack.py). Conditions: as each text says. -/
import Derived.Test.YteighppcdpaekaaDoorG2
import Derived.Test.YteighppcdpaekaaDoorG5
set_option linter.unusedVariables false
set_option linter.unusedSimpArgs false
section
namespace Go.Proofs.YteighppcdpaekaaDoor.P
open Go.RowKit Go.Proofs.YteighppcdpaekaaDoorW.PrintWords Go.Proofs.YteighppcdpaekaaDoorW.PrintLast Go.Proofs.YteighppcdpaekaaDoorW.PrintMore
attribute [local go_sem] max2_int min2_int max_two min_two max_three min_three max_four min_four
set_option linter.unusedVariables false
set_option linter.unusedSimpArgs false
mutual
def json_Get.j0 : Nat → ByteArray → Bool → Int → ByteArray → List ByteArray → List (S27) → Option (Int × ByteArray × List ByteArray × (List (S27)) × Bool)
 | 0, _, _, _, _, _, _ => none
 | k + 1, x1, x19, x263000, x263001, x263002, x263003 => if x19 = true then (json_Get.l0 k x1 x263002 (x263002.length : Int) 0 x263000 x263001 x263002 x263003) else (some (0, (⟨#[]⟩ : ByteArray), ([] : List ByteArray), ([] : List (S27)), false))
def json_Get.l0 : Nat → ByteArray → List ByteArray → Int → Int → Int → ByteArray → List ByteArray → List (S27) → Option (Int × ByteArray × List ByteArray × (List (S27)) × Bool)
 | 0, _, _, _, _, _, _, _, _ => none
 | k + 1, x1, x21, x22, x23, x263000, x263001, x263002, x263003 => if x23 < x22 then (if 0 ≤ x23 then (if x23 < (x21.length : Int) then (if (rdOf ByteArray.empty x21 x23).toList = x1.toList then (if x23 < (x263003.length : Int) then (some ((rd_T27 x263003 x23).f0, (rd_T27 x263003 x23).f1, (rd_T27 x263003 x23).f2, (rd_T27 x263003 x23).f3, true)) else (none)) else (json_Get.l0 k x1 x21 x22 (wrap64 (x23 + 1)) x263000 x263001 x263002 x263003)) else (none)) else (none)) else (some (0, (⟨#[]⟩ : ByteArray), ([] : List ByteArray), ([] : List (S27)), false))
end
def json_Get.f (k : Nat) (a0_0 : Int) (a0_1 : ByteArray) (l0_2 : List ByteArray) (l0_3 : List (S27)) (a1 : ByteArray) : Option (Int × ByteArray × List ByteArray × (List (S27)) × Bool) := if a0_0 = 6 then (json_Get.j0 k a1 ((l0_2.length : Int) == (l0_3.length : Int)) a0_0 a0_1 l0_2 l0_3) else (json_Get.j0 k a1 false a0_0 a0_1 l0_2 l0_3)
set_option maxHeartbeats 8000000 in
set_option maxRecDepth 100000 in
theorem json_Get.calls (k : Nat) (a0_0 : Int) (a0_1 : ByteArray) (A0_2 : Option Addr) (c0_2 : Nat) (l0_2 : List ByteArray) (P0_3_ : Nat → Prop) (A0_3 : Option Addr) (c0_3 : Nat) (l0_3 : List (S27)) (a1 : ByteArray) (r1 : Int) (r2 : ByteArray) (r3 : List ByteArray) (r4 : List (S27)) (r5 : Bool) (w : World) (hr0_2 : Kd.C Kd.string w A0_2 l0_2.length l0_2) (hc0_2 : l0_2.length ≤ c0_2) (hs0_3 : Kd.V k27 27 w w.heap.size (fun k_ => P0_3_ k_) (.slice A0_3 l0_3.length c0_3) l0_3) (h : json_Get.f k a0_0 a0_1 l0_2 l0_3 a1 = some (r1, r2, r3, r4, r5)) :
  Calls Tryd.prog 26 #[.agg #[.int .i64 a0_0, .string a0_1, .slice A0_2 l0_2.length c0_2, .slice A0_3 l0_3.length c0_3], .string a1] w fun e w' => ∃ v2_ v3_ : Value, e = .returned (.tuple #[.agg #[.int .i64 r1, .string r2, v2_, v3_], .bool r5]) ∧ Kd.V Kd.string 9 w' w.heap.size (fun k_ => (P0_3_ k_ ∨ w.heap.size ≤ k_)) v2_ r3 ∧ Kd.V k27 27 w' w.heap.size (fun k_ => (P0_3_ k_ ∨ w.heap.size ≤ k_)) v3_ r4 ∧ Below w.heap.size w w' := by
 have hu27 := Tryd.underlying27
 have HR0_2 := Aside0.mk hr0_2
 have HC0_2 := Aside0.mk hc0_2
 clear hr0_2 hc0_2
 have HO0_3 := Aside0.mk (show Kd.V k27 27 w w.heap.size (fun k_ => (P0_3_ k_ ∨ w.heap.size ≤ k_)) (.slice A0_3 l0_3.length c0_3) l0_3 from Kd.V_mono hs0_3 (fun k_ hk => .inl hk))
 have HB := Aside0.mk (Below.refl w.heap.size w)
 have H : (if a0_0 = 6 then (json_Get.j0 k a1 ((l0_2.length : Int) == (l0_3.length : Int)) a0_0 a0_1 l0_2 l0_3) else (json_Get.j0 k a1 false a0_0 a0_1 l0_2 l0_3)) = some (r1, r2, r3, r4, r5) := h
 clear h
 have HC3 := Aside0.mk H
 clear H
 go_enter Tryd.func26, Tryd.ntmps26
 go_upto_region 1 with (first | ((with_reducible refine gate_dst (N := 2) rfl ?_); (try (refine gate_guard (by rfl) ?_; dsimp only)); refine box_event ?hg (N := 2) ?hd (cs := #[.int .i64 a0_0, .string a0_1, .slice A0_2 l0_2.length c0_2, .slice A0_3 l0_3.length c0_3]) (t := 27) ?hr ?_; (case hd => rfl); (case hg => rfl); (case hr => first | (go_simp; done) | (go_simp; rfl)); intro gb262 hg w4 hbox hb; have n0_ := Aside0.mk (Kd.V_below (Kd.V_elderB (by (with_reducible repeat (first | apply Kd.V_alloc | apply Kd.V_drewN | apply Kd.V_drew)); exact HO0_3.out) gb262 (Nat.le_of_eq hg.symm)) hb); have n1_ := Aside0.mk (below_step (by repeat (first | (with_reducible first | exact HB.out | apply below_alloc | apply pw_below_drewN | apply below_drew1) | exact HB.out)) hb); have n2_ := Aside0.mk (hbox); have n3_ := Aside0.mk ((by rw [hg]; exact (below_size (by repeat (first | (with_reducible first | exact HB.out | apply below_alloc | apply pw_below_drewN | apply below_drew1) | exact HB.out))) : w.heap.size ≤ gb262)); have n4_ := Aside0.mk ((by rw [hg]; exact (below_size (by repeat (first | (with_reducible first | exact HB.out | apply below_alloc | apply pw_below_drewN | apply below_drew1) | exact HB.out))) : w.heap.size ≤ gb262)); clear HO0_3; clear HB; have HO0_3 := n0_; have HB := n1_; have BK262 := n2_; have GW262 := n3_; have GE262 := n4_; clear n0_ n1_ n2_ n3_ n4_; clear hb hbox hg) | ((with_reducible refine gate_dst (N := 4) rfl ?_); (try (refine gate_guard (by rfl) ?_; dsimp only)); refine box_event ?hg (N := 4) ?hd (cs := #[.int .i64 0, .string (⟨#[]⟩ : ByteArray), .slice none 0 0, .slice none 0 0]) (t := 27) ?hr ?_; (case hd => rfl); (case hg => rfl); (case hr => first | (go_simp; done) | (go_simp; rfl)); intro gb263 hg w5 hbox hb; have n0_ := Aside0.mk (Kd.V_below (Kd.V_elderB (by (with_reducible repeat (first | apply Kd.V_alloc | apply Kd.V_drewN | apply Kd.V_drew)); exact HO0_3.out) gb263 (Nat.le_of_eq hg.symm)) hb); have n1_ := Aside0.mk (blk_below (g := gb262) (o := .cells #[.int .i64 a0_0, .string a0_1, .slice A0_2 l0_2.length c0_2, .slice A0_3 l0_3.length c0_3] 27 (0, 0)) (by (with_reducible repeat (first | refine blk_drewN ?_ _ | refine blk_drew ?_ | refine blk_alloc ?_ _)); exact BK262.out) hb); have n2_ := Aside0.mk (below_step (by repeat (first | (with_reducible first | exact HB.out | apply below_alloc | apply pw_below_drewN | apply below_drew1 | refine below_set ?_ GE262.out) | exact HB.out)) hb); have n3_ := Aside0.mk (hbox); have n4_ := Aside0.mk ((by rw [hg]; exact (below_size (by repeat (first | (with_reducible first | exact HB.out | apply below_alloc | apply pw_below_drewN | apply below_drew1 | refine below_set ?_ GE262.out) | exact HB.out))) : w.heap.size ≤ gb263)); have n5_ := Aside0.mk ((by rw [hg]; exact (below_size (by repeat (first | (with_reducible first | exact HB.out | apply below_alloc | apply pw_below_drewN | apply below_drew1 | refine below_set ?_ GE262.out) | exact HB.out))) : w.heap.size ≤ gb263)); have n6_ := Aside0.mk ((by rw [hg]; exact Nat.ne_of_lt (blk_lt (g := gb262) (o := .cells #[.int .i64 a0_0, .string a0_1, .slice A0_2 l0_2.length c0_2, .slice A0_3 l0_3.length c0_3] 27 (0, 0)) (by (with_reducible repeat (first | refine blk_drewN ?_ _ | refine blk_drew ?_ | refine blk_alloc ?_ _)); exact BK262.out)) : gb262 ≠ gb263)); have n7_ := Aside0.mk ((by rw [hg]; exact Nat.ne_of_gt (blk_lt (g := gb262) (o := .cells #[.int .i64 a0_0, .string a0_1, .slice A0_2 l0_2.length c0_2, .slice A0_3 l0_3.length c0_3] 27 (0, 0)) (by (with_reducible repeat (first | refine blk_drewN ?_ _ | refine blk_drew ?_ | refine blk_alloc ?_ _)); exact BK262.out)) : gb263 ≠ gb262)); clear HO0_3; clear BK262; clear HB; have HO0_3 := n0_; have BK262 := n1_; have HB := n2_; have BK263 := n3_; have GW263 := n4_; have GE263 := n5_; have NB262_263 := n6_; have NB263_262 := n7_; clear n0_ n1_ n2_ n3_ n4_ n5_ n6_ n7_; clear hb hbox hg))
 (try simp only [Act.put, List.setIfInBounds_toArray, List.set_cons_zero, List.set_cons_succ])
 go_cut [19] (fun v19 wc => ∃ (kq : Nat) (x19_2 : Bool), v19 = .bool x19_2 ∧ Aside0 (json_Get.j0 kq a1 x19_2 a0_0 a0_1 l0_2 l0_3 = some (r1, r2, r3, r4, r5)) ∧ Aside0 (kq ≤ k) ∧ Aside0 (Kd.V k27 27 wc w.heap.size (fun k_ => (P0_3_ k_ ∨ w.heap.size ≤ k_) ∧ k_ ≠ gb262 ∧ k_ ≠ gb263) (.slice A0_3 l0_3.length c0_3) l0_3) ∧ Aside0 (wc.heap[gb262]? = some (.cells #[.int .i64 a0_0, .string a0_1, (.slice A0_2 l0_2.length c0_2), (.slice A0_3 l0_3.length c0_3)] 27 (0, 0))) ∧ Aside0 (wc.heap[gb263]? = some (.cells #[.int .i64 0, .string (⟨#[]⟩ : ByteArray), (.slice none 0 0), (.slice none 0 0)] 27 (0, 0))) ∧ Aside0 (Below w.heap.size w wc))
 case first =>
  have H := HC3.out
  clear HC3
  by_cases c6 : a0_0 = 6
  ·rw [if_pos c6] at H
   have c6b0 : (a0_0 == 6) = true := beq_iff_eq.mpr c6
   have c6b1 : (a0_0 != 6) = false := bne_eq_false_iff_eq.mpr c6
   clear c6
   (first | rw [c6b0] | (simp only [i64_w, i32_w]; rw [c6b0]) | skip)
   have H' := Aside0.mk H
   clear H
   have hnb7 := NB262_263.out
   have hnc7 := NB263_262.out
   have hcz8_0 : w5.cell? ⟨gb262, 0, none⟩ = some (.int .i64 a0_0) := (blk_cell BK262.out 0).trans rfl
   have hcz8_1 : w5.cell? ⟨gb262, 1, none⟩ = some (.string a0_1) := (blk_cell BK262.out 1).trans rfl
   have hcz8_2 : w5.cell? ⟨gb262, 2, none⟩ = some (.slice A0_2 l0_2.length c0_2) := (blk_cell BK262.out 2).trans rfl
   have hcz8_3 : w5.cell? ⟨gb262, 3, none⟩ = some (.slice A0_3 l0_3.length c0_3) := (blk_cell BK262.out 3).trans rfl
   have hfz8_0 := blk_frozen BK262.out 0
   have hfz8_1 := blk_frozen BK262.out 1
   have hfz8_2 := blk_frozen BK262.out 2
   have hfz8_3 := blk_frozen BK262.out 3
   go_wp2
   go_meet
   case rel => exact ⟨_, (((l0_2.length : Int) == (l0_3.length : Int))), (by first | rfl | (simp; done) | (simp [*]; done)), H', ⟨by first | omega | exact Nat.le_refl _⟩, ⟨by (with_reducible repeat (first | apply Kd.V_alloc | apply Kd.V_drewN | apply Kd.V_drew)); exact Kd.V_mono HO0_3.out (fun _ hk => ⟨hk.1.1, ⟨hk.1.2, hk.2⟩⟩)⟩, ⟨by (with_reducible repeat (first | refine blk_drewN ?_ _ | refine blk_drew ?_ | refine blk_alloc ?_ _)); exact BK262.out⟩, ⟨by (with_reducible repeat (first | refine blk_drewN ?_ _ | refine blk_drew ?_ | refine blk_alloc ?_ _)); exact BK263.out⟩, ⟨by repeat (first | (with_reducible first | exact HB.out | apply below_alloc | apply pw_below_drewN | apply below_drew1 | refine below_set ?_ GE262.out | refine below_set ?_ GE263.out) | exact HB.out)⟩⟩
  ·rw [if_neg c6] at H
   have c6b0 : (a0_0 == 6) = false := beq_eq_false_iff_ne.mpr c6
   have c6b1 : (a0_0 != 6) = true := bne_iff_ne.mpr c6
   (first | rw [c6b0] | (simp only [i64_w, i32_w]; rw [c6b0]) | skip)
   have H' := Aside0.mk H
   clear H
   have hnb9 := NB262_263.out
   have hnc9 := NB263_262.out
   have hcz10_0 : w5.cell? ⟨gb262, 0, none⟩ = some (.int .i64 a0_0) := (blk_cell BK262.out 0).trans rfl
   have hcz10_1 : w5.cell? ⟨gb262, 1, none⟩ = some (.string a0_1) := (blk_cell BK262.out 1).trans rfl
   have hcz10_2 : w5.cell? ⟨gb262, 2, none⟩ = some (.slice A0_2 l0_2.length c0_2) := (blk_cell BK262.out 2).trans rfl
   have hcz10_3 : w5.cell? ⟨gb262, 3, none⟩ = some (.slice A0_3 l0_3.length c0_3) := (blk_cell BK262.out 3).trans rfl
   have hfz10_0 := blk_frozen BK262.out 0
   have hfz10_1 := blk_frozen BK262.out 1
   have hfz10_2 := blk_frozen BK262.out 2
   have hfz10_3 := blk_frozen BK262.out 3
   go_wp2
   go_meet
   case rel => exact ⟨_, (false), (by first | rfl | (simp; done) | (simp [*]; done)), H', ⟨by first | omega | exact Nat.le_refl _⟩, ⟨by (with_reducible repeat (first | apply Kd.V_alloc | apply Kd.V_drewN | apply Kd.V_drew)); exact Kd.V_mono HO0_3.out (fun _ hk => ⟨hk.1.1, ⟨hk.1.2, hk.2⟩⟩)⟩, ⟨by (with_reducible repeat (first | refine blk_drewN ?_ _ | refine blk_drew ?_ | refine blk_alloc ?_ _)); exact BK262.out⟩, ⟨by (with_reducible repeat (first | refine blk_drewN ?_ _ | refine blk_drew ?_ | refine blk_alloc ?_ _)); exact BK263.out⟩, ⟨by repeat (first | (with_reducible first | exact HB.out | apply below_alloc | apply pw_below_drewN | apply below_drew1 | refine below_set ?_ GE262.out | refine below_set ?_ GE263.out) | exact HB.out)⟩⟩
 case rest =>
  clear HC3
  try clear c2; try clear p2; try clear c6; try clear c6b0; try clear c6b1; try clear c7; try clear c9; try clear hcz10_0; try clear hcz10_1; try clear hcz10_2; try clear hcz10_3; try clear hcz8_0; try clear hcz8_1; try clear hcz8_2; try clear hcz8_3; try clear hfz10_0; try clear hfz10_1; try clear hfz10_2; try clear hfz10_3; try clear hfz8_0; try clear hfz8_1; try clear hfz8_2; try clear hfz8_3
  obtain ⟨kq, x19_2, rfl, HA, HJ2, HO_263003, BK262, BK263, HB⟩ := hcut
  cases kq with
  | zero => exact absurd HA.out (by simp [json_Get.j0])
  | succ kj2 =>
   have H := HA.out
   clear HA
   simp only [json_Get.j0] at H
   by_cases c11 : x19_2 = true
   ·subst c11
    have H1 : (json_Get.l0 kj2 a1 l0_2 (l0_2.length : Int) 0 a0_0 a0_1 l0_2 l0_3) = some (r1, r2, r3, r4, r5) := by rw [if_pos rfl] at H; exact H
    clear H
    have H := H1
    clear H1
    have H' := Aside0.mk H
    clear H
    have hnb12 := NB262_263.out
    have hnc12 := NB263_262.out
    have hcz13_0 : wc.cell? ⟨gb262, 0, none⟩ = some (.int .i64 a0_0) := (blk_cell BK262.out 0).trans rfl
    have hcz13_1 : wc.cell? ⟨gb262, 1, none⟩ = some (.string a0_1) := (blk_cell BK262.out 1).trans rfl
    have hcz13_2 : wc.cell? ⟨gb262, 2, none⟩ = some (.slice A0_2 l0_2.length c0_2) := (blk_cell BK262.out 2).trans rfl
    have hcz13_3 : wc.cell? ⟨gb262, 3, none⟩ = some (.slice A0_3 l0_3.length c0_3) := (blk_cell BK262.out 3).trans rfl
    have hfz13_0 := blk_frozen BK262.out 0
    have hfz13_1 := blk_frozen BK262.out 1
    have hfz13_2 := blk_frozen BK262.out 2
    have hfz13_3 := blk_frozen BK262.out 3
    go_wp2
    go_loopg [23] kj2 (fun kq v23 w' => ∃ (x23_2 : Int) (x264000_2 : Int) (x264001_2 : ByteArray), v23 = .int .i64 x23_2 ∧ Aside0 (json_Get.l0 kq a1 l0_2 (l0_2.length : Int) x23_2 a0_0 a0_1 l0_2 l0_3 = some (r1, r2, r3, r4, r5)) ∧ Aside0 (kq ≤ kj2) ∧ Aside0 (Kd.V k27 27 w' w.heap.size (fun k_ => (P0_3_ k_ ∨ w.heap.size ≤ k_) ∧ k_ ≠ gb262 ∧ k_ ≠ gb263) (.slice A0_3 l0_3.length c0_3) l0_3) ∧ Aside0 (w'.heap[gb262]? = some (.cells #[.int .i64 a0_0, .string a0_1, (.slice A0_2 l0_2.length c0_2), (.slice A0_3 l0_3.length c0_3)] 27 (0, 0))) ∧ Aside0 (w'.heap[gb263]? = some (.cells #[.int .i64 x264000_2, .string x264001_2, (.slice none 0 0), (.slice none 0 0)] 27 (0, 0))) ∧ Aside0 (Below w.heap.size w w'))
    case atStart => exact ⟨(0), (0), ((⟨#[]⟩ : ByteArray)), (by first | rfl | (simp; done) | (simp [*]; done)), H', ⟨Nat.le_refl _⟩, ⟨by (with_reducible repeat (first | apply Kd.V_alloc | apply Kd.V_drewN | apply Kd.V_drew)); exact HO_263003.out⟩, ⟨by (with_reducible repeat (first | refine blk_drewN ?_ _ | refine blk_drew ?_ | refine blk_alloc ?_ _)); exact BK262.out⟩, ⟨by (with_reducible repeat (first | refine blk_drewN ?_ _ | refine blk_drew ?_ | refine blk_alloc ?_ _)); exact BK263.out⟩, ⟨by repeat (first | (with_reducible first | exact HB.out | apply below_alloc | apply pw_below_drewN | apply below_drew1 | refine below_set ?_ GE262.out | refine below_set ?_ GE263.out) | exact HB.out)⟩⟩
    case round =>
     clear H'
     try clear c1; try clear c2; try clear p2; try clear c6; try clear c6b0; try clear c6b1; try clear c7; try clear c9; try clear c11; try clear c12; try clear hcz10_0; try clear hcz10_1; try clear hcz10_2; try clear hcz10_3; try clear hcz13_0; try clear hcz13_1; try clear hcz13_2; try clear hcz13_3; try clear hcz8_0; try clear hcz8_1; try clear hcz8_2; try clear hcz8_3; try clear hfz10_0; try clear hfz10_1; try clear hfz10_2; try clear hfz10_3; try clear hfz13_0; try clear hfz13_1; try clear hfz13_2; try clear hfz13_3; try clear hfz8_0; try clear hfz8_1; try clear hfz8_2; try clear hfz8_3; try clear p2
     obtain ⟨x23_2, x264000_2, x264001_2, rfl, HA, HK2, HO_263003, BK262, BK263, HB⟩ := hrel
     cases gk with
     | zero => exact absurd HA.out (by simp [json_Get.l0])
     | succ k2 =>
      have H := HA.out
      clear HA
      simp only [json_Get.l0] at H
      by_cases c14 : x23_2 < (l0_2.length : Int)
      ·rw [if_pos c14] at H
       have c14b0 : decide (x23_2 < (l0_2.length : Int)) = true := decide_eq_true c14
       clear c14
       by_cases c15 : 0 ≤ x23_2
       ·rw [if_pos c15] at H
        have c15b0 : decide (0 ≤ x23_2) = true := decide_eq_true c15
        clear c15
        by_cases c16 : x23_2 < (l0_2.length : Int)
        ·rw [if_pos c16] at H
         have c16b0 : decide (x23_2 < (l0_2.length : Int)) = true := decide_eq_true c16
         clear c16
         by_cases c17 : (rdOf ByteArray.empty l0_2 x23_2).toList = a1.toList
         ·rw [if_pos c17] at H
          have c17b0 : ((rdOf ByteArray.empty l0_2 x23_2).toList == a1.toList) = true := beq_iff_eq.mpr c17
          have c17b1 : ((rdOf ByteArray.empty l0_2 x23_2).toList != a1.toList) = false := bne_eq_false_iff_eq.mpr c17
          clear c17
          by_cases c18 : x23_2 < (l0_3.length : Int)
          ·rw [if_pos c18] at H
           have c18b0 : decide (x23_2 < (l0_3.length : Int)) = true := decide_eq_true c18
           clear c18
           simp only [Option.some.injEq, Prod.mk.injEq] at H
           obtain ⟨rfl, rfl, rfl, rfl, rfl⟩ := H
           have p264 : 0 ≤ (x23_2 : Int) := of_decide_eq_true (by first | (with_reducible assumption) | assumption)
           have q264 : x23_2 < (l0_2.length : Int) := of_decide_eq_true (by first | (with_reducible assumption) | assumption)
           obtain ⟨ad264, e264, hx264_0⟩ := Kd.at_string HR0_2.out x23_2 p264 q264
           cases e264
           replace hx264_0 := (HB.out.cell (World.block_lt_of_cell? w _ hx264_0)).trans hx264_0
           replace p264 := eq_true p264
           replace q264 := eq_true q264
           have hnb19 := NB262_263.out
           have hnc19 := NB263_262.out
           have hcz20_0 : wr.cell? ⟨gb262, 0, none⟩ = some (.int .i64 a0_0) := (blk_cell BK262.out 0).trans rfl
           have hcz20_1 : wr.cell? ⟨gb262, 1, none⟩ = some (.string a0_1) := (blk_cell BK262.out 1).trans rfl
           have hcz20_2 : wr.cell? ⟨gb262, 2, none⟩ = some (.slice (some ad264) l0_2.length c0_2) := (blk_cell BK262.out 2).trans rfl
           have hcz20_3 : wr.cell? ⟨gb262, 3, none⟩ = some (.slice A0_3 l0_3.length c0_3) := (blk_cell BK262.out 3).trans rfl
           have hfz20_0 := blk_frozen BK262.out 0
           have hfz20_1 := blk_frozen BK262.out 1
           have hfz20_2 := blk_frozen BK262.out 2
           have hfz20_3 := blk_frozen BK262.out 3
           have p265 : 0 ≤ (x23_2 : Int) := of_decide_eq_true (by first | (with_reducible assumption) | assumption)
           have q265 : x23_2 < (l0_3.length : Int) := of_decide_eq_true (by first | (with_reducible assumption) | assumption)
           obtain ⟨ad265, A265_2, c265_2, A265_3, c265_3, e265, hx265_0, hx265_1, hx265_2, hx265_3, hl265_2, hi265_2, hl265_3, hi265_3⟩ := at_T27 (Kd.V_reads' HO_263003.out).2.2 x23_2 p265 q265
           cases e265
           obtain ⟨ce265, hce265, hMe265, hcc265⟩ := Kd.V_get HO_263003.out z27 x23_2 p265 (by first | exact q265 | exact of_decide_eq_true (by first | (with_reducible assumption) | assumption) | (have e_ := (Kd.V_reads' HO_263003.out).1; omega))
           obtain ⟨ua265_2, uc265_2, ua265_3, uc265_3, rfl, ul265_2, ge265_2, ul265_3, ge265_3⟩ := k27_openF hMe265
           have hv265_2 := hcc265 2 _ rfl
           rw [add_field _ _ 2 (by omega)] at hv265_2
           replace hv265_2 := Option.some.inj (hv265_2.symm.trans hx265_2)
           injection hv265_2 with hva_ hvn_ hvc_
           rw [hva_] at ge265_2
           rw [hvc_] at ul265_2
           have HL265_2 := Aside0.mk (show Kd.V Kd.string 9 _ w.heap.size _ _ ((rd_T27 l0_3 x23_2).f2) from Kd.V_mk ul265_2 ge265_2)
           clear hva_ hvn_ hvc_ ge265_2 ul265_2
           have hv265_3 := hcc265 3 _ rfl
           rw [add_field _ _ 3 (by omega)] at hv265_3
           replace hv265_3 := Option.some.inj (hv265_3.symm.trans hx265_3)
           injection hv265_3 with hva_ hvn_ hvc_
           rw [hva_] at ge265_3
           rw [hvc_] at ul265_3
           have HL265_3 := Aside0.mk (show Kd.V k27 27 _ w.heap.size _ _ ((rd_T27 l0_3 x23_2).f3) from Kd.V_mk ul265_3 ge265_3)
           clear hva_ hvn_ hvc_ ge265_3 ul265_3
           clear hcc265 hce265
           have HR265_2 := Aside0.mk hi265_2
           have HC265_2 := Aside0.mk hl265_2
           clear hi265_2 hl265_2
           have HR265_3 := Aside0.mk hi265_3
           have HC265_3 := Aside0.mk hl265_3
           clear hi265_3 hl265_3
           replace p265 := eq_true p265
           replace q265 := eq_true q265
           have hcz21_0 : wr.cell? ⟨gb263, 0, none⟩ = some (.int .i64 x264000_2) := (blk_cell BK263.out 0).trans rfl
           have hcz21_1 : wr.cell? ⟨gb263, 1, none⟩ = some (.string x264001_2) := (blk_cell BK263.out 1).trans rfl
           have hcz21_2 : wr.cell? ⟨gb263, 2, none⟩ = some (.slice none 0 0) := (blk_cell BK263.out 2).trans rfl
           have hcz21_3 : wr.cell? ⟨gb263, 3, none⟩ = some (.slice none 0 0) := (blk_cell BK263.out 3).trans rfl
           have hfz21_0 := blk_frozen BK263.out 0
           have hfz21_1 := blk_frozen BK263.out 1
           have hfz21_2 := blk_frozen BK263.out 2
           have hfz21_3 := blk_frozen BK263.out 3
           go_wp2
           refine bodyPost_ret (results_ct rfl _ _ gb263 27 #[.int .i64 ((rd_T27 l0_3 x23_2).f0), .string ((rd_T27 l0_3 x23_2).f1), .slice A265_2 ((rd_T27 l0_3 x23_2).f2).length c265_2, .slice A265_3 ((rd_T27 l0_3 x23_2).f3).length c265_3] (0, 0) _ rfl (by (with_reducible repeat (first | refine blk_drewN ?_ _ | refine blk_drew ?_ | refine blk_alloc ?_ _)); refine blk_put (cs := #[.int .i64 ((rd_T27 l0_3 x23_2).f0), .string ((rd_T27 l0_3 x23_2).f1), .slice A265_2 ((rd_T27 l0_3 x23_2).f2).length c265_2, .slice none 0 0]) ?_ 3 _ rfl; (with_reducible repeat (first | refine blk_drewN ?_ _ | refine blk_drew ?_ | refine blk_alloc ?_ _)); refine blk_put (cs := #[.int .i64 ((rd_T27 l0_3 x23_2).f0), .string ((rd_T27 l0_3 x23_2).f1), .slice none 0 0, .slice none 0 0]) ?_ 2 _ rfl; (with_reducible repeat (first | refine blk_drewN ?_ _ | refine blk_drew ?_ | refine blk_alloc ?_ _)); refine blk_put (cs := #[.int .i64 ((rd_T27 l0_3 x23_2).f0), .string x264001_2, .slice none 0 0, .slice none 0 0]) ?_ 1 _ rfl; (with_reducible repeat (first | refine blk_drewN ?_ _ | refine blk_drew ?_ | refine blk_alloc ?_ _)); refine blk_put (cs := #[.int .i64 x264000_2, .string x264001_2, .slice none 0 0, .slice none 0 0]) ?_ 0 _ rfl; (with_reducible repeat (first | refine blk_drewN ?_ _ | refine blk_drew ?_ | refine blk_alloc ?_ _)); exact BK263.out) Tryd.underlying27 rfl (by kernel_rfl)) rfl ?_
           exact ⟨_, _, by first | rfl | (simp [errW_none, errW_some] <;> rfl) | (simp [*, errW_none, errW_some] <;> rfl), by (with_reducible repeat (first | apply Kd.V_alloc | apply Kd.V_drewN | apply Kd.V_drew)); exact Kd.V_mono (Kd.V_far (p := ⟨gb263, 3, none⟩) (Kd.V_far (p := ⟨gb263, 2, none⟩) (Kd.V_far (p := ⟨gb263, 1, none⟩) (Kd.V_far (p := ⟨gb263, 0, none⟩) (Kd.V_mono HL265_2.out (fun k_ hk => (⟨hk, hk.2.2⟩ : _ ∧ k_ ≠ gb263))) (fun _ hk => hk.2) (.int .i64 ((rd_T27 l0_3 x23_2).f0))) (fun _ hk => hk.2) (.string ((rd_T27 l0_3 x23_2).f1))) (fun _ hk => hk.2) (.slice A265_2 ((rd_T27 l0_3 x23_2).f2).length c265_2)) (fun _ hk => hk.2) (.slice A265_3 ((rd_T27 l0_3 x23_2).f3).length c265_3)) (fun _ hk => hk.1.1), by (with_reducible repeat (first | apply Kd.V_alloc | apply Kd.V_drewN | apply Kd.V_drew)); exact Kd.V_mono (Kd.V_far (p := ⟨gb263, 3, none⟩) (Kd.V_far (p := ⟨gb263, 2, none⟩) (Kd.V_far (p := ⟨gb263, 1, none⟩) (Kd.V_far (p := ⟨gb263, 0, none⟩) (Kd.V_mono HL265_3.out (fun k_ hk => (⟨hk, hk.2.2⟩ : _ ∧ k_ ≠ gb263))) (fun _ hk => hk.2) (.int .i64 ((rd_T27 l0_3 x23_2).f0))) (fun _ hk => hk.2) (.string ((rd_T27 l0_3 x23_2).f1))) (fun _ hk => hk.2) (.slice A265_2 ((rd_T27 l0_3 x23_2).f2).length c265_2)) (fun _ hk => hk.2) (.slice A265_3 ((rd_T27 l0_3 x23_2).f3).length c265_3)) (fun _ hk => hk.1.1), by repeat (first | (with_reducible first | exact HB.out | apply below_alloc | apply pw_below_drewN | apply below_drew1 | refine below_set ?_ GE262.out | refine below_set ?_ GE263.out) | exact HB.out)⟩
          ·rw [if_neg c18] at H
           exact absurd H (by simp)
         ·rw [if_neg c17] at H
          have c17b0 : ((rdOf ByteArray.empty l0_2 x23_2).toList == a1.toList) = false := beq_eq_false_iff_ne.mpr c17
          have c17b1 : ((rdOf ByteArray.empty l0_2 x23_2).toList != a1.toList) = true := bne_iff_ne.mpr c17
          have H' := Aside0.mk H
          clear H
          have p264 : 0 ≤ (x23_2 : Int) := of_decide_eq_true (by first | (with_reducible assumption) | assumption)
          have q264 : x23_2 < (l0_2.length : Int) := of_decide_eq_true (by first | (with_reducible assumption) | assumption)
          obtain ⟨ad264, e264, hx264_0⟩ := Kd.at_string HR0_2.out x23_2 p264 q264
          cases e264
          replace hx264_0 := (HB.out.cell (World.block_lt_of_cell? w _ hx264_0)).trans hx264_0
          replace p264 := eq_true p264
          replace q264 := eq_true q264
          go_wp2
          go_roundg k2
          case measure => have := HJ2.out; have := HK2.out; omega
          case rel => exact ⟨(wrap64 (x23_2 + 1)), (x264000_2), (x264001_2), (by first | rfl | (simp; done) | (simp [*]; done)), H', ⟨by have := HJ2.out; have := HK2.out; omega⟩, ⟨by (with_reducible repeat (first | apply Kd.V_alloc | apply Kd.V_drewN | apply Kd.V_drew)); exact HO_263003.out⟩, ⟨by (with_reducible repeat (first | refine blk_drewN ?_ _ | refine blk_drew ?_ | refine blk_alloc ?_ _)); exact BK262.out⟩, ⟨by (with_reducible repeat (first | refine blk_drewN ?_ _ | refine blk_drew ?_ | refine blk_alloc ?_ _)); exact BK263.out⟩, ⟨by repeat (first | (with_reducible first | exact HB.out | apply below_alloc | apply pw_below_drewN | apply below_drew1 | refine below_set ?_ GE262.out | refine below_set ?_ GE263.out) | exact HB.out)⟩⟩
        ·rw [if_neg c16] at H
         exact absurd H (by simp)
       ·rw [if_neg c15] at H
        exact absurd H (by simp)
      ·rw [if_neg c14] at H
       have c14b0 : decide (x23_2 < (l0_2.length : Int)) = false := decide_eq_false c14
       clear c14
       simp only [Option.some.injEq, Prod.mk.injEq] at H
       obtain ⟨rfl, rfl, rfl, rfl, rfl⟩ := H
       have hnb22 := NB263_262.out
       have hnc22 := NB262_263.out
       have hcz23_0 : wr.cell? ⟨gb263, 0, none⟩ = some (.int .i64 x264000_2) := (blk_cell BK263.out 0).trans rfl
       have hcz23_1 : wr.cell? ⟨gb263, 1, none⟩ = some (.string x264001_2) := (blk_cell BK263.out 1).trans rfl
       have hcz23_2 : wr.cell? ⟨gb263, 2, none⟩ = some (.slice none 0 0) := (blk_cell BK263.out 2).trans rfl
       have hcz23_3 : wr.cell? ⟨gb263, 3, none⟩ = some (.slice none 0 0) := (blk_cell BK263.out 3).trans rfl
       have hfz23_0 := blk_frozen BK263.out 0
       have hfz23_1 := blk_frozen BK263.out 1
       have hfz23_2 := blk_frozen BK263.out 2
       have hfz23_3 := blk_frozen BK263.out 3
       go_wp2
       refine bodyPost_ret (results_ct rfl _ _ gb263 27 #[.int .i64 0, .string (⟨#[]⟩ : ByteArray), .slice none 0 0, .slice none 0 0] (0, 0) _ rfl (by (with_reducible repeat (first | refine blk_drewN ?_ _ | refine blk_drew ?_ | refine blk_alloc ?_ _)); refine blk_put (cs := #[.int .i64 0, .string (⟨#[]⟩ : ByteArray), .slice none 0 0, .slice none 0 0]) ?_ 3 _ rfl; (with_reducible repeat (first | refine blk_drewN ?_ _ | refine blk_drew ?_ | refine blk_alloc ?_ _)); refine blk_put (cs := #[.int .i64 0, .string (⟨#[]⟩ : ByteArray), .slice none 0 0, .slice none 0 0]) ?_ 2 _ rfl; (with_reducible repeat (first | refine blk_drewN ?_ _ | refine blk_drew ?_ | refine blk_alloc ?_ _)); refine blk_put (cs := #[.int .i64 0, .string x264001_2, .slice none 0 0, .slice none 0 0]) ?_ 1 _ rfl; (with_reducible repeat (first | refine blk_drewN ?_ _ | refine blk_drew ?_ | refine blk_alloc ?_ _)); refine blk_put (cs := #[.int .i64 x264000_2, .string x264001_2, .slice none 0 0, .slice none 0 0]) ?_ 0 _ rfl; (with_reducible repeat (first | refine blk_drewN ?_ _ | refine blk_drew ?_ | refine blk_alloc ?_ _)); exact BK263.out) Tryd.underlying27 rfl (by kernel_rfl)) rfl ?_
       exact ⟨_, _, by first | rfl | (simp [errW_none, errW_some] <;> rfl) | (simp [*, errW_none, errW_some] <;> rfl), Kd.V_nil _ _ _ _ _, Kd.V_nil _ _ _ _ _, by repeat (first | (with_reducible first | exact HB.out | apply below_alloc | apply pw_below_drewN | apply below_drew1 | refine below_set ?_ GE262.out | refine below_set ?_ GE263.out) | exact HB.out)⟩
   ·replace c11 := Bool.eq_false_iff.mpr c11
    subst c11
    have H1 : (some (0, (⟨#[]⟩ : ByteArray), ([] : List ByteArray), ([] : List (S27)), false)) = some (r1, r2, r3, r4, r5) := by rw [if_neg (show ¬ (false = true) by decide)] at H; exact H
    clear H
    have H := H1
    clear H1
    simp only [Option.some.injEq, Prod.mk.injEq] at H
    obtain ⟨rfl, rfl, rfl, rfl, rfl⟩ := H
    have hnb24 := NB263_262.out
    have hnc24 := NB262_263.out
    have hcz25_0 : wc.cell? ⟨gb263, 0, none⟩ = some (.int .i64 0) := (blk_cell BK263.out 0).trans rfl
    have hcz25_1 : wc.cell? ⟨gb263, 1, none⟩ = some (.string (⟨#[]⟩ : ByteArray)) := (blk_cell BK263.out 1).trans rfl
    have hcz25_2 : wc.cell? ⟨gb263, 2, none⟩ = some (.slice none 0 0) := (blk_cell BK263.out 2).trans rfl
    have hcz25_3 : wc.cell? ⟨gb263, 3, none⟩ = some (.slice none 0 0) := (blk_cell BK263.out 3).trans rfl
    have hfz25_0 := blk_frozen BK263.out 0
    have hfz25_1 := blk_frozen BK263.out 1
    have hfz25_2 := blk_frozen BK263.out 2
    have hfz25_3 := blk_frozen BK263.out 3
    go_wp2
    refine bodyPost_ret (results_ct rfl _ _ gb263 27 #[.int .i64 0, .string (⟨#[]⟩ : ByteArray), .slice none 0 0, .slice none 0 0] (0, 0) _ rfl (by (with_reducible repeat (first | refine blk_drewN ?_ _ | refine blk_drew ?_ | refine blk_alloc ?_ _)); refine blk_put (cs := #[.int .i64 0, .string (⟨#[]⟩ : ByteArray), .slice none 0 0, .slice none 0 0]) ?_ 3 _ rfl; (with_reducible repeat (first | refine blk_drewN ?_ _ | refine blk_drew ?_ | refine blk_alloc ?_ _)); refine blk_put (cs := #[.int .i64 0, .string (⟨#[]⟩ : ByteArray), .slice none 0 0, .slice none 0 0]) ?_ 2 _ rfl; (with_reducible repeat (first | refine blk_drewN ?_ _ | refine blk_drew ?_ | refine blk_alloc ?_ _)); refine blk_put (cs := #[.int .i64 0, .string (⟨#[]⟩ : ByteArray), .slice none 0 0, .slice none 0 0]) ?_ 1 _ rfl; (with_reducible repeat (first | refine blk_drewN ?_ _ | refine blk_drew ?_ | refine blk_alloc ?_ _)); refine blk_put (cs := #[.int .i64 0, .string (⟨#[]⟩ : ByteArray), .slice none 0 0, .slice none 0 0]) ?_ 0 _ rfl; (with_reducible repeat (first | refine blk_drewN ?_ _ | refine blk_drew ?_ | refine blk_alloc ?_ _)); exact BK263.out) Tryd.underlying27 rfl (by kernel_rfl)) rfl ?_
    exact ⟨_, _, by first | rfl | (simp [errW_none, errW_some] <;> rfl) | (simp [*, errW_none, errW_some] <;> rfl), Kd.V_nil _ _ _ _ _, Kd.V_nil _ _ _ _ _, by repeat (first | (with_reducible first | exact HB.out | apply below_alloc | apply pw_below_drewN | apply below_drew1 | refine below_set ?_ GE262.out | refine below_set ?_ GE263.out) | exact HB.out)⟩
mutual
def whetstoneref04_Get.j0 : Nat → ByteArray → Bool → Int → ByteArray → List ByteArray → List (S44) → Option (Int × ByteArray × List ByteArray × (List (S44)) × Bool)
 | 0, _, _, _, _, _, _ => none
 | k + 1, x1, x18, x267000, x267001, x267002, x267003 => if x18 = true then (some (0, (⟨#[]⟩ : ByteArray), ([] : List ByteArray), ([] : List (S44)), false)) else (whetstoneref04_Get.l0 k x1 0 x267000 x267001 x267002 x267003)
def whetstoneref04_Get.l0 : Nat → ByteArray → Int → Int → ByteArray → List ByteArray → List (S44) → Option (Int × ByteArray × List ByteArray × (List (S44)) × Bool)
 | 0, _, _, _, _, _, _ => none
 | k + 1, x1, x6, x267000, x267001, x267002, x267003 => if x6 < (x267002.length : Int) then (if 0 ≤ x6 then (if (rdOf ByteArray.empty x267002 x6).toList = x1.toList then (if x6 < (x267003.length : Int) then (some ((rd_T44 x267003 x6).f0, (rd_T44 x267003 x6).f1, (rd_T44 x267003 x6).f2, (rd_T44 x267003 x6).f3, true)) else (none)) else (whetstoneref04_Get.l0 k x1 (wrap64 (x6 + 1)) x267000 x267001 x267002 x267003)) else (none)) else (some (0, (⟨#[]⟩ : ByteArray), ([] : List ByteArray), ([] : List (S44)), false))
end
def whetstoneref04_Get.f (k : Nat) (a0_0 : Int) (a0_1 : ByteArray) (l0_2 : List ByteArray) (l0_3 : List (S44)) (a1 : ByteArray) : Option (Int × ByteArray × List ByteArray × (List (S44)) × Bool) := if a0_0 = 6 then (whetstoneref04_Get.j0 k a1 ((l0_2.length : Int) != (l0_3.length : Int)) a0_0 a0_1 l0_2 l0_3) else (whetstoneref04_Get.j0 k a1 true a0_0 a0_1 l0_2 l0_3)
set_option maxHeartbeats 8000000 in
set_option maxRecDepth 100000 in
theorem whetstoneref04_Get.calls (k : Nat) (a0_0 : Int) (a0_1 : ByteArray) (A0_2 : Option Addr) (c0_2 : Nat) (l0_2 : List ByteArray) (P0_3_ : Nat → Prop) (A0_3 : Option Addr) (c0_3 : Nat) (l0_3 : List (S44)) (a1 : ByteArray) (r1 : Int) (r2 : ByteArray) (r3 : List ByteArray) (r4 : List (S44)) (r5 : Bool) (w : World) (hr0_2 : Kd.C Kd.string w A0_2 l0_2.length l0_2) (hc0_2 : l0_2.length ≤ c0_2) (hs0_3 : Kd.V k44 44 w w.heap.size (fun k_ => P0_3_ k_) (.slice A0_3 l0_3.length c0_3) l0_3) (h : whetstoneref04_Get.f k a0_0 a0_1 l0_2 l0_3 a1 = some (r1, r2, r3, r4, r5)) :
  Calls Tryd.prog 27 #[.agg #[.int .i64 a0_0, .string a0_1, .slice A0_2 l0_2.length c0_2, .slice A0_3 l0_3.length c0_3], .string a1] w fun e w' => ∃ v2_ v3_ : Value, e = .returned (.tuple #[.agg #[.int .i64 r1, .string r2, v2_, v3_], .bool r5]) ∧ Kd.V Kd.string 9 w' w.heap.size (fun k_ => (P0_3_ k_ ∨ w.heap.size ≤ k_)) v2_ r3 ∧ Kd.V k44 44 w' w.heap.size (fun k_ => (P0_3_ k_ ∨ w.heap.size ≤ k_)) v3_ r4 ∧ Below w.heap.size w w' := by
 have hu44 := Tryd.underlying44
 have HR0_2 := Aside0.mk hr0_2
 have HC0_2 := Aside0.mk hc0_2
 clear hr0_2 hc0_2
 have HO0_3 := Aside0.mk (show Kd.V k44 44 w w.heap.size (fun k_ => (P0_3_ k_ ∨ w.heap.size ≤ k_)) (.slice A0_3 l0_3.length c0_3) l0_3 from Kd.V_mono hs0_3 (fun k_ hk => .inl hk))
 have HB := Aside0.mk (Below.refl w.heap.size w)
 have H : (if a0_0 = 6 then (whetstoneref04_Get.j0 k a1 ((l0_2.length : Int) != (l0_3.length : Int)) a0_0 a0_1 l0_2 l0_3) else (whetstoneref04_Get.j0 k a1 true a0_0 a0_1 l0_2 l0_3)) = some (r1, r2, r3, r4, r5) := h
 clear h
 have HC3 := Aside0.mk H
 clear H
 go_enter Tryd.func27, Tryd.ntmps27
 go_upto_region 1 with (first | ((with_reducible refine gate_dst (N := 2) rfl ?_); (try (refine gate_guard (by rfl) ?_; dsimp only)); refine box_event ?hg (N := 2) ?hd (cs := #[.int .i64 a0_0, .string a0_1, .slice A0_2 l0_2.length c0_2, .slice A0_3 l0_3.length c0_3]) (t := 44) ?hr ?_; (case hd => rfl); (case hg => rfl); (case hr => first | (go_simp; done) | (go_simp; rfl)); intro gb266 hg w4 hbox hb; have n0_ := Aside0.mk (Kd.V_below (Kd.V_elderB (by (with_reducible repeat (first | apply Kd.V_alloc | apply Kd.V_drewN | apply Kd.V_drew)); exact HO0_3.out) gb266 (Nat.le_of_eq hg.symm)) hb); have n1_ := Aside0.mk (below_step (by repeat (first | (with_reducible first | exact HB.out | apply below_alloc | apply pw_below_drewN | apply below_drew1) | exact HB.out)) hb); have n2_ := Aside0.mk (hbox); have n3_ := Aside0.mk ((by rw [hg]; exact (below_size (by repeat (first | (with_reducible first | exact HB.out | apply below_alloc | apply pw_below_drewN | apply below_drew1) | exact HB.out))) : w.heap.size ≤ gb266)); have n4_ := Aside0.mk ((by rw [hg]; exact (below_size (by repeat (first | (with_reducible first | exact HB.out | apply below_alloc | apply pw_below_drewN | apply below_drew1) | exact HB.out))) : w.heap.size ≤ gb266)); clear HO0_3; clear HB; have HO0_3 := n0_; have HB := n1_; have BK266 := n2_; have GW266 := n3_; have GE266 := n4_; clear n0_ n1_ n2_ n3_ n4_; clear hb hbox hg) | ((with_reducible refine gate_dst (N := 4) rfl ?_); (try (refine gate_guard (by rfl) ?_; dsimp only)); refine box_event ?hg (N := 4) ?hd (cs := #[.int .i64 0, .string (⟨#[]⟩ : ByteArray), .slice none 0 0, .slice none 0 0]) (t := 44) ?hr ?_; (case hd => rfl); (case hg => rfl); (case hr => first | (go_simp; done) | (go_simp; rfl)); intro gb267 hg w5 hbox hb; have n0_ := Aside0.mk (Kd.V_below (Kd.V_elderB (by (with_reducible repeat (first | apply Kd.V_alloc | apply Kd.V_drewN | apply Kd.V_drew)); exact HO0_3.out) gb267 (Nat.le_of_eq hg.symm)) hb); have n1_ := Aside0.mk (blk_below (g := gb266) (o := .cells #[.int .i64 a0_0, .string a0_1, .slice A0_2 l0_2.length c0_2, .slice A0_3 l0_3.length c0_3] 44 (0, 0)) (by (with_reducible repeat (first | refine blk_drewN ?_ _ | refine blk_drew ?_ | refine blk_alloc ?_ _)); exact BK266.out) hb); have n2_ := Aside0.mk (below_step (by repeat (first | (with_reducible first | exact HB.out | apply below_alloc | apply pw_below_drewN | apply below_drew1 | refine below_set ?_ GE266.out) | exact HB.out)) hb); have n3_ := Aside0.mk (hbox); have n4_ := Aside0.mk ((by rw [hg]; exact (below_size (by repeat (first | (with_reducible first | exact HB.out | apply below_alloc | apply pw_below_drewN | apply below_drew1 | refine below_set ?_ GE266.out) | exact HB.out))) : w.heap.size ≤ gb267)); have n5_ := Aside0.mk ((by rw [hg]; exact (below_size (by repeat (first | (with_reducible first | exact HB.out | apply below_alloc | apply pw_below_drewN | apply below_drew1 | refine below_set ?_ GE266.out) | exact HB.out))) : w.heap.size ≤ gb267)); have n6_ := Aside0.mk ((by rw [hg]; exact Nat.ne_of_lt (blk_lt (g := gb266) (o := .cells #[.int .i64 a0_0, .string a0_1, .slice A0_2 l0_2.length c0_2, .slice A0_3 l0_3.length c0_3] 44 (0, 0)) (by (with_reducible repeat (first | refine blk_drewN ?_ _ | refine blk_drew ?_ | refine blk_alloc ?_ _)); exact BK266.out)) : gb266 ≠ gb267)); have n7_ := Aside0.mk ((by rw [hg]; exact Nat.ne_of_gt (blk_lt (g := gb266) (o := .cells #[.int .i64 a0_0, .string a0_1, .slice A0_2 l0_2.length c0_2, .slice A0_3 l0_3.length c0_3] 44 (0, 0)) (by (with_reducible repeat (first | refine blk_drewN ?_ _ | refine blk_drew ?_ | refine blk_alloc ?_ _)); exact BK266.out)) : gb267 ≠ gb266)); clear HO0_3; clear BK266; clear HB; have HO0_3 := n0_; have BK266 := n1_; have HB := n2_; have BK267 := n3_; have GW267 := n4_; have GE267 := n5_; have NB266_267 := n6_; have NB267_266 := n7_; clear n0_ n1_ n2_ n3_ n4_ n5_ n6_ n7_; clear hb hbox hg))
 (try simp only [Act.put, List.setIfInBounds_toArray, List.set_cons_zero, List.set_cons_succ])
 go_cut [18] (fun v18 wc => ∃ (kq : Nat) (x18_2 : Bool), v18 = .bool x18_2 ∧ Aside0 (whetstoneref04_Get.j0 kq a1 x18_2 a0_0 a0_1 l0_2 l0_3 = some (r1, r2, r3, r4, r5)) ∧ Aside0 (kq ≤ k) ∧ Aside0 (Kd.V k44 44 wc w.heap.size (fun k_ => (P0_3_ k_ ∨ w.heap.size ≤ k_) ∧ k_ ≠ gb266 ∧ k_ ≠ gb267) (.slice A0_3 l0_3.length c0_3) l0_3) ∧ Aside0 (wc.heap[gb266]? = some (.cells #[.int .i64 a0_0, .string a0_1, (.slice A0_2 l0_2.length c0_2), (.slice A0_3 l0_3.length c0_3)] 44 (0, 0))) ∧ Aside0 (wc.heap[gb267]? = some (.cells #[.int .i64 0, .string (⟨#[]⟩ : ByteArray), (.slice none 0 0), (.slice none 0 0)] 44 (0, 0))) ∧ Aside0 (Below w.heap.size w wc))
 case first =>
  have H := HC3.out
  clear HC3
  by_cases c6 : a0_0 = 6
  ·rw [if_pos c6] at H
   have c6b0 : (a0_0 == 6) = true := beq_iff_eq.mpr c6
   have c6b1 : (a0_0 != 6) = false := bne_eq_false_iff_eq.mpr c6
   clear c6
   (first | rw [c6b0] | (simp only [i64_w, i32_w]; rw [c6b0]) | skip)
   have H' := Aside0.mk H
   clear H
   have hnb7 := NB266_267.out
   have hnc7 := NB267_266.out
   have hcz8_0 : w5.cell? ⟨gb266, 0, none⟩ = some (.int .i64 a0_0) := (blk_cell BK266.out 0).trans rfl
   have hcz8_1 : w5.cell? ⟨gb266, 1, none⟩ = some (.string a0_1) := (blk_cell BK266.out 1).trans rfl
   have hcz8_2 : w5.cell? ⟨gb266, 2, none⟩ = some (.slice A0_2 l0_2.length c0_2) := (blk_cell BK266.out 2).trans rfl
   have hcz8_3 : w5.cell? ⟨gb266, 3, none⟩ = some (.slice A0_3 l0_3.length c0_3) := (blk_cell BK266.out 3).trans rfl
   have hfz8_0 := blk_frozen BK266.out 0
   have hfz8_1 := blk_frozen BK266.out 1
   have hfz8_2 := blk_frozen BK266.out 2
   have hfz8_3 := blk_frozen BK266.out 3
   go_wp2
   go_meet
   case rel => exact ⟨_, (((l0_2.length : Int) != (l0_3.length : Int))), (by first | rfl | (simp; done) | (simp [*]; done)), H', ⟨by first | omega | exact Nat.le_refl _⟩, ⟨by (with_reducible repeat (first | apply Kd.V_alloc | apply Kd.V_drewN | apply Kd.V_drew)); exact Kd.V_mono HO0_3.out (fun _ hk => ⟨hk.1.1, ⟨hk.1.2, hk.2⟩⟩)⟩, ⟨by (with_reducible repeat (first | refine blk_drewN ?_ _ | refine blk_drew ?_ | refine blk_alloc ?_ _)); exact BK266.out⟩, ⟨by (with_reducible repeat (first | refine blk_drewN ?_ _ | refine blk_drew ?_ | refine blk_alloc ?_ _)); exact BK267.out⟩, ⟨by repeat (first | (with_reducible first | exact HB.out | apply below_alloc | apply pw_below_drewN | apply below_drew1 | refine below_set ?_ GE266.out | refine below_set ?_ GE267.out) | exact HB.out)⟩⟩
  ·rw [if_neg c6] at H
   have c6b0 : (a0_0 == 6) = false := beq_eq_false_iff_ne.mpr c6
   have c6b1 : (a0_0 != 6) = true := bne_iff_ne.mpr c6
   (first | rw [c6b0] | (simp only [i64_w, i32_w]; rw [c6b0]) | skip)
   have H' := Aside0.mk H
   clear H
   have hnb9 := NB266_267.out
   have hnc9 := NB267_266.out
   have hcz10_0 : w5.cell? ⟨gb266, 0, none⟩ = some (.int .i64 a0_0) := (blk_cell BK266.out 0).trans rfl
   have hcz10_1 : w5.cell? ⟨gb266, 1, none⟩ = some (.string a0_1) := (blk_cell BK266.out 1).trans rfl
   have hcz10_2 : w5.cell? ⟨gb266, 2, none⟩ = some (.slice A0_2 l0_2.length c0_2) := (blk_cell BK266.out 2).trans rfl
   have hcz10_3 : w5.cell? ⟨gb266, 3, none⟩ = some (.slice A0_3 l0_3.length c0_3) := (blk_cell BK266.out 3).trans rfl
   have hfz10_0 := blk_frozen BK266.out 0
   have hfz10_1 := blk_frozen BK266.out 1
   have hfz10_2 := blk_frozen BK266.out 2
   have hfz10_3 := blk_frozen BK266.out 3
   go_wp2
   go_meet
   case rel => exact ⟨_, (true), (by first | rfl | (simp; done) | (simp [*]; done)), H', ⟨by first | omega | exact Nat.le_refl _⟩, ⟨by (with_reducible repeat (first | apply Kd.V_alloc | apply Kd.V_drewN | apply Kd.V_drew)); exact Kd.V_mono HO0_3.out (fun _ hk => ⟨hk.1.1, ⟨hk.1.2, hk.2⟩⟩)⟩, ⟨by (with_reducible repeat (first | refine blk_drewN ?_ _ | refine blk_drew ?_ | refine blk_alloc ?_ _)); exact BK266.out⟩, ⟨by (with_reducible repeat (first | refine blk_drewN ?_ _ | refine blk_drew ?_ | refine blk_alloc ?_ _)); exact BK267.out⟩, ⟨by repeat (first | (with_reducible first | exact HB.out | apply below_alloc | apply pw_below_drewN | apply below_drew1 | refine below_set ?_ GE266.out | refine below_set ?_ GE267.out) | exact HB.out)⟩⟩
 case rest =>
  clear HC3
  try clear c2; try clear p2; try clear c6; try clear c6b0; try clear c6b1; try clear c7; try clear c9; try clear hcz10_0; try clear hcz10_1; try clear hcz10_2; try clear hcz10_3; try clear hcz8_0; try clear hcz8_1; try clear hcz8_2; try clear hcz8_3; try clear hfz10_0; try clear hfz10_1; try clear hfz10_2; try clear hfz10_3; try clear hfz8_0; try clear hfz8_1; try clear hfz8_2; try clear hfz8_3
  obtain ⟨kq, x18_2, rfl, HA, HJ2, HO_267003, BK266, BK267, HB⟩ := hcut
  cases kq with
  | zero => exact absurd HA.out (by simp [whetstoneref04_Get.j0])
  | succ kj2 =>
   have H := HA.out
   clear HA
   simp only [whetstoneref04_Get.j0] at H
   by_cases c11 : x18_2 = true
   ·subst c11
    have H1 : (some (0, (⟨#[]⟩ : ByteArray), ([] : List ByteArray), ([] : List (S44)), false)) = some (r1, r2, r3, r4, r5) := by rw [if_pos rfl] at H; exact H
    clear H
    have H := H1
    clear H1
    simp only [Option.some.injEq, Prod.mk.injEq] at H
    obtain ⟨rfl, rfl, rfl, rfl, rfl⟩ := H
    have hnb12 := NB267_266.out
    have hnc12 := NB266_267.out
    have hcz13_0 : wc.cell? ⟨gb267, 0, none⟩ = some (.int .i64 0) := (blk_cell BK267.out 0).trans rfl
    have hcz13_1 : wc.cell? ⟨gb267, 1, none⟩ = some (.string (⟨#[]⟩ : ByteArray)) := (blk_cell BK267.out 1).trans rfl
    have hcz13_2 : wc.cell? ⟨gb267, 2, none⟩ = some (.slice none 0 0) := (blk_cell BK267.out 2).trans rfl
    have hcz13_3 : wc.cell? ⟨gb267, 3, none⟩ = some (.slice none 0 0) := (blk_cell BK267.out 3).trans rfl
    have hfz13_0 := blk_frozen BK267.out 0
    have hfz13_1 := blk_frozen BK267.out 1
    have hfz13_2 := blk_frozen BK267.out 2
    have hfz13_3 := blk_frozen BK267.out 3
    go_wp2
    refine bodyPost_ret (results_ct rfl _ _ gb267 44 #[.int .i64 0, .string (⟨#[]⟩ : ByteArray), .slice none 0 0, .slice none 0 0] (0, 0) _ rfl (by (with_reducible repeat (first | refine blk_drewN ?_ _ | refine blk_drew ?_ | refine blk_alloc ?_ _)); refine blk_put (cs := #[.int .i64 0, .string (⟨#[]⟩ : ByteArray), .slice none 0 0, .slice none 0 0]) ?_ 3 _ rfl; (with_reducible repeat (first | refine blk_drewN ?_ _ | refine blk_drew ?_ | refine blk_alloc ?_ _)); refine blk_put (cs := #[.int .i64 0, .string (⟨#[]⟩ : ByteArray), .slice none 0 0, .slice none 0 0]) ?_ 2 _ rfl; (with_reducible repeat (first | refine blk_drewN ?_ _ | refine blk_drew ?_ | refine blk_alloc ?_ _)); refine blk_put (cs := #[.int .i64 0, .string (⟨#[]⟩ : ByteArray), .slice none 0 0, .slice none 0 0]) ?_ 1 _ rfl; (with_reducible repeat (first | refine blk_drewN ?_ _ | refine blk_drew ?_ | refine blk_alloc ?_ _)); refine blk_put (cs := #[.int .i64 0, .string (⟨#[]⟩ : ByteArray), .slice none 0 0, .slice none 0 0]) ?_ 0 _ rfl; (with_reducible repeat (first | refine blk_drewN ?_ _ | refine blk_drew ?_ | refine blk_alloc ?_ _)); exact BK267.out) Tryd.underlying44 rfl (by kernel_rfl)) rfl ?_
    exact ⟨_, _, by first | rfl | (simp [errW_none, errW_some] <;> rfl) | (simp [*, errW_none, errW_some] <;> rfl), Kd.V_nil _ _ _ _ _, Kd.V_nil _ _ _ _ _, by repeat (first | (with_reducible first | exact HB.out | apply below_alloc | apply pw_below_drewN | apply below_drew1 | refine below_set ?_ GE266.out | refine below_set ?_ GE267.out) | exact HB.out)⟩
   ·replace c11 := Bool.eq_false_iff.mpr c11
    subst c11
    have H1 : (whetstoneref04_Get.l0 kj2 a1 0 a0_0 a0_1 l0_2 l0_3) = some (r1, r2, r3, r4, r5) := by rw [if_neg (show ¬ (false = true) by decide)] at H; exact H
    clear H
    have H := H1
    clear H1
    have H' := Aside0.mk H
    clear H
    go_wp2
    go_loopg [6] kj2 (fun kq v6 w' => ∃ (x6_2 : Int) (x268000_2 : Int) (x268001_2 : ByteArray), v6 = .int .i64 x6_2 ∧ Aside0 (whetstoneref04_Get.l0 kq a1 x6_2 a0_0 a0_1 l0_2 l0_3 = some (r1, r2, r3, r4, r5)) ∧ Aside0 (kq ≤ kj2) ∧ Aside0 (Kd.V k44 44 w' w.heap.size (fun k_ => (P0_3_ k_ ∨ w.heap.size ≤ k_) ∧ k_ ≠ gb266 ∧ k_ ≠ gb267) (.slice A0_3 l0_3.length c0_3) l0_3) ∧ Aside0 (w'.heap[gb266]? = some (.cells #[.int .i64 a0_0, .string a0_1, (.slice A0_2 l0_2.length c0_2), (.slice A0_3 l0_3.length c0_3)] 44 (0, 0))) ∧ Aside0 (w'.heap[gb267]? = some (.cells #[.int .i64 x268000_2, .string x268001_2, (.slice none 0 0), (.slice none 0 0)] 44 (0, 0))) ∧ Aside0 (Below w.heap.size w w'))
    case atStart => exact ⟨(0), (0), ((⟨#[]⟩ : ByteArray)), (by first | rfl | (simp; done) | (simp [*]; done)), H', ⟨Nat.le_refl _⟩, ⟨by (with_reducible repeat (first | apply Kd.V_alloc | apply Kd.V_drewN | apply Kd.V_drew)); exact HO_267003.out⟩, ⟨by (with_reducible repeat (first | refine blk_drewN ?_ _ | refine blk_drew ?_ | refine blk_alloc ?_ _)); exact BK266.out⟩, ⟨by (with_reducible repeat (first | refine blk_drewN ?_ _ | refine blk_drew ?_ | refine blk_alloc ?_ _)); exact BK267.out⟩, ⟨by repeat (first | (with_reducible first | exact HB.out | apply below_alloc | apply pw_below_drewN | apply below_drew1 | refine below_set ?_ GE266.out | refine below_set ?_ GE267.out) | exact HB.out)⟩⟩
    case round =>
     clear H'
     try clear c1; try clear c2; try clear p2; try clear c6; try clear c6b0; try clear c6b1; try clear c7; try clear c9; try clear c11; try clear c12; try clear hcz10_0; try clear hcz10_1; try clear hcz10_2; try clear hcz10_3; try clear hcz13_0; try clear hcz13_1; try clear hcz13_2; try clear hcz13_3; try clear hcz8_0; try clear hcz8_1; try clear hcz8_2; try clear hcz8_3; try clear hfz10_0; try clear hfz10_1; try clear hfz10_2; try clear hfz10_3; try clear hfz13_0; try clear hfz13_1; try clear hfz13_2; try clear hfz13_3; try clear hfz8_0; try clear hfz8_1; try clear hfz8_2; try clear hfz8_3; try clear p2
     obtain ⟨x6_2, x268000_2, x268001_2, rfl, HA, HK2, HO_267003, BK266, BK267, HB⟩ := hrel
     cases gk with
     | zero => exact absurd HA.out (by simp [whetstoneref04_Get.l0])
     | succ k2 =>
      have H := HA.out
      clear HA
      simp only [whetstoneref04_Get.l0] at H
      by_cases c14 : x6_2 < (l0_2.length : Int)
      ·rw [if_pos c14] at H
       have c14b0 : decide (x6_2 < (l0_2.length : Int)) = true := decide_eq_true c14
       clear c14
       by_cases c15 : 0 ≤ x6_2
       ·rw [if_pos c15] at H
        have c15b0 : decide (0 ≤ x6_2) = true := decide_eq_true c15
        clear c15
        by_cases c16 : (rdOf ByteArray.empty l0_2 x6_2).toList = a1.toList
        ·rw [if_pos c16] at H
         have c16b0 : ((rdOf ByteArray.empty l0_2 x6_2).toList == a1.toList) = true := beq_iff_eq.mpr c16
         have c16b1 : ((rdOf ByteArray.empty l0_2 x6_2).toList != a1.toList) = false := bne_eq_false_iff_eq.mpr c16
         clear c16
         by_cases c17 : x6_2 < (l0_3.length : Int)
         ·rw [if_pos c17] at H
          have c17b0 : decide (x6_2 < (l0_3.length : Int)) = true := decide_eq_true c17
          clear c17
          simp only [Option.some.injEq, Prod.mk.injEq] at H
          obtain ⟨rfl, rfl, rfl, rfl, rfl⟩ := H
          have hnb18 := NB266_267.out
          have hnc18 := NB267_266.out
          have hcz19_0 : wr.cell? ⟨gb266, 0, none⟩ = some (.int .i64 a0_0) := (blk_cell BK266.out 0).trans rfl
          have hcz19_1 : wr.cell? ⟨gb266, 1, none⟩ = some (.string a0_1) := (blk_cell BK266.out 1).trans rfl
          have hcz19_2 : wr.cell? ⟨gb266, 2, none⟩ = some (.slice A0_2 l0_2.length c0_2) := (blk_cell BK266.out 2).trans rfl
          have hcz19_3 : wr.cell? ⟨gb266, 3, none⟩ = some (.slice A0_3 l0_3.length c0_3) := (blk_cell BK266.out 3).trans rfl
          have hfz19_0 := blk_frozen BK266.out 0
          have hfz19_1 := blk_frozen BK266.out 1
          have hfz19_2 := blk_frozen BK266.out 2
          have hfz19_3 := blk_frozen BK266.out 3
          have p268 : 0 ≤ (x6_2 : Int) := of_decide_eq_true (by first | (with_reducible assumption) | assumption)
          have q268 : x6_2 < (l0_2.length : Int) := of_decide_eq_true (by first | (with_reducible assumption) | assumption)
          obtain ⟨ad268, e268, hx268_0⟩ := Kd.at_string HR0_2.out x6_2 p268 q268
          cases e268
          replace hx268_0 := (HB.out.cell (World.block_lt_of_cell? w _ hx268_0)).trans hx268_0
          replace p268 := eq_true p268
          replace q268 := eq_true q268
          have p269 : 0 ≤ (x6_2 : Int) := of_decide_eq_true (by first | (with_reducible assumption) | assumption)
          have q269 : x6_2 < (l0_3.length : Int) := of_decide_eq_true (by first | (with_reducible assumption) | assumption)
          obtain ⟨ad269, A269_2, c269_2, A269_3, c269_3, e269, hx269_0, hx269_1, hx269_2, hx269_3, hl269_2, hi269_2, hl269_3, hi269_3⟩ := at_T44 (Kd.V_reads' HO_267003.out).2.2 x6_2 p269 q269
          cases e269
          obtain ⟨ce269, hce269, hMe269, hcc269⟩ := Kd.V_get HO_267003.out z44 x6_2 p269 (by first | exact q269 | exact of_decide_eq_true (by first | (with_reducible assumption) | assumption) | (have e_ := (Kd.V_reads' HO_267003.out).1; omega))
          obtain ⟨ua269_2, uc269_2, ua269_3, uc269_3, rfl, ul269_2, ge269_2, ul269_3, ge269_3⟩ := k44_openF hMe269
          have hv269_2 := hcc269 2 _ rfl
          rw [add_field _ _ 2 (by omega)] at hv269_2
          replace hv269_2 := Option.some.inj (hv269_2.symm.trans hx269_2)
          injection hv269_2 with hva_ hvn_ hvc_
          rw [hva_] at ge269_2
          rw [hvc_] at ul269_2
          have HL269_2 := Aside0.mk (show Kd.V Kd.string 9 _ w.heap.size _ _ ((rd_T44 l0_3 x6_2).f2) from Kd.V_mk ul269_2 ge269_2)
          clear hva_ hvn_ hvc_ ge269_2 ul269_2
          have hv269_3 := hcc269 3 _ rfl
          rw [add_field _ _ 3 (by omega)] at hv269_3
          replace hv269_3 := Option.some.inj (hv269_3.symm.trans hx269_3)
          injection hv269_3 with hva_ hvn_ hvc_
          rw [hva_] at ge269_3
          rw [hvc_] at ul269_3
          have HL269_3 := Aside0.mk (show Kd.V k44 44 _ w.heap.size _ _ ((rd_T44 l0_3 x6_2).f3) from Kd.V_mk ul269_3 ge269_3)
          clear hva_ hvn_ hvc_ ge269_3 ul269_3
          clear hcc269 hce269
          have HR269_2 := Aside0.mk hi269_2
          have HC269_2 := Aside0.mk hl269_2
          clear hi269_2 hl269_2
          have HR269_3 := Aside0.mk hi269_3
          have HC269_3 := Aside0.mk hl269_3
          clear hi269_3 hl269_3
          replace p269 := eq_true p269
          replace q269 := eq_true q269
          have hcz20_0 : wr.cell? ⟨gb267, 0, none⟩ = some (.int .i64 x268000_2) := (blk_cell BK267.out 0).trans rfl
          have hcz20_1 : wr.cell? ⟨gb267, 1, none⟩ = some (.string x268001_2) := (blk_cell BK267.out 1).trans rfl
          have hcz20_2 : wr.cell? ⟨gb267, 2, none⟩ = some (.slice none 0 0) := (blk_cell BK267.out 2).trans rfl
          have hcz20_3 : wr.cell? ⟨gb267, 3, none⟩ = some (.slice none 0 0) := (blk_cell BK267.out 3).trans rfl
          have hfz20_0 := blk_frozen BK267.out 0
          have hfz20_1 := blk_frozen BK267.out 1
          have hfz20_2 := blk_frozen BK267.out 2
          have hfz20_3 := blk_frozen BK267.out 3
          go_wp2
          refine bodyPost_ret (results_ct rfl _ _ gb267 44 #[.int .i64 ((rd_T44 l0_3 x6_2).f0), .string ((rd_T44 l0_3 x6_2).f1), .slice A269_2 ((rd_T44 l0_3 x6_2).f2).length c269_2, .slice A269_3 ((rd_T44 l0_3 x6_2).f3).length c269_3] (0, 0) _ rfl (by (with_reducible repeat (first | refine blk_drewN ?_ _ | refine blk_drew ?_ | refine blk_alloc ?_ _)); refine blk_put (cs := #[.int .i64 ((rd_T44 l0_3 x6_2).f0), .string ((rd_T44 l0_3 x6_2).f1), .slice A269_2 ((rd_T44 l0_3 x6_2).f2).length c269_2, .slice none 0 0]) ?_ 3 _ rfl; (with_reducible repeat (first | refine blk_drewN ?_ _ | refine blk_drew ?_ | refine blk_alloc ?_ _)); refine blk_put (cs := #[.int .i64 ((rd_T44 l0_3 x6_2).f0), .string ((rd_T44 l0_3 x6_2).f1), .slice none 0 0, .slice none 0 0]) ?_ 2 _ rfl; (with_reducible repeat (first | refine blk_drewN ?_ _ | refine blk_drew ?_ | refine blk_alloc ?_ _)); refine blk_put (cs := #[.int .i64 ((rd_T44 l0_3 x6_2).f0), .string x268001_2, .slice none 0 0, .slice none 0 0]) ?_ 1 _ rfl; (with_reducible repeat (first | refine blk_drewN ?_ _ | refine blk_drew ?_ | refine blk_alloc ?_ _)); refine blk_put (cs := #[.int .i64 x268000_2, .string x268001_2, .slice none 0 0, .slice none 0 0]) ?_ 0 _ rfl; (with_reducible repeat (first | refine blk_drewN ?_ _ | refine blk_drew ?_ | refine blk_alloc ?_ _)); exact BK267.out) Tryd.underlying44 rfl (by kernel_rfl)) rfl ?_
          exact ⟨_, _, by first | rfl | (simp [errW_none, errW_some] <;> rfl) | (simp [*, errW_none, errW_some] <;> rfl), by (with_reducible repeat (first | apply Kd.V_alloc | apply Kd.V_drewN | apply Kd.V_drew)); exact Kd.V_mono (Kd.V_far (p := ⟨gb267, 3, none⟩) (Kd.V_far (p := ⟨gb267, 2, none⟩) (Kd.V_far (p := ⟨gb267, 1, none⟩) (Kd.V_far (p := ⟨gb267, 0, none⟩) (Kd.V_mono HL269_2.out (fun k_ hk => (⟨hk, hk.2.2⟩ : _ ∧ k_ ≠ gb267))) (fun _ hk => hk.2) (.int .i64 ((rd_T44 l0_3 x6_2).f0))) (fun _ hk => hk.2) (.string ((rd_T44 l0_3 x6_2).f1))) (fun _ hk => hk.2) (.slice A269_2 ((rd_T44 l0_3 x6_2).f2).length c269_2)) (fun _ hk => hk.2) (.slice A269_3 ((rd_T44 l0_3 x6_2).f3).length c269_3)) (fun _ hk => hk.1.1), by (with_reducible repeat (first | apply Kd.V_alloc | apply Kd.V_drewN | apply Kd.V_drew)); exact Kd.V_mono (Kd.V_far (p := ⟨gb267, 3, none⟩) (Kd.V_far (p := ⟨gb267, 2, none⟩) (Kd.V_far (p := ⟨gb267, 1, none⟩) (Kd.V_far (p := ⟨gb267, 0, none⟩) (Kd.V_mono HL269_3.out (fun k_ hk => (⟨hk, hk.2.2⟩ : _ ∧ k_ ≠ gb267))) (fun _ hk => hk.2) (.int .i64 ((rd_T44 l0_3 x6_2).f0))) (fun _ hk => hk.2) (.string ((rd_T44 l0_3 x6_2).f1))) (fun _ hk => hk.2) (.slice A269_2 ((rd_T44 l0_3 x6_2).f2).length c269_2)) (fun _ hk => hk.2) (.slice A269_3 ((rd_T44 l0_3 x6_2).f3).length c269_3)) (fun _ hk => hk.1.1), by repeat (first | (with_reducible first | exact HB.out | apply below_alloc | apply pw_below_drewN | apply below_drew1 | refine below_set ?_ GE266.out | refine below_set ?_ GE267.out) | exact HB.out)⟩
         ·rw [if_neg c17] at H
          exact absurd H (by simp)
        ·rw [if_neg c16] at H
         have c16b0 : ((rdOf ByteArray.empty l0_2 x6_2).toList == a1.toList) = false := beq_eq_false_iff_ne.mpr c16
         have c16b1 : ((rdOf ByteArray.empty l0_2 x6_2).toList != a1.toList) = true := bne_iff_ne.mpr c16
         have H' := Aside0.mk H
         clear H
         have hnb21 := NB266_267.out
         have hnc21 := NB267_266.out
         have hcz22_0 : wr.cell? ⟨gb266, 0, none⟩ = some (.int .i64 a0_0) := (blk_cell BK266.out 0).trans rfl
         have hcz22_1 : wr.cell? ⟨gb266, 1, none⟩ = some (.string a0_1) := (blk_cell BK266.out 1).trans rfl
         have hcz22_2 : wr.cell? ⟨gb266, 2, none⟩ = some (.slice A0_2 l0_2.length c0_2) := (blk_cell BK266.out 2).trans rfl
         have hcz22_3 : wr.cell? ⟨gb266, 3, none⟩ = some (.slice A0_3 l0_3.length c0_3) := (blk_cell BK266.out 3).trans rfl
         have hfz22_0 := blk_frozen BK266.out 0
         have hfz22_1 := blk_frozen BK266.out 1
         have hfz22_2 := blk_frozen BK266.out 2
         have hfz22_3 := blk_frozen BK266.out 3
         have p268 : 0 ≤ (x6_2 : Int) := of_decide_eq_true (by first | (with_reducible assumption) | assumption)
         have q268 : x6_2 < (l0_2.length : Int) := of_decide_eq_true (by first | (with_reducible assumption) | assumption)
         obtain ⟨ad268, e268, hx268_0⟩ := Kd.at_string HR0_2.out x6_2 p268 q268
         cases e268
         replace hx268_0 := (HB.out.cell (World.block_lt_of_cell? w _ hx268_0)).trans hx268_0
         replace p268 := eq_true p268
         replace q268 := eq_true q268
         go_wp2
         go_roundg k2
         case measure => have := HJ2.out; have := HK2.out; omega
         case rel => exact ⟨(wrap64 (x6_2 + 1)), (x268000_2), (x268001_2), (by first | rfl | (simp; done) | (simp [*]; done)), H', ⟨by have := HJ2.out; have := HK2.out; omega⟩, ⟨by (with_reducible repeat (first | apply Kd.V_alloc | apply Kd.V_drewN | apply Kd.V_drew)); exact HO_267003.out⟩, ⟨by (with_reducible repeat (first | refine blk_drewN ?_ _ | refine blk_drew ?_ | refine blk_alloc ?_ _)); exact BK266.out⟩, ⟨by (with_reducible repeat (first | refine blk_drewN ?_ _ | refine blk_drew ?_ | refine blk_alloc ?_ _)); exact BK267.out⟩, ⟨by repeat (first | (with_reducible first | exact HB.out | apply below_alloc | apply pw_below_drewN | apply below_drew1 | refine below_set ?_ GE266.out | refine below_set ?_ GE267.out) | exact HB.out)⟩⟩
       ·rw [if_neg c15] at H
        exact absurd H (by simp)
      ·rw [if_neg c14] at H
       have c14b0 : decide (x6_2 < (l0_2.length : Int)) = false := decide_eq_false c14
       clear c14
       simp only [Option.some.injEq, Prod.mk.injEq] at H
       obtain ⟨rfl, rfl, rfl, rfl, rfl⟩ := H
       have hnb23 := NB266_267.out
       have hnc23 := NB267_266.out
       have hcz24_0 : wr.cell? ⟨gb266, 0, none⟩ = some (.int .i64 a0_0) := (blk_cell BK266.out 0).trans rfl
       have hcz24_1 : wr.cell? ⟨gb266, 1, none⟩ = some (.string a0_1) := (blk_cell BK266.out 1).trans rfl
       have hcz24_2 : wr.cell? ⟨gb266, 2, none⟩ = some (.slice A0_2 l0_2.length c0_2) := (blk_cell BK266.out 2).trans rfl
       have hcz24_3 : wr.cell? ⟨gb266, 3, none⟩ = some (.slice A0_3 l0_3.length c0_3) := (blk_cell BK266.out 3).trans rfl
       have hfz24_0 := blk_frozen BK266.out 0
       have hfz24_1 := blk_frozen BK266.out 1
       have hfz24_2 := blk_frozen BK266.out 2
       have hfz24_3 := blk_frozen BK266.out 3
       have hcz25_0 : wr.cell? ⟨gb267, 0, none⟩ = some (.int .i64 x268000_2) := (blk_cell BK267.out 0).trans rfl
       have hcz25_1 : wr.cell? ⟨gb267, 1, none⟩ = some (.string x268001_2) := (blk_cell BK267.out 1).trans rfl
       have hcz25_2 : wr.cell? ⟨gb267, 2, none⟩ = some (.slice none 0 0) := (blk_cell BK267.out 2).trans rfl
       have hcz25_3 : wr.cell? ⟨gb267, 3, none⟩ = some (.slice none 0 0) := (blk_cell BK267.out 3).trans rfl
       have hfz25_0 := blk_frozen BK267.out 0
       have hfz25_1 := blk_frozen BK267.out 1
       have hfz25_2 := blk_frozen BK267.out 2
       have hfz25_3 := blk_frozen BK267.out 3
       go_wp2
       refine bodyPost_ret (results_ct rfl _ _ gb267 44 #[.int .i64 0, .string (⟨#[]⟩ : ByteArray), .slice none 0 0, .slice none 0 0] (0, 0) _ rfl (by (with_reducible repeat (first | refine blk_drewN ?_ _ | refine blk_drew ?_ | refine blk_alloc ?_ _)); refine blk_put (cs := #[.int .i64 0, .string (⟨#[]⟩ : ByteArray), .slice none 0 0, .slice none 0 0]) ?_ 3 _ rfl; (with_reducible repeat (first | refine blk_drewN ?_ _ | refine blk_drew ?_ | refine blk_alloc ?_ _)); refine blk_put (cs := #[.int .i64 0, .string (⟨#[]⟩ : ByteArray), .slice none 0 0, .slice none 0 0]) ?_ 2 _ rfl; (with_reducible repeat (first | refine blk_drewN ?_ _ | refine blk_drew ?_ | refine blk_alloc ?_ _)); refine blk_put (cs := #[.int .i64 0, .string x268001_2, .slice none 0 0, .slice none 0 0]) ?_ 1 _ rfl; (with_reducible repeat (first | refine blk_drewN ?_ _ | refine blk_drew ?_ | refine blk_alloc ?_ _)); refine blk_put (cs := #[.int .i64 x268000_2, .string x268001_2, .slice none 0 0, .slice none 0 0]) ?_ 0 _ rfl; (with_reducible repeat (first | refine blk_drewN ?_ _ | refine blk_drew ?_ | refine blk_alloc ?_ _)); exact BK267.out) Tryd.underlying44 rfl (by kernel_rfl)) rfl ?_
       exact ⟨_, _, by first | rfl | (simp [errW_none, errW_some] <;> rfl) | (simp [*, errW_none, errW_some] <;> rfl), Kd.V_nil _ _ _ _ _, Kd.V_nil _ _ _ _ _, by repeat (first | (with_reducible first | exact HB.out | apply below_alloc | apply pw_below_drewN | apply below_drew1 | refine below_set ?_ GE266.out | refine below_set ?_ GE267.out) | exact HB.out)⟩
end Go.Proofs.YteighppcdpaekaaDoor.P
end
section
namespace Go.Proofs.YteighppcdpaekaaDoor.Eq4
open Go.RowKit Go.Proofs.YteighppcdpaekaaDoorW.PrintWords Go.Proofs.YteighppcdpaekaaDoor.P
def findK (key : ByteArray) : List ByteArray → List S27 → Option S27
 | k :: ks, x :: xs => if k.toList = key.toList then some x else findK key ks xs
 | _, _ => none
def getP (v : S27) (key : ByteArray) : Option S27 := if v.f0 = 6 ∧ v.f2.length = v.f3.length then findK key v.f2 v.f3 else none
def zS : S27 := ⟨0, ⟨#[]⟩, [], []⟩
def resJ (o : Option S27) : Int × ByteArray × List ByteArray × List S27 × Bool := match o with
 | some x => (x.f0, x.f1, x.f2, x.f3, true)
 | none => (0, ⟨#[]⟩, [], [], false)
def resR (o : Option S27) : Int × ByteArray × List ByteArray × List S44 × Bool := match o with
 | some x => (x.f0, x.f1, x.f2, ofL x.f3, true)
 | none => (0, ⟨#[]⟩, [], [], false)
theorem findK_mem {key : ByteArray} : ∀ {ks : List ByteArray} {xs : List S27} {x : S27}, findK key ks xs = some x → x ∈ xs
 | k :: ks, y :: xs, x, h => by
  unfold findK at h
  split at h
  ·exact List.mem_cons.2 (.inl (Option.some.inj h).symm)
  ·exact List.mem_cons_of_mem _ (findK_mem h)
 | [], _, _, h => by simp [findK] at h
 | _ :: _, [], _, h => by simp [findK] at h
theorem ofL_len (l : List S27) : (ofL l).length = l.length := by rw [ofL_map, List.length_map]
theorem j_loop {v : S27} (key : ByteArray) (hl : v.f2.length = v.f3.length) (hk : v.f2.length ≤ 3000) : ∀ (m i : Nat), i + m = v.f2.length →
  Ev (fun k => json_Get.l0 k key v.f2 (v.f2.length : Int) (i : Int) v.f0 v.f1 v.f2 v.f3) (resJ (findK key (v.f2.drop i) (v.f3.drop i)))
 | 0, i, h => by
  rw [List.drop_eq_nil_of_le (by omega)]
  refine Ev.step (fun k => rfl) ?_
  exact Num.evF (c := (i : Int) < (v.f2.length : Int)) (by omega) (Ev.now _)
 | m + 1, i, h => by
  have hi : i < v.f2.length := by omega
  have hi3 : i < v.f3.length := by omega
  rw [List.drop_eq_getElem_cons hi, List.drop_eq_getElem_cons hi3]
  refine Ev.step (fun k => rfl) ?_
  simp only [json_Get.l0]
  rw [rd25 hi3, rdB hi]
  refine Num.evT (by omega) ?_
  refine Num.evT (by omega) ?_
  refine Num.evT (by omega) ?_
  unfold findK
  by_cases hc : (v.f2[i]).toList = key.toList
  ·rw [if_pos hc]
   exact Num.evT hc (Num.evT (by omega) (Ev.now _))
  ·rw [if_neg hc]
   refine Num.evF hc ?_
   rw [w64 (by omega)]
   exact j_loop key hl hk m (i + 1) (by omega)
theorem r_loop {v : S27} (key : ByteArray) (hl : v.f2.length = v.f3.length) (hk : v.f2.length ≤ 3000) : ∀ (m i : Nat), i + m = v.f2.length →
  Ev (fun k => whetstoneref04_Get.l0 k key (i : Int) v.f0 v.f1 v.f2 (ofL v.f3)) (resR (findK key (v.f2.drop i) (v.f3.drop i)))
 | 0, i, h => by
  rw [List.drop_eq_nil_of_le (by omega)]
  refine Ev.step (fun k => rfl) ?_
  exact Num.evF (c := (i : Int) < (v.f2.length : Int)) (by omega) (Ev.now _)
 | m + 1, i, h => by
  have hi : i < v.f2.length := by omega
  have hi3 : i < v.f3.length := by omega
  have hi4 : i < (ofL v.f3).length := by rw [ofL_len]; exact hi3
  rw [List.drop_eq_getElem_cons hi, List.drop_eq_getElem_cons hi3]
  refine Ev.step (fun k => rfl) ?_
  simp only [whetstoneref04_Get.l0]
  rw [rd41 hi4, rdB hi]
  refine Num.evT (by omega) ?_
  refine Num.evT (by omega) ?_
  unfold findK
  by_cases hc : (v.f2[i]).toList = key.toList
  ·rw [if_pos hc]
   have e : (ofL v.f3)[i] = ofS (v.f3[i]) := by simp [ofL_map]
   rw [e, ofS_eq]
   exact Num.evT hc (Num.evT (by omega) (Ev.now _))
  ·rw [if_neg hc]
   refine Num.evF hc ?_
   rw [w64 (by omega)]
   exact r_loop key hl hk m (i + 1) (by omega)
theorem get_j (v : S27) (key : ByteArray) (hk : v.f2.length ≤ 3000) : Ev (fun k => json_Get.f k v.f0 v.f1 v.f2 v.f3 key) (resJ (getP v key)) := by
 unfold getP
 simp only [json_Get.f]
 by_cases h6 : v.f0 = 6
 ·refine Num.evT h6 ?_
  by_cases hl : v.f2.length = v.f3.length
  ·rw [if_pos ⟨h6, hl⟩, show ((v.f2.length : Int) == (v.f3.length : Int)) = true from beq_iff_eq.2 (by omega)]
   have := j_loop key hl hk v.f2.length 0 (by omega)
   refine Ev.step (fun k => rfl) ?_
   exact this
  ·rw [if_neg (fun h => hl h.2), show ((v.f2.length : Int) == (v.f3.length : Int)) = false from beq_eq_false_iff_ne.2 (by omega)]
   refine Ev.step (fun k => rfl) ?_
   exact Ev.now _
 ·refine Num.evF h6 ?_
  rw [if_neg (fun h => h6 h.1)]
  refine Ev.step (fun k => rfl) ?_
  exact Ev.now _
theorem get_r (v : S27) (key : ByteArray) (hk : v.f2.length ≤ 3000) : Ev (fun k => whetstoneref04_Get.f k v.f0 v.f1 v.f2 (ofL v.f3) key) (resR (getP v key)) := by
 unfold getP
 simp only [whetstoneref04_Get.f]
 by_cases h6 : v.f0 = 6
 ·refine Num.evT h6 ?_
  by_cases hl : v.f2.length = v.f3.length
  ·rw [if_pos ⟨h6, hl⟩, show ((v.f2.length : Int) != ((ofL v.f3).length : Int)) = false from bne_eq_false_iff_eq.2 (by rw [ofL_len]; omega)]
   have := r_loop key hl hk v.f2.length 0 (by omega)
   refine Ev.step (fun k => rfl) ?_
   exact this
  ·rw [if_neg (fun h => hl h.2), show ((v.f2.length : Int) != ((ofL v.f3).length : Int)) = true from bne_iff_ne.2 (by rw [ofL_len]; omega)]
   refine Ev.step (fun k => rfl) ?_
   exact Ev.now _
 ·refine Num.evF h6 ?_
  rw [if_neg (fun h => h6 h.1)]
  refine Ev.step (fun k => rfl) ?_
  exact Ev.now _
end Go.Proofs.YteighppcdpaekaaDoor.Eq4
end
