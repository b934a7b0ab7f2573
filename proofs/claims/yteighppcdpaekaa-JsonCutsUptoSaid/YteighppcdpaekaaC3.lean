/- Walks and words of this session, put together by a program of this session (pack.py). Conditions: as each text says. -/
import Derived.Test.YteighppcdpaekaaRows
import Derived.Test.YteighppcdpaekaaC2
set_option linter.unusedVariables false
set_option linter.unusedSimpArgs false
section
namespace Go.Proofs.Yteighppcdpaekaa.P
open Go.RowKit Go.Proofs.YteighppcdpaekaaW.PrintWords Go.Proofs.YteighppcdpaekaaW.PrintLast Go.Proofs.YteighppcdpaekaaW.PrintMore
attribute [local go_sem] max2_int min2_int max_two min_two max_three min_three max_four min_four
set_option linter.unusedVariables false
set_option linter.unusedSimpArgs false
mutual
def whetstonelaw04_light.j0 : Nat → Int → Bool → Int → ByteArray → List ByteArray → List (S25) → Option (Bool)
 | 0, _, _, _, _, _, _ => none
 | k + 1, x1, x26, x184000, x184001, x184002, x184003 => if x26 = true then (some false) else (whetstonelaw04_light.l0 k x1 0 x184000 x184001 x184002 x184003)
def whetstonelaw04_light.l0 : Nat → Int → Int → Int → ByteArray → List ByteArray → List (S25) → Option (Bool)
 | 0, _, _, _, _, _, _ => none
 | k + 1, x1, x5, x184000, x184001, x184002, x184003 => if x5 < (x184002.length : Int) then (if 0 ≤ x5 then (if ((rdOf ByteArray.empty x184002 x5).size : Int) > 200 then (some false) else (whetstonelaw04_light.l0 k x1 (wrap64 (x5 + 1)) x184000 x184001 x184002 x184003)) else (none)) else (whetstonelaw04_light.l1 k x1 0 x184000 x184001 x184002 x184003)
def whetstonelaw04_light.l1 : Nat → Int → Int → Int → ByteArray → List ByteArray → List (S25) → Option (Bool)
 | 0, _, _, _, _, _, _ => none
 | k + 1, x1, x6, x184000, x184001, x184002, x184003 => if x6 < (x184003.length : Int) then (if 0 ≤ x6 then ((whetstonelaw04_light.f k ((rd_T25 x184003 x6).f0) ((rd_T25 x184003 x6).f1) ((rd_T25 x184003 x6).f2) ((rd_T25 x184003 x6).f3) (wrap64 (x1 + 1))).bind fun t186 => (if t186 = true then (whetstonelaw04_light.l1 k x1 (wrap64 (x6 + 1)) x184000 x184001 x184002 x184003) else (some false))) else (none)) else (some true)
def whetstonelaw04_light.f : Nat → Int → ByteArray → List ByteArray → List (S25) → Int → Option (Bool)
 | 0, _, _, _, _, _ => none
 | k + 1, a0_0, a0_1, l0_2, l0_3, a1 => if (l0_3.length : Int) > 100 then (whetstonelaw04_light.j0 k a1 true a0_0 a0_1 l0_2 l0_3) else (if (l0_2.length : Int) > 100 then (whetstonelaw04_light.j0 k a1 true a0_0 a0_1 l0_2 l0_3) else (if (a0_1.size : Int) > 1000 then (whetstonelaw04_light.j0 k a1 true a0_0 a0_1 l0_2 l0_3) else (whetstonelaw04_light.j0 k a1 (decide (a1 > 90)) a0_0 a0_1 l0_2 l0_3)))
end
set_option maxHeartbeats 8000000 in
set_option maxRecDepth 100000 in
theorem whetstonelaw04_light.calls (k : Nat) : ∀ (a0_0 : Int) (a0_1 : ByteArray) (A0_2 : Option Addr) (c0_2 : Nat) (l0_2 : List ByteArray) (A0_3 : Option Addr) (c0_3 : Nat) (l0_3 : List (S25)) (a1 : Int) (r : Bool) (w : World) (hr0_2 : Kd.C Kd.string w A0_2 l0_2.length l0_2) (hc0_2 : l0_2.length ≤ c0_2) (hr0_3 : Kd.C k25 w A0_3 l0_3.length l0_3) (hc0_3 : l0_3.length ≤ c0_3) (h : whetstonelaw04_light.f k a0_0 a0_1 l0_2 l0_3 a1 = some r),
  Calls Try.prog 14 #[.agg #[.int .i64 a0_0, .string a0_1, .slice A0_2 l0_2.length c0_2, .slice A0_3 l0_3.length c0_3], .int .i64 a1] w fun e w' => e = .returned (.bool r) ∧ Below w.heap.size w w' := by
 induction k using Nat.strongRecOn with
 | _ k ih =>
 intro a0_0 a0_1 A0_2 c0_2 l0_2 A0_3 c0_3 l0_3 a1 r w hr0_2 hc0_2 hr0_3 hc0_3 h
 cases k with
 | zero => exact absurd h (by simp [whetstonelaw04_light.f])
 | succ k =>
 simp only [whetstonelaw04_light.f] at h
 have hu25 := Try.underlying25
 have HR0_2 := Aside0.mk hr0_2
 have HC0_2 := Aside0.mk hc0_2
 clear hr0_2 hc0_2
 have HR0_3 := Aside0.mk hr0_3
 have HC0_3 := Aside0.mk hc0_3
 clear hr0_3 hc0_3
 have HB := Aside0.mk (Below.refl w.heap.size w)
 have H : (if (l0_3.length : Int) > 100 then (whetstonelaw04_light.j0 k a1 true a0_0 a0_1 l0_2 l0_3) else (if (l0_2.length : Int) > 100 then (whetstonelaw04_light.j0 k a1 true a0_0 a0_1 l0_2 l0_3) else (if (a0_1.size : Int) > 1000 then (whetstonelaw04_light.j0 k a1 true a0_0 a0_1 l0_2 l0_3) else (whetstonelaw04_light.j0 k a1 (decide (a1 > 90)) a0_0 a0_1 l0_2 l0_3)))) = some r := h
 clear h
 have HC3 := Aside0.mk H
 clear H
 go_enter Try.func14, Try.ntmps14
 go_upto_region 1 with (first | ((with_reducible refine gate_dst (N := 2) rfl ?_); (try (refine gate_guard (by rfl) ?_; dsimp only)); refine box_event ?hg (N := 2) ?hd (cs := #[.int .i64 a0_0, .string a0_1, .slice A0_2 l0_2.length c0_2, .slice A0_3 l0_3.length c0_3]) (t := 25) ?hr ?_; (case hd => rfl); (case hg => rfl); (case hr => first | (go_simp; done) | (go_simp; rfl)); intro gb183 hg w4 hbox hb; have n0_ := Aside0.mk (below_step (by repeat (first | (with_reducible first | exact HB.out | apply below_alloc | apply pw_below_drewN | apply below_drew1) | exact HB.out)) hb); have n1_ := Aside0.mk (hbox); have n2_ := Aside0.mk ((by rw [hg]; exact (below_size (by repeat (first | (with_reducible first | exact HB.out | apply below_alloc | apply pw_below_drewN | apply below_drew1) | exact HB.out))) : w.heap.size ≤ gb183)); have n3_ := Aside0.mk ((by rw [hg]; exact (below_size (by repeat (first | (with_reducible first | exact HB.out | apply below_alloc | apply pw_below_drewN | apply below_drew1) | exact HB.out))) : w.heap.size ≤ gb183)); clear HB; have HB := n0_; have BK183 := n1_; have GW183 := n2_; have GE183 := n3_; clear n0_ n1_ n2_ n3_; clear hb hbox hg))
 (try simp only [Act.put, List.setIfInBounds_toArray, List.set_cons_zero, List.set_cons_succ])
 go_cut [26] (fun v26 wc => ∃ (kq : Nat) (x26_2 : Bool), v26 = .bool x26_2 ∧ Aside0 (whetstonelaw04_light.j0 kq a1 x26_2 a0_0 a0_1 l0_2 l0_3 = some r) ∧ Aside0 (kq ≤ k) ∧ Aside0 (wc.heap[gb183]? = some (.cells #[.int .i64 a0_0, .string a0_1, (.slice A0_2 l0_2.length c0_2), (.slice A0_3 l0_3.length c0_3)] 25 (0, 0))) ∧ Aside0 (Below w.heap.size w wc))
 case first =>
  have H := HC3.out
  clear HC3
  by_cases c5 : (l0_3.length : Int) > 100
  ·rw [if_pos c5] at H
   have c5b0 : decide (100 < (l0_3.length : Int)) = true := decide_eq_true c5
   have c5b1 : decide (100 < l0_3.length) = true := decide_eq_true (by omega)
   clear c5
   (first | rw [c5b0] | (simp only [i64_w, i32_w]; rw [c5b0]) | skip)
   have H' := Aside0.mk H
   clear H
   have hcz6_0 : w4.cell? ⟨gb183, 0, none⟩ = some (.int .i64 a0_0) := (blk_cell BK183.out 0).trans rfl
   have hcz6_1 : w4.cell? ⟨gb183, 1, none⟩ = some (.string a0_1) := (blk_cell BK183.out 1).trans rfl
   have hcz6_2 : w4.cell? ⟨gb183, 2, none⟩ = some (.slice A0_2 l0_2.length c0_2) := (blk_cell BK183.out 2).trans rfl
   have hcz6_3 : w4.cell? ⟨gb183, 3, none⟩ = some (.slice A0_3 l0_3.length c0_3) := (blk_cell BK183.out 3).trans rfl
   have hfz6_0 := blk_frozen BK183.out 0
   have hfz6_1 := blk_frozen BK183.out 1
   have hfz6_2 := blk_frozen BK183.out 2
   have hfz6_3 := blk_frozen BK183.out 3
   go_wp2
   go_meet
   case rel => exact ⟨_, (true), (by first | rfl | (simp; done) | (simp [*]; done)), H', ⟨by first | omega | exact Nat.le_refl _⟩, ⟨by (with_reducible repeat (first | refine blk_drewN ?_ _ | refine blk_drew ?_ | refine blk_alloc ?_ _)); exact BK183.out⟩, ⟨by repeat (first | (with_reducible first | exact HB.out | apply below_alloc | apply pw_below_drewN | apply below_drew1 | refine below_set ?_ GE183.out) | exact HB.out)⟩⟩
  ·rw [if_neg c5] at H
   have c5b0 : decide (100 < (l0_3.length : Int)) = false := decide_eq_false c5
   have c5b1 : decide (100 < l0_3.length) = false := decide_eq_false (by omega)
   clear c5
   (first | rw [c5b0] | (simp only [i64_w, i32_w]; rw [c5b0]) | skip)
   by_cases c7 : (l0_2.length : Int) > 100
   ·rw [if_pos c7] at H
    have c7b0 : decide (100 < (l0_2.length : Int)) = true := decide_eq_true c7
    have c7b1 : decide (100 < l0_2.length) = true := decide_eq_true (by omega)
    clear c7
    have H' := Aside0.mk H
    clear H
    have hcz8_0 : w4.cell? ⟨gb183, 0, none⟩ = some (.int .i64 a0_0) := (blk_cell BK183.out 0).trans rfl
    have hcz8_1 : w4.cell? ⟨gb183, 1, none⟩ = some (.string a0_1) := (blk_cell BK183.out 1).trans rfl
    have hcz8_2 : w4.cell? ⟨gb183, 2, none⟩ = some (.slice A0_2 l0_2.length c0_2) := (blk_cell BK183.out 2).trans rfl
    have hcz8_3 : w4.cell? ⟨gb183, 3, none⟩ = some (.slice A0_3 l0_3.length c0_3) := (blk_cell BK183.out 3).trans rfl
    have hfz8_0 := blk_frozen BK183.out 0
    have hfz8_1 := blk_frozen BK183.out 1
    have hfz8_2 := blk_frozen BK183.out 2
    have hfz8_3 := blk_frozen BK183.out 3
    go_wp2
    go_meet
    case rel => exact ⟨_, (true), (by first | rfl | (simp; done) | (simp [*]; done)), H', ⟨by first | omega | exact Nat.le_refl _⟩, ⟨by (with_reducible repeat (first | refine blk_drewN ?_ _ | refine blk_drew ?_ | refine blk_alloc ?_ _)); exact BK183.out⟩, ⟨by repeat (first | (with_reducible first | exact HB.out | apply below_alloc | apply pw_below_drewN | apply below_drew1 | refine below_set ?_ GE183.out) | exact HB.out)⟩⟩
   ·rw [if_neg c7] at H
    have c7b0 : decide (100 < (l0_2.length : Int)) = false := decide_eq_false c7
    have c7b1 : decide (100 < l0_2.length) = false := decide_eq_false (by omega)
    clear c7
    by_cases c9 : (a0_1.size : Int) > 1000
    ·rw [if_pos c9] at H
     have c9b0 : decide (1000 < (a0_1.size : Int)) = true := decide_eq_true c9
     have c9b1 : decide (1000 < a0_1.size) = true := decide_eq_true (by omega)
     clear c9
     have H' := Aside0.mk H
     clear H
     have hcz10_0 : w4.cell? ⟨gb183, 0, none⟩ = some (.int .i64 a0_0) := (blk_cell BK183.out 0).trans rfl
     have hcz10_1 : w4.cell? ⟨gb183, 1, none⟩ = some (.string a0_1) := (blk_cell BK183.out 1).trans rfl
     have hcz10_2 : w4.cell? ⟨gb183, 2, none⟩ = some (.slice A0_2 l0_2.length c0_2) := (blk_cell BK183.out 2).trans rfl
     have hcz10_3 : w4.cell? ⟨gb183, 3, none⟩ = some (.slice A0_3 l0_3.length c0_3) := (blk_cell BK183.out 3).trans rfl
     have hfz10_0 := blk_frozen BK183.out 0
     have hfz10_1 := blk_frozen BK183.out 1
     have hfz10_2 := blk_frozen BK183.out 2
     have hfz10_3 := blk_frozen BK183.out 3
     go_wp2
     go_meet
     case rel => exact ⟨_, (true), (by first | rfl | (simp; done) | (simp [*]; done)), H', ⟨by first | omega | exact Nat.le_refl _⟩, ⟨by (with_reducible repeat (first | refine blk_drewN ?_ _ | refine blk_drew ?_ | refine blk_alloc ?_ _)); exact BK183.out⟩, ⟨by repeat (first | (with_reducible first | exact HB.out | apply below_alloc | apply pw_below_drewN | apply below_drew1 | refine below_set ?_ GE183.out) | exact HB.out)⟩⟩
    ·rw [if_neg c9] at H
     have c9b0 : decide (1000 < (a0_1.size : Int)) = false := decide_eq_false c9
     have c9b1 : decide (1000 < a0_1.size) = false := decide_eq_false (by omega)
     clear c9
     have H' := Aside0.mk H
     clear H
     have hcz11_0 : w4.cell? ⟨gb183, 0, none⟩ = some (.int .i64 a0_0) := (blk_cell BK183.out 0).trans rfl
     have hcz11_1 : w4.cell? ⟨gb183, 1, none⟩ = some (.string a0_1) := (blk_cell BK183.out 1).trans rfl
     have hcz11_2 : w4.cell? ⟨gb183, 2, none⟩ = some (.slice A0_2 l0_2.length c0_2) := (blk_cell BK183.out 2).trans rfl
     have hcz11_3 : w4.cell? ⟨gb183, 3, none⟩ = some (.slice A0_3 l0_3.length c0_3) := (blk_cell BK183.out 3).trans rfl
     have hfz11_0 := blk_frozen BK183.out 0
     have hfz11_1 := blk_frozen BK183.out 1
     have hfz11_2 := blk_frozen BK183.out 2
     have hfz11_3 := blk_frozen BK183.out 3
     go_wp2
     go_meet
     case rel => exact ⟨_, (decide (a1 > 90)), (by first | rfl | (simp; done) | (simp [*]; done)), H', ⟨by first | omega | exact Nat.le_refl _⟩, ⟨by (with_reducible repeat (first | refine blk_drewN ?_ _ | refine blk_drew ?_ | refine blk_alloc ?_ _)); exact BK183.out⟩, ⟨by repeat (first | (with_reducible first | exact HB.out | apply below_alloc | apply pw_below_drewN | apply below_drew1 | refine below_set ?_ GE183.out) | exact HB.out)⟩⟩
 case rest =>
  clear HC3
  try clear c1; try clear p2; try clear c5; try clear c5b0; try clear c5b1; try clear c7; try clear c7b0; try clear c7b1; try clear c9; try clear c9b0; try clear c9b1; try clear hcz10_0; try clear hcz10_1; try clear hcz10_2; try clear hcz10_3; try clear hcz11_0; try clear hcz11_1; try clear hcz11_2; try clear hcz11_3; try clear hcz6_0; try clear hcz6_1; try clear hcz6_2; try clear hcz6_3; try clear hcz8_0; try clear hcz8_1; try clear hcz8_2; try clear hcz8_3; try clear hfz10_0; try clear hfz10_1; try clear hfz10_2; try clear hfz10_3; try clear hfz11_0; try clear hfz11_1; try clear hfz11_2; try clear hfz11_3; try clear hfz6_0; try clear hfz6_1; try clear hfz6_2; try clear hfz6_3; try clear hfz8_0; try clear hfz8_1; try clear hfz8_2; try clear hfz8_3
  obtain ⟨kq, x26_2, rfl, HA, HJ2, BK183, HB⟩ := hcut
  cases kq with
  | zero => exact absurd HA.out (by simp [whetstonelaw04_light.j0])
  | succ kj2 =>
   have H := HA.out
   clear HA
   simp only [whetstonelaw04_light.j0] at H
   by_cases c12 : x26_2 = true
   ·subst c12
    have H1 : (some false) = some r := by rw [if_pos rfl] at H; exact H
    clear H
    have H := H1
    clear H1
    obtain rfl := Option.some.inj H
    go_wp2
    go_ret
    exact ⟨by first | rfl | (simp [errW_none, errW_some] <;> rfl) | (simp [*, errW_none, errW_some] <;> rfl), by repeat (first | (with_reducible first | exact HB.out | apply below_alloc | apply pw_below_drewN | apply below_drew1 | refine below_set ?_ GE183.out) | exact HB.out)⟩
   ·replace c12 := Bool.eq_false_iff.mpr c12
    subst c12
    have H1 : (whetstonelaw04_light.l0 kj2 a1 0 a0_0 a0_1 l0_2 l0_3) = some r := by rw [if_neg (show ¬ (false = true) by decide)] at H; exact H
    clear H
    have H := H1
    clear H1
    have H' := Aside0.mk H
    clear H
    go_wp2
    go_loopg [5] kj2 (fun kq v5 w' => ∃ (x5_2 : Int), v5 = .int .i64 x5_2 ∧ Aside0 (whetstonelaw04_light.l0 kq a1 x5_2 a0_0 a0_1 l0_2 l0_3 = some r) ∧ Aside0 (kq ≤ kj2) ∧ Aside0 (w'.heap[gb183]? = some (.cells #[.int .i64 a0_0, .string a0_1, (.slice A0_2 l0_2.length c0_2), (.slice A0_3 l0_3.length c0_3)] 25 (0, 0))) ∧ Aside0 (Below w.heap.size w w'))
    case atStart => exact ⟨(0), (by first | rfl | (simp; done) | (simp [*]; done)), H', ⟨Nat.le_refl _⟩, ⟨by (with_reducible repeat (first | refine blk_drewN ?_ _ | refine blk_drew ?_ | refine blk_alloc ?_ _)); exact BK183.out⟩, ⟨by repeat (first | (with_reducible first | exact HB.out | apply below_alloc | apply pw_below_drewN | apply below_drew1 | refine below_set ?_ GE183.out) | exact HB.out)⟩⟩
    case round =>
     clear H'
     try clear c1; try clear p2; try clear c5; try clear c5b0; try clear c5b1; try clear c7; try clear c7b0; try clear c7b1; try clear c9; try clear c9b0; try clear c9b1; try clear c12; try clear hcz10_0; try clear hcz10_1; try clear hcz10_2; try clear hcz10_3; try clear hcz11_0; try clear hcz11_1; try clear hcz11_2; try clear hcz11_3; try clear hcz6_0; try clear hcz6_1; try clear hcz6_2; try clear hcz6_3; try clear hcz8_0; try clear hcz8_1; try clear hcz8_2; try clear hcz8_3; try clear hfz10_0; try clear hfz10_1; try clear hfz10_2; try clear hfz10_3; try clear hfz11_0; try clear hfz11_1; try clear hfz11_2; try clear hfz11_3; try clear hfz6_0; try clear hfz6_1; try clear hfz6_2; try clear hfz6_3; try clear hfz8_0; try clear hfz8_1; try clear hfz8_2; try clear hfz8_3; try clear p2
     obtain ⟨x5_2, rfl, HA, HK2, BK183, HB⟩ := hrel
     cases gk with
     | zero => exact absurd HA.out (by simp [whetstonelaw04_light.l0])
     | succ k2 =>
      have H := HA.out
      clear HA
      simp only [whetstonelaw04_light.l0] at H
      by_cases c13 : x5_2 < (l0_2.length : Int)
      ·rw [if_pos c13] at H
       have c13b0 : decide (x5_2 < (l0_2.length : Int)) = true := decide_eq_true c13
       clear c13
       by_cases c14 : 0 ≤ x5_2
       ·rw [if_pos c14] at H
        have c14b0 : decide (0 ≤ x5_2) = true := decide_eq_true c14
        clear c14
        by_cases c15 : ((rdOf ByteArray.empty l0_2 x5_2).size : Int) > 200
        ·rw [if_pos c15] at H
         have c15b0 : decide (200 < ((rdOf ByteArray.empty l0_2 x5_2).size : Int)) = true := decide_eq_true c15
         have c15b1 : decide (200 < (rdOf ByteArray.empty l0_2 x5_2).size) = true := decide_eq_true (by omega)
         clear c15
         obtain rfl := Option.some.inj H
         have hcz16_0 : wr.cell? ⟨gb183, 0, none⟩ = some (.int .i64 a0_0) := (blk_cell BK183.out 0).trans rfl
         have hcz16_1 : wr.cell? ⟨gb183, 1, none⟩ = some (.string a0_1) := (blk_cell BK183.out 1).trans rfl
         have hcz16_2 : wr.cell? ⟨gb183, 2, none⟩ = some (.slice A0_2 l0_2.length c0_2) := (blk_cell BK183.out 2).trans rfl
         have hcz16_3 : wr.cell? ⟨gb183, 3, none⟩ = some (.slice A0_3 l0_3.length c0_3) := (blk_cell BK183.out 3).trans rfl
         have hfz16_0 := blk_frozen BK183.out 0
         have hfz16_1 := blk_frozen BK183.out 1
         have hfz16_2 := blk_frozen BK183.out 2
         have hfz16_3 := blk_frozen BK183.out 3
         have p184 : 0 ≤ (x5_2 : Int) := of_decide_eq_true (by first | (with_reducible assumption) | assumption)
         have q184 : x5_2 < (l0_2.length : Int) := of_decide_eq_true (by first | (with_reducible assumption) | assumption)
         obtain ⟨ad184, e184, hx184_0⟩ := Kd.at_string HR0_2.out x5_2 p184 q184
         cases e184
         replace hx184_0 := (HB.out.cell (World.block_lt_of_cell? w _ hx184_0)).trans hx184_0
         replace p184 := eq_true p184
         replace q184 := eq_true q184
         go_wp2
         go_ret
         exact ⟨by first | rfl | (simp [errW_none, errW_some] <;> rfl) | (simp [*, errW_none, errW_some] <;> rfl), by repeat (first | (with_reducible first | exact HB.out | apply below_alloc | apply pw_below_drewN | apply below_drew1 | refine below_set ?_ GE183.out) | exact HB.out)⟩
        ·rw [if_neg c15] at H
         have c15b0 : decide (200 < ((rdOf ByteArray.empty l0_2 x5_2).size : Int)) = false := decide_eq_false c15
         have c15b1 : decide (200 < (rdOf ByteArray.empty l0_2 x5_2).size) = false := decide_eq_false (by omega)
         clear c15
         have H' := Aside0.mk H
         clear H
         have hcz17_0 : wr.cell? ⟨gb183, 0, none⟩ = some (.int .i64 a0_0) := (blk_cell BK183.out 0).trans rfl
         have hcz17_1 : wr.cell? ⟨gb183, 1, none⟩ = some (.string a0_1) := (blk_cell BK183.out 1).trans rfl
         have hcz17_2 : wr.cell? ⟨gb183, 2, none⟩ = some (.slice A0_2 l0_2.length c0_2) := (blk_cell BK183.out 2).trans rfl
         have hcz17_3 : wr.cell? ⟨gb183, 3, none⟩ = some (.slice A0_3 l0_3.length c0_3) := (blk_cell BK183.out 3).trans rfl
         have hfz17_0 := blk_frozen BK183.out 0
         have hfz17_1 := blk_frozen BK183.out 1
         have hfz17_2 := blk_frozen BK183.out 2
         have hfz17_3 := blk_frozen BK183.out 3
         have p184 : 0 ≤ (x5_2 : Int) := of_decide_eq_true (by first | (with_reducible assumption) | assumption)
         have q184 : x5_2 < (l0_2.length : Int) := of_decide_eq_true (by first | (with_reducible assumption) | assumption)
         obtain ⟨ad184, e184, hx184_0⟩ := Kd.at_string HR0_2.out x5_2 p184 q184
         cases e184
         replace hx184_0 := (HB.out.cell (World.block_lt_of_cell? w _ hx184_0)).trans hx184_0
         replace p184 := eq_true p184
         replace q184 := eq_true q184
         go_wp2
         go_roundg k2
         case measure => have := HJ2.out; have := HK2.out; omega
         case rel => exact ⟨(wrap64 (x5_2 + 1)), (by first | rfl | (simp; done) | (simp [*]; done)), H', ⟨by have := HJ2.out; have := HK2.out; omega⟩, ⟨by (with_reducible repeat (first | refine blk_drewN ?_ _ | refine blk_drew ?_ | refine blk_alloc ?_ _)); exact BK183.out⟩, ⟨by repeat (first | (with_reducible first | exact HB.out | apply below_alloc | apply pw_below_drewN | apply below_drew1 | refine below_set ?_ GE183.out) | exact HB.out)⟩⟩
       ·rw [if_neg c14] at H
        exact absurd H (by simp)
      ·rw [if_neg c13] at H
       have c13b0 : decide (x5_2 < (l0_2.length : Int)) = false := decide_eq_false c13
       clear c13
       have H' := Aside0.mk H
       clear H
       have hcz18_0 : wr.cell? ⟨gb183, 0, none⟩ = some (.int .i64 a0_0) := (blk_cell BK183.out 0).trans rfl
       have hcz18_1 : wr.cell? ⟨gb183, 1, none⟩ = some (.string a0_1) := (blk_cell BK183.out 1).trans rfl
       have hcz18_2 : wr.cell? ⟨gb183, 2, none⟩ = some (.slice A0_2 l0_2.length c0_2) := (blk_cell BK183.out 2).trans rfl
       have hcz18_3 : wr.cell? ⟨gb183, 3, none⟩ = some (.slice A0_3 l0_3.length c0_3) := (blk_cell BK183.out 3).trans rfl
       have hfz18_0 := blk_frozen BK183.out 0
       have hfz18_1 := blk_frozen BK183.out 1
       have hfz18_2 := blk_frozen BK183.out 2
       have hfz18_3 := blk_frozen BK183.out 3
       go_wp2
       go_loopg [6] k2 (fun kq v6 w' => ∃ (x6_3 : Int), v6 = .int .i64 x6_3 ∧ Aside0 (whetstonelaw04_light.l1 kq a1 x6_3 a0_0 a0_1 l0_2 l0_3 = some r) ∧ Aside0 (kq ≤ k2) ∧ Aside0 (w'.heap[gb183]? = some (.cells #[.int .i64 a0_0, .string a0_1, (.slice A0_2 l0_2.length c0_2), (.slice A0_3 l0_3.length c0_3)] 25 (0, 0))) ∧ Aside0 (Below w.heap.size w w'))
       case atStart => exact ⟨(0), (by first | rfl | (simp; done) | (simp [*]; done)), H', ⟨Nat.le_refl _⟩, ⟨by (with_reducible repeat (first | refine blk_drewN ?_ _ | refine blk_drew ?_ | refine blk_alloc ?_ _)); exact BK183.out⟩, ⟨by repeat (first | (with_reducible first | exact HB.out | apply below_alloc | apply pw_below_drewN | apply below_drew1 | refine below_set ?_ GE183.out) | exact HB.out)⟩⟩
       case round =>
        clear H'
        try clear c1; try clear p1; try clear q1; try clear hx1; try clear p2; try clear c5; try clear c5b0; try clear c5b1; try clear p6; try clear c7; try clear c7b0; try clear c7b1; try clear c9; try clear c9b0; try clear c9b1; try clear c12; try clear c13; try clear c13b0; try clear c14; try clear c14b0; try clear c15; try clear c15b0; try clear c15b1; try clear p18; try clear q18; try clear hx18; try clear hcz10_0; try clear hcz10_1; try clear hcz10_2; try clear hcz10_3; try clear hcz11_0; try clear hcz11_1; try clear hcz11_2; try clear hcz11_3; try clear hcz16_0; try clear hcz16_1; try clear hcz16_2; try clear hcz16_3; try clear hcz17_0; try clear hcz17_1; try clear hcz17_2; try clear hcz17_3; try clear hcz18_0; try clear hcz18_1; try clear hcz18_2; try clear hcz18_3; try clear hcz6_0; try clear hcz6_1; try clear hcz6_2; try clear hcz6_3; try clear hcz8_0; try clear hcz8_1; try clear hcz8_2; try clear hcz8_3; try clear hfz10_0; try clear hfz10_1; try clear hfz10_2; try clear hfz10_3; try clear hfz11_0; try clear hfz11_1; try clear hfz11_2; try clear hfz11_3; try clear hfz16_0; try clear hfz16_1; try clear hfz16_2; try clear hfz16_3; try clear hfz17_0; try clear hfz17_1; try clear hfz17_2; try clear hfz17_3; try clear hfz18_0; try clear hfz18_1; try clear hfz18_2; try clear hfz18_3; try clear hfz6_0; try clear hfz6_1; try clear hfz6_2; try clear hfz6_3; try clear hfz8_0; try clear hfz8_1; try clear hfz8_2; try clear hfz8_3; try clear hx184_0; try clear p184; try clear p2; try clear q184
        obtain ⟨x6_3, rfl, HA, HK3, BK183, HB⟩ := hrel
        cases gk with
        | zero => exact absurd HA.out (by simp [whetstonelaw04_light.l1])
        | succ k3 =>
         have H := HA.out
         clear HA
         simp only [whetstonelaw04_light.l1] at H
         by_cases c19 : x6_3 < (l0_3.length : Int)
         ·rw [if_pos c19] at H
          have c19b0 : decide (x6_3 < (l0_3.length : Int)) = true := decide_eq_true c19
          clear c19
          by_cases c20 : 0 ≤ x6_3
          ·rw [if_pos c20] at H
           have c20b0 : decide (0 ≤ x6_3) = true := decide_eq_true c20
           clear c20
           replace H := Option.bind_eq_some_iff.mp H
           obtain ⟨t186, A210, H⟩ := H
           replace H : (if t186 = true then (whetstonelaw04_light.l1 k3 a1 (wrap64 (x6_3 + 1)) a0_0 a0_1 l0_2 l0_3) else (some false)) = some r := H
           have A21 := Aside0.mk A210
           clear A210
           by_cases c22 : t186 = true
           ·subst c22
            have H1 : (whetstonelaw04_light.l1 k3 a1 (wrap64 (x6_3 + 1)) a0_0 a0_1 l0_2 l0_3) = some r := by rw [if_pos rfl] at H; exact H
            clear H
            have H := H1
            clear H1
            have H' := Aside0.mk H
            clear H
            have hcz23_0 : wr.cell? ⟨gb183, 0, none⟩ = some (.int .i64 a0_0) := (blk_cell BK183.out 0).trans rfl
            have hcz23_1 : wr.cell? ⟨gb183, 1, none⟩ = some (.string a0_1) := (blk_cell BK183.out 1).trans rfl
            have hcz23_2 : wr.cell? ⟨gb183, 2, none⟩ = some (.slice A0_2 l0_2.length c0_2) := (blk_cell BK183.out 2).trans rfl
            have hcz23_3 : wr.cell? ⟨gb183, 3, none⟩ = some (.slice A0_3 l0_3.length c0_3) := (blk_cell BK183.out 3).trans rfl
            have hfz23_0 := blk_frozen BK183.out 0
            have hfz23_1 := blk_frozen BK183.out 1
            have hfz23_2 := blk_frozen BK183.out 2
            have hfz23_3 := blk_frozen BK183.out 3
            have p185 : 0 ≤ (x6_3 : Int) := of_decide_eq_true (by first | (with_reducible assumption) | assumption)
            have q185 : x6_3 < (l0_3.length : Int) := of_decide_eq_true (by first | (with_reducible assumption) | assumption)
            obtain ⟨ad185, A185_2, c185_2, A185_3, c185_3, e185, hx185_0, hx185_1, hx185_2, hx185_3, hl185_2, hi185_2, hl185_3, hi185_3⟩ := at_T25 HR0_3.out x6_3 p185 q185
            cases e185
            replace hx185_0 := (HB.out.cell (World.block_lt_of_cell? w _ hx185_0)).trans hx185_0
            replace hx185_1 := (HB.out.cell (World.block_lt_of_cell? w _ hx185_1)).trans hx185_1
            replace hx185_2 := (HB.out.cell (World.block_lt_of_cell? w _ hx185_2)).trans hx185_2
            replace hx185_3 := (HB.out.cell (World.block_lt_of_cell? w _ hx185_3)).trans hx185_3
            have HR185_2 := Aside0.mk hi185_2
            have HC185_2 := Aside0.mk hl185_2
            clear hi185_2 hl185_2
            have HR185_3 := Aside0.mk hi185_3
            have HC185_3 := Aside0.mk hl185_3
            clear hi185_3 hl185_3
            replace p185 := eq_true p185
            replace q185 := eq_true q185
            go_wp2_with (first | ((with_reducible refine gate_callee (f := 14) rfl ?_); refine goesL_ (some 55) rfl rfl Try.func14 (by kernel_rfl) rfl #[.agg #[.int .i64 ((rd_T25 l0_3 x6_3).f0), .string ((rd_T25 l0_3 x6_3).f1), .slice A185_2 ((rd_T25 l0_3 x6_3).f2).length c185_2, .slice A185_3 ((rd_T25 l0_3 x6_3).f3).length c185_3], .int .i64 (wrap64 (a1 + 1))] rfl (by (try simp only [List.map_toArray, List.map_cons, List.map_nil]); first | done | rfl | (simp only [List.length_drop, List.length_take]; rfl)) ?_; (with_reducible refine (ih k3 (by have := HJ2.out; have := HK2.out; have := HK3.out; omega) ((rd_T25 l0_3 x6_3).f0) ((rd_T25 l0_3 x6_3).f1) _ _ ((rd_T25 l0_3 x6_3).f2) _ _ ((rd_T25 l0_3 x6_3).f3) (wrap64 (a1 + 1)) true _ ?side1 ?side2 ?side3 ?side4 A21.out).mono ?_); (case side1 => repeat (first | exact (Kd.C_below HR185_2.out HB.out) | (with_reducible refine Kd.C_alloc ?_ _) | (with_reducible refine Kd.C_drewN ?_ _) | (with_reducible refine Kd.C_drew ?_))); (case side2 => exact HC185_2.out); (case side3 => repeat (first | exact (Kd.C_below HR185_3.out HB.out) | (with_reducible refine Kd.C_alloc ?_ _) | (with_reducible refine Kd.C_drewN ?_ _) | (with_reducible refine Kd.C_drew ?_))); (case side4 => exact HC185_3.out); rintro e w24 ⟨rfl, hb⟩; refine ⟨_, rfl, ?_⟩; have n0_ := Aside0.mk (blk_below (g := gb183) (o := .cells #[.int .i64 a0_0, .string a0_1, .slice A0_2 l0_2.length c0_2, .slice (some ad185) l0_3.length c0_3] 25 (0, 0)) (by (with_reducible repeat (first | refine blk_drewN ?_ _ | refine blk_drew ?_ | refine blk_alloc ?_ _)); exact BK183.out) hb); have n1_ := Aside0.mk (below_step (by repeat (first | (with_reducible first | exact HB.out | apply below_alloc | apply pw_below_drewN | apply below_drew1 | refine below_set ?_ GE183.out) | exact HB.out)) hb); clear BK183; clear HB; have BK183 := n0_; have HB := n1_; clear n0_ n1_; (try clear hb); (try clear hb2); (try clear hk); (try clear hi)))
            go_roundg k3
            case measure => have := HJ2.out; have := HK2.out; have := HK3.out; omega
            case rel => exact ⟨(wrap64 (x6_3 + 1)), (by first | rfl | (simp; done) | (simp [*]; done)), H', ⟨by have := HJ2.out; have := HK2.out; have := HK3.out; omega⟩, ⟨by (with_reducible repeat (first | refine blk_drewN ?_ _ | refine blk_drew ?_ | refine blk_alloc ?_ _)); exact BK183.out⟩, ⟨by repeat (first | (with_reducible first | exact HB.out | apply below_alloc | apply pw_below_drewN | apply below_drew1 | refine below_set ?_ GE183.out) | exact HB.out)⟩⟩
           ·replace c22 := Bool.eq_false_iff.mpr c22
            subst c22
            have H1 : (some false) = some r := by rw [if_neg (show ¬ (false = true) by decide)] at H; exact H
            clear H
            have H := H1
            clear H1
            obtain rfl := Option.some.inj H
            have hcz25_0 : wr.cell? ⟨gb183, 0, none⟩ = some (.int .i64 a0_0) := (blk_cell BK183.out 0).trans rfl
            have hcz25_1 : wr.cell? ⟨gb183, 1, none⟩ = some (.string a0_1) := (blk_cell BK183.out 1).trans rfl
            have hcz25_2 : wr.cell? ⟨gb183, 2, none⟩ = some (.slice A0_2 l0_2.length c0_2) := (blk_cell BK183.out 2).trans rfl
            have hcz25_3 : wr.cell? ⟨gb183, 3, none⟩ = some (.slice A0_3 l0_3.length c0_3) := (blk_cell BK183.out 3).trans rfl
            have hfz25_0 := blk_frozen BK183.out 0
            have hfz25_1 := blk_frozen BK183.out 1
            have hfz25_2 := blk_frozen BK183.out 2
            have hfz25_3 := blk_frozen BK183.out 3
            have p185 : 0 ≤ (x6_3 : Int) := of_decide_eq_true (by first | (with_reducible assumption) | assumption)
            have q185 : x6_3 < (l0_3.length : Int) := of_decide_eq_true (by first | (with_reducible assumption) | assumption)
            obtain ⟨ad185, A185_2, c185_2, A185_3, c185_3, e185, hx185_0, hx185_1, hx185_2, hx185_3, hl185_2, hi185_2, hl185_3, hi185_3⟩ := at_T25 HR0_3.out x6_3 p185 q185
            cases e185
            replace hx185_0 := (HB.out.cell (World.block_lt_of_cell? w _ hx185_0)).trans hx185_0
            replace hx185_1 := (HB.out.cell (World.block_lt_of_cell? w _ hx185_1)).trans hx185_1
            replace hx185_2 := (HB.out.cell (World.block_lt_of_cell? w _ hx185_2)).trans hx185_2
            replace hx185_3 := (HB.out.cell (World.block_lt_of_cell? w _ hx185_3)).trans hx185_3
            have HR185_2 := Aside0.mk hi185_2
            have HC185_2 := Aside0.mk hl185_2
            clear hi185_2 hl185_2
            have HR185_3 := Aside0.mk hi185_3
            have HC185_3 := Aside0.mk hl185_3
            clear hi185_3 hl185_3
            replace p185 := eq_true p185
            replace q185 := eq_true q185
            go_wp2_with (first | ((with_reducible refine gate_callee (f := 14) rfl ?_); refine goesL_ (some 55) rfl rfl Try.func14 (by kernel_rfl) rfl #[.agg #[.int .i64 ((rd_T25 l0_3 x6_3).f0), .string ((rd_T25 l0_3 x6_3).f1), .slice A185_2 ((rd_T25 l0_3 x6_3).f2).length c185_2, .slice A185_3 ((rd_T25 l0_3 x6_3).f3).length c185_3], .int .i64 (wrap64 (a1 + 1))] rfl (by (try simp only [List.map_toArray, List.map_cons, List.map_nil]); first | done | rfl | (simp only [List.length_drop, List.length_take]; rfl)) ?_; (with_reducible refine (ih k3 (by have := HJ2.out; have := HK2.out; have := HK3.out; omega) ((rd_T25 l0_3 x6_3).f0) ((rd_T25 l0_3 x6_3).f1) _ _ ((rd_T25 l0_3 x6_3).f2) _ _ ((rd_T25 l0_3 x6_3).f3) (wrap64 (a1 + 1)) false _ ?side1 ?side2 ?side3 ?side4 A21.out).mono ?_); (case side1 => repeat (first | exact (Kd.C_below HR185_2.out HB.out) | (with_reducible refine Kd.C_alloc ?_ _) | (with_reducible refine Kd.C_drewN ?_ _) | (with_reducible refine Kd.C_drew ?_))); (case side2 => exact HC185_2.out); (case side3 => repeat (first | exact (Kd.C_below HR185_3.out HB.out) | (with_reducible refine Kd.C_alloc ?_ _) | (with_reducible refine Kd.C_drewN ?_ _) | (with_reducible refine Kd.C_drew ?_))); (case side4 => exact HC185_3.out); rintro e w26 ⟨rfl, hb⟩; refine ⟨_, rfl, ?_⟩; have n0_ := Aside0.mk (blk_below (g := gb183) (o := .cells #[.int .i64 a0_0, .string a0_1, .slice A0_2 l0_2.length c0_2, .slice (some ad185) l0_3.length c0_3] 25 (0, 0)) (by (with_reducible repeat (first | refine blk_drewN ?_ _ | refine blk_drew ?_ | refine blk_alloc ?_ _)); exact BK183.out) hb); have n1_ := Aside0.mk (below_step (by repeat (first | (with_reducible first | exact HB.out | apply below_alloc | apply pw_below_drewN | apply below_drew1 | refine below_set ?_ GE183.out) | exact HB.out)) hb); clear BK183; clear HB; have BK183 := n0_; have HB := n1_; clear n0_ n1_; (try clear hb); (try clear hb2); (try clear hk); (try clear hi)))
            go_ret
            exact ⟨by first | rfl | (simp [errW_none, errW_some] <;> rfl) | (simp [*, errW_none, errW_some] <;> rfl), by repeat (first | (with_reducible first | exact HB.out | apply below_alloc | apply pw_below_drewN | apply below_drew1 | refine below_set ?_ GE183.out) | exact HB.out)⟩
          ·rw [if_neg c20] at H
           exact absurd H (by simp)
         ·rw [if_neg c19] at H
          have c19b0 : decide (x6_3 < (l0_3.length : Int)) = false := decide_eq_false c19
          clear c19
          obtain rfl := Option.some.inj H
          have hcz27_0 : wr.cell? ⟨gb183, 0, none⟩ = some (.int .i64 a0_0) := (blk_cell BK183.out 0).trans rfl
          have hcz27_1 : wr.cell? ⟨gb183, 1, none⟩ = some (.string a0_1) := (blk_cell BK183.out 1).trans rfl
          have hcz27_2 : wr.cell? ⟨gb183, 2, none⟩ = some (.slice A0_2 l0_2.length c0_2) := (blk_cell BK183.out 2).trans rfl
          have hcz27_3 : wr.cell? ⟨gb183, 3, none⟩ = some (.slice A0_3 l0_3.length c0_3) := (blk_cell BK183.out 3).trans rfl
          have hfz27_0 := blk_frozen BK183.out 0
          have hfz27_1 := blk_frozen BK183.out 1
          have hfz27_2 := blk_frozen BK183.out 2
          have hfz27_3 := blk_frozen BK183.out 3
          go_wp2
          go_ret
          exact ⟨by first | rfl | (simp [errW_none, errW_some] <;> rfl) | (simp [*, errW_none, errW_some] <;> rfl), by repeat (first | (with_reducible first | exact HB.out | apply below_alloc | apply pw_below_drewN | apply below_drew1 | refine below_set ?_ GE183.out) | exact HB.out)⟩
mutual
def whetstoneref04_Count.l0 : Nat → Int → Int → Int → Int → ByteArray → List ByteArray → List (S41) → Option (Int × Int)
 | 0, _, _, _, _, _, _, _ => none
 | k + 1, x4, x5, x6, x188000, x188001, x188002, x188003 => if x6 < (x188003.length : Int) then (if 0 ≤ x6 then ((whetstoneref04_Count.f k ((rd_T41 x188003 x6).f0) ((rd_T41 x188003 x6).f1) ((rd_T41 x188003 x6).f2) ((rd_T41 x188003 x6).f3)).bind fun bt189 => (if bt189.2 > x5 then (whetstoneref04_Count.l0 k (wrap64 (x4 + bt189.1)) bt189.2 (wrap64 (x6 + 1)) x188000 x188001 x188002 x188003) else (whetstoneref04_Count.l0 k (wrap64 (x4 + bt189.1)) x5 (wrap64 (x6 + 1)) x188000 x188001 x188002 x188003))) else (none)) else (some (x4, wrap64 (x5 + 1)))
def whetstoneref04_Count.f : Nat → Int → ByteArray → List ByteArray → List (S41) → Option (Int × Int)
 | 0, _, _, _, _ => none
 | k + 1, a0_0, a0_1, l0_2, l0_3 => whetstoneref04_Count.l0 k 1 0 0 a0_0 a0_1 l0_2 l0_3
end
set_option maxHeartbeats 8000000 in
set_option maxRecDepth 100000 in
theorem whetstoneref04_Count.calls (k : Nat) : ∀ (a0_0 : Int) (a0_1 : ByteArray) (A0_2 : Option Addr) (c0_2 : Nat) (l0_2 : List ByteArray) (A0_3 : Option Addr) (c0_3 : Nat) (l0_3 : List (S41)) (r1 : Int) (r2 : Int) (w : World) (hr0_2 : Kd.C Kd.string w A0_2 l0_2.length l0_2) (hc0_2 : l0_2.length ≤ c0_2) (hr0_3 : Kd.C k41 w A0_3 l0_3.length l0_3) (hc0_3 : l0_3.length ≤ c0_3) (h : whetstoneref04_Count.f k a0_0 a0_1 l0_2 l0_3 = some (r1, r2)),
  Calls Try.prog 15 #[.agg #[.int .i64 a0_0, .string a0_1, .slice A0_2 l0_2.length c0_2, .slice A0_3 l0_3.length c0_3]] w fun e w' => e = .returned (.tuple #[.int .i64 r1, .int .i64 r2]) ∧ Below w.heap.size w w' := by
 induction k using Nat.strongRecOn with
 | _ k ih =>
 intro a0_0 a0_1 A0_2 c0_2 l0_2 A0_3 c0_3 l0_3 r1 r2 w hr0_2 hc0_2 hr0_3 hc0_3 h
 cases k with
 | zero => exact absurd h (by simp [whetstoneref04_Count.f])
 | succ k =>
 simp only [whetstoneref04_Count.f] at h
 have hu41 := Try.underlying41
 have HR0_2 := Aside0.mk hr0_2
 have HC0_2 := Aside0.mk hc0_2
 clear hr0_2 hc0_2
 have HR0_3 := Aside0.mk hr0_3
 have HC0_3 := Aside0.mk hc0_3
 clear hr0_3 hc0_3
 have HB := Aside0.mk (Below.refl w.heap.size w)
 have H : (whetstoneref04_Count.l0 k 1 0 0 a0_0 a0_1 l0_2 l0_3) = some (r1, r2) := h
 clear h
 have H' := Aside0.mk H
 clear H
 go_enter Try.func15, Try.ntmps15
 go_wp2_with (first | ((with_reducible refine gate_dst (N := 1) rfl ?_); refine box_event ?hg (N := 1) ?hd (cs := #[.int .i64 a0_0, .string a0_1, .slice A0_2 l0_2.length c0_2, .slice A0_3 l0_3.length c0_3]) (t := 41) ?hr ?_; (case hd => rfl); (case hg => rfl); (case hr => first | (go_simp; done) | (go_simp; rfl)); intro gb187 hg w2 hbox hb; have n0_ := Aside0.mk (below_step (by repeat (first | (with_reducible first | exact HB.out | apply below_alloc | apply pw_below_drewN | apply below_drew1) | exact HB.out)) hb); have n1_ := Aside0.mk (hbox); have n2_ := Aside0.mk ((by rw [hg]; exact (below_size (by repeat (first | (with_reducible first | exact HB.out | apply below_alloc | apply pw_below_drewN | apply below_drew1) | exact HB.out))) : w.heap.size ≤ gb187)); have n3_ := Aside0.mk ((by rw [hg]; exact (below_size (by repeat (first | (with_reducible first | exact HB.out | apply below_alloc | apply pw_below_drewN | apply below_drew1) | exact HB.out))) : w.heap.size ≤ gb187)); clear HB; have HB := n0_; have BK187 := n1_; have GW187 := n2_; have GE187 := n3_; clear n0_ n1_ n2_ n3_; clear hb hbox hg))
 go_loopg [4, 5, 6] k (fun kq v4 v5 v6 w' => ∃ (x4_1 : Int) (x5_1 : Int) (x6_1 : Int), v4 = .int .i64 x4_1 ∧ v5 = .int .i64 x5_1 ∧ v6 = .int .i64 x6_1 ∧ Aside0 (whetstoneref04_Count.l0 kq x4_1 x5_1 x6_1 a0_0 a0_1 l0_2 l0_3 = some (r1, r2)) ∧ Aside0 (kq ≤ k) ∧ Aside0 (w'.heap[gb187]? = some (.cells #[.int .i64 a0_0, .string a0_1, (.slice A0_2 l0_2.length c0_2), (.slice A0_3 l0_3.length c0_3)] 41 (0, 0))) ∧ Aside0 (Below w.heap.size w w'))
 case atStart => exact ⟨(1), (0), (0), (by first | rfl | (simp; done) | (simp [*]; done)), (by first | rfl | (simp; done) | (simp [*]; done)), (by first | rfl | (simp; done) | (simp [*]; done)), H', ⟨Nat.le_refl _⟩, ⟨by (with_reducible repeat (first | refine blk_drewN ?_ _ | refine blk_drew ?_ | refine blk_alloc ?_ _)); exact BK187.out⟩, ⟨by repeat (first | (with_reducible first | exact HB.out | apply below_alloc | apply pw_below_drewN | apply below_drew1 | refine below_set ?_ GE187.out) | exact HB.out)⟩⟩
 case round =>
  clear H'
  try clear c1; try clear p2
  obtain ⟨x4_1, x5_1, x6_1, rfl, rfl, rfl, HA, HK1, BK187, HB⟩ := hrel
  cases gk with
  | zero => exact absurd HA.out (by simp [whetstoneref04_Count.l0])
  | succ k1 =>
   have H := HA.out
   clear HA
   simp only [whetstoneref04_Count.l0] at H
   by_cases c3 : x6_1 < (l0_3.length : Int)
   ·rw [if_pos c3] at H
    have c3b0 : decide (x6_1 < (l0_3.length : Int)) = true := decide_eq_true c3
    clear c3
    by_cases c4 : 0 ≤ x6_1
    ·rw [if_pos c4] at H
     have c4b0 : decide (0 ≤ x6_1) = true := decide_eq_true c4
     clear c4
     replace H := Option.bind_eq_some_iff.mp H
     obtain ⟨⟨t189, t190⟩, A50, H⟩ := H
     replace H : (if t190 > x5_1 then (whetstoneref04_Count.l0 k1 (wrap64 (x4_1 + t189)) t190 (wrap64 (x6_1 + 1)) a0_0 a0_1 l0_2 l0_3) else (whetstoneref04_Count.l0 k1 (wrap64 (x4_1 + t189)) x5_1 (wrap64 (x6_1 + 1)) a0_0 a0_1 l0_2 l0_3)) = some (r1, r2) := H
     have A5 := Aside0.mk A50
     clear A50
     by_cases c6 : t190 > x5_1
     ·rw [if_pos c6] at H
      have c6b0 : decide (x5_1 < t190) = true := decide_eq_true c6
      clear c6
      have H' := Aside0.mk H
      clear H
      have hcz7_0 : wr.cell? ⟨gb187, 0, none⟩ = some (.int .i64 a0_0) := (blk_cell BK187.out 0).trans rfl
      have hcz7_1 : wr.cell? ⟨gb187, 1, none⟩ = some (.string a0_1) := (blk_cell BK187.out 1).trans rfl
      have hcz7_2 : wr.cell? ⟨gb187, 2, none⟩ = some (.slice A0_2 l0_2.length c0_2) := (blk_cell BK187.out 2).trans rfl
      have hcz7_3 : wr.cell? ⟨gb187, 3, none⟩ = some (.slice A0_3 l0_3.length c0_3) := (blk_cell BK187.out 3).trans rfl
      have hfz7_0 := blk_frozen BK187.out 0
      have hfz7_1 := blk_frozen BK187.out 1
      have hfz7_2 := blk_frozen BK187.out 2
      have hfz7_3 := blk_frozen BK187.out 3
      have p188 : 0 ≤ (x6_1 : Int) := of_decide_eq_true (by first | (with_reducible assumption) | assumption)
      have q188 : x6_1 < (l0_3.length : Int) := of_decide_eq_true (by first | (with_reducible assumption) | assumption)
      obtain ⟨ad188, A188_2, c188_2, A188_3, c188_3, e188, hx188_0, hx188_1, hx188_2, hx188_3, hl188_2, hi188_2, hl188_3, hi188_3⟩ := at_T41 HR0_3.out x6_1 p188 q188
      cases e188
      replace hx188_0 := (HB.out.cell (World.block_lt_of_cell? w _ hx188_0)).trans hx188_0
      replace hx188_1 := (HB.out.cell (World.block_lt_of_cell? w _ hx188_1)).trans hx188_1
      replace hx188_2 := (HB.out.cell (World.block_lt_of_cell? w _ hx188_2)).trans hx188_2
      replace hx188_3 := (HB.out.cell (World.block_lt_of_cell? w _ hx188_3)).trans hx188_3
      have HR188_2 := Aside0.mk hi188_2
      have HC188_2 := Aside0.mk hl188_2
      clear hi188_2 hl188_2
      have HR188_3 := Aside0.mk hi188_3
      have HC188_3 := Aside0.mk hl188_3
      clear hi188_3 hl188_3
      replace p188 := eq_true p188
      replace q188 := eq_true q188
      go_wp2_with (first | ((with_reducible refine gate_callee (f := 15) rfl ?_); refine goesL_ (some 22) rfl rfl Try.func15 (by kernel_rfl) rfl #[.agg #[.int .i64 ((rd_T41 l0_3 x6_1).f0), .string ((rd_T41 l0_3 x6_1).f1), .slice A188_2 ((rd_T41 l0_3 x6_1).f2).length c188_2, .slice A188_3 ((rd_T41 l0_3 x6_1).f3).length c188_3]] rfl (by (try simp only [List.map_toArray, List.map_cons, List.map_nil]); first | done | rfl | (simp only [List.length_drop, List.length_take]; rfl)) ?_; (with_reducible refine (ih k1 (by have := HK1.out; omega) ((rd_T41 l0_3 x6_1).f0) ((rd_T41 l0_3 x6_1).f1) _ _ ((rd_T41 l0_3 x6_1).f2) _ _ ((rd_T41 l0_3 x6_1).f3) t189 t190 _ ?side1 ?side2 ?side3 ?side4 A5.out).mono ?_); (case side1 => repeat (first | exact (Kd.C_below HR188_2.out HB.out) | (with_reducible refine Kd.C_alloc ?_ _) | (with_reducible refine Kd.C_drewN ?_ _) | (with_reducible refine Kd.C_drew ?_))); (case side2 => exact HC188_2.out); (case side3 => repeat (first | exact (Kd.C_below HR188_3.out HB.out) | (with_reducible refine Kd.C_alloc ?_ _) | (with_reducible refine Kd.C_drewN ?_ _) | (with_reducible refine Kd.C_drew ?_))); (case side4 => exact HC188_3.out); rintro e w8 ⟨rfl, hb⟩; refine ⟨_, rfl, ?_⟩; have n0_ := Aside0.mk (blk_below (g := gb187) (o := .cells #[.int .i64 a0_0, .string a0_1, .slice A0_2 l0_2.length c0_2, .slice (some ad188) l0_3.length c0_3] 41 (0, 0)) (by (with_reducible repeat (first | refine blk_drewN ?_ _ | refine blk_drew ?_ | refine blk_alloc ?_ _)); exact BK187.out) hb); have n1_ := Aside0.mk (below_step (by repeat (first | (with_reducible first | exact HB.out | apply below_alloc | apply pw_below_drewN | apply below_drew1 | refine below_set ?_ GE187.out) | exact HB.out)) hb); clear BK187; clear HB; have BK187 := n0_; have HB := n1_; clear n0_ n1_; (try clear hb); (try clear hb2); (try clear hk); (try clear hi)))
      go_roundg k1
      case measure => have := HK1.out; omega
      case rel => exact ⟨(wrap64 (x4_1 + t189)), (t190), (wrap64 (x6_1 + 1)), (by first | rfl | (simp; done) | (simp [*]; done)), (by first | rfl | (simp; done) | (simp [*]; done)), (by first | rfl | (simp; done) | (simp [*]; done)), H', ⟨by have := HK1.out; omega⟩, ⟨by (with_reducible repeat (first | refine blk_drewN ?_ _ | refine blk_drew ?_ | refine blk_alloc ?_ _)); exact BK187.out⟩, ⟨by repeat (first | (with_reducible first | exact HB.out | apply below_alloc | apply pw_below_drewN | apply below_drew1 | refine below_set ?_ GE187.out) | exact HB.out)⟩⟩
     ·rw [if_neg c6] at H
      have c6b0 : decide (x5_1 < t190) = false := decide_eq_false c6
      clear c6
      have H' := Aside0.mk H
      clear H
      have hcz9_0 : wr.cell? ⟨gb187, 0, none⟩ = some (.int .i64 a0_0) := (blk_cell BK187.out 0).trans rfl
      have hcz9_1 : wr.cell? ⟨gb187, 1, none⟩ = some (.string a0_1) := (blk_cell BK187.out 1).trans rfl
      have hcz9_2 : wr.cell? ⟨gb187, 2, none⟩ = some (.slice A0_2 l0_2.length c0_2) := (blk_cell BK187.out 2).trans rfl
      have hcz9_3 : wr.cell? ⟨gb187, 3, none⟩ = some (.slice A0_3 l0_3.length c0_3) := (blk_cell BK187.out 3).trans rfl
      have hfz9_0 := blk_frozen BK187.out 0
      have hfz9_1 := blk_frozen BK187.out 1
      have hfz9_2 := blk_frozen BK187.out 2
      have hfz9_3 := blk_frozen BK187.out 3
      have p188 : 0 ≤ (x6_1 : Int) := of_decide_eq_true (by first | (with_reducible assumption) | assumption)
      have q188 : x6_1 < (l0_3.length : Int) := of_decide_eq_true (by first | (with_reducible assumption) | assumption)
      obtain ⟨ad188, A188_2, c188_2, A188_3, c188_3, e188, hx188_0, hx188_1, hx188_2, hx188_3, hl188_2, hi188_2, hl188_3, hi188_3⟩ := at_T41 HR0_3.out x6_1 p188 q188
      cases e188
      replace hx188_0 := (HB.out.cell (World.block_lt_of_cell? w _ hx188_0)).trans hx188_0
      replace hx188_1 := (HB.out.cell (World.block_lt_of_cell? w _ hx188_1)).trans hx188_1
      replace hx188_2 := (HB.out.cell (World.block_lt_of_cell? w _ hx188_2)).trans hx188_2
      replace hx188_3 := (HB.out.cell (World.block_lt_of_cell? w _ hx188_3)).trans hx188_3
      have HR188_2 := Aside0.mk hi188_2
      have HC188_2 := Aside0.mk hl188_2
      clear hi188_2 hl188_2
      have HR188_3 := Aside0.mk hi188_3
      have HC188_3 := Aside0.mk hl188_3
      clear hi188_3 hl188_3
      replace p188 := eq_true p188
      replace q188 := eq_true q188
      go_wp2_with (first | ((with_reducible refine gate_callee (f := 15) rfl ?_); refine goesL_ (some 22) rfl rfl Try.func15 (by kernel_rfl) rfl #[.agg #[.int .i64 ((rd_T41 l0_3 x6_1).f0), .string ((rd_T41 l0_3 x6_1).f1), .slice A188_2 ((rd_T41 l0_3 x6_1).f2).length c188_2, .slice A188_3 ((rd_T41 l0_3 x6_1).f3).length c188_3]] rfl (by (try simp only [List.map_toArray, List.map_cons, List.map_nil]); first | done | rfl | (simp only [List.length_drop, List.length_take]; rfl)) ?_; (with_reducible refine (ih k1 (by have := HK1.out; omega) ((rd_T41 l0_3 x6_1).f0) ((rd_T41 l0_3 x6_1).f1) _ _ ((rd_T41 l0_3 x6_1).f2) _ _ ((rd_T41 l0_3 x6_1).f3) t189 t190 _ ?side1 ?side2 ?side3 ?side4 A5.out).mono ?_); (case side1 => repeat (first | exact (Kd.C_below HR188_2.out HB.out) | (with_reducible refine Kd.C_alloc ?_ _) | (with_reducible refine Kd.C_drewN ?_ _) | (with_reducible refine Kd.C_drew ?_))); (case side2 => exact HC188_2.out); (case side3 => repeat (first | exact (Kd.C_below HR188_3.out HB.out) | (with_reducible refine Kd.C_alloc ?_ _) | (with_reducible refine Kd.C_drewN ?_ _) | (with_reducible refine Kd.C_drew ?_))); (case side4 => exact HC188_3.out); rintro e w10 ⟨rfl, hb⟩; refine ⟨_, rfl, ?_⟩; have n0_ := Aside0.mk (blk_below (g := gb187) (o := .cells #[.int .i64 a0_0, .string a0_1, .slice A0_2 l0_2.length c0_2, .slice (some ad188) l0_3.length c0_3] 41 (0, 0)) (by (with_reducible repeat (first | refine blk_drewN ?_ _ | refine blk_drew ?_ | refine blk_alloc ?_ _)); exact BK187.out) hb); have n1_ := Aside0.mk (below_step (by repeat (first | (with_reducible first | exact HB.out | apply below_alloc | apply pw_below_drewN | apply below_drew1 | refine below_set ?_ GE187.out) | exact HB.out)) hb); clear BK187; clear HB; have BK187 := n0_; have HB := n1_; clear n0_ n1_; (try clear hb); (try clear hb2); (try clear hk); (try clear hi)))
      go_roundg k1
      case measure => have := HK1.out; omega
      case rel => exact ⟨(wrap64 (x4_1 + t189)), (x5_1), (wrap64 (x6_1 + 1)), (by first | rfl | (simp; done) | (simp [*]; done)), (by first | rfl | (simp; done) | (simp [*]; done)), (by first | rfl | (simp; done) | (simp [*]; done)), H', ⟨by have := HK1.out; omega⟩, ⟨by (with_reducible repeat (first | refine blk_drewN ?_ _ | refine blk_drew ?_ | refine blk_alloc ?_ _)); exact BK187.out⟩, ⟨by repeat (first | (with_reducible first | exact HB.out | apply below_alloc | apply pw_below_drewN | apply below_drew1 | refine below_set ?_ GE187.out) | exact HB.out)⟩⟩
    ·rw [if_neg c4] at H
     exact absurd H (by simp)
   ·rw [if_neg c3] at H
    have c3b0 : decide (x6_1 < (l0_3.length : Int)) = false := decide_eq_false c3
    clear c3
    simp only [Option.some.injEq, Prod.mk.injEq] at H
    obtain ⟨rfl, rfl⟩ := H
    have hcz11_0 : wr.cell? ⟨gb187, 0, none⟩ = some (.int .i64 a0_0) := (blk_cell BK187.out 0).trans rfl
    have hcz11_1 : wr.cell? ⟨gb187, 1, none⟩ = some (.string a0_1) := (blk_cell BK187.out 1).trans rfl
    have hcz11_2 : wr.cell? ⟨gb187, 2, none⟩ = some (.slice A0_2 l0_2.length c0_2) := (blk_cell BK187.out 2).trans rfl
    have hcz11_3 : wr.cell? ⟨gb187, 3, none⟩ = some (.slice A0_3 l0_3.length c0_3) := (blk_cell BK187.out 3).trans rfl
    have hfz11_0 := blk_frozen BK187.out 0
    have hfz11_1 := blk_frozen BK187.out 1
    have hfz11_2 := blk_frozen BK187.out 2
    have hfz11_3 := blk_frozen BK187.out 3
    go_wp2
    go_ret2
    exact ⟨by first | rfl | (simp [errW_none, errW_some] <;> rfl) | (simp [*, errW_none, errW_some] <;> rfl), by repeat (first | (with_reducible first | exact HB.out | apply below_alloc | apply pw_below_drewN | apply below_drew1 | refine below_set ?_ GE187.out) | exact HB.out)⟩
def whetstonelaw04_few.f (k : Nat) (a0_0 : Int) (a0_1 : ByteArray) (l0_2 : List ByteArray) (l0_3 : List (S25)) : Option (Bool) := (whetstonelaw04_light.f k a0_0 a0_1 l0_2 l0_3 0).bind fun t192 => (if t192 = true then ((whetstonelaw04_of.f k a0_0 a0_1 l0_2 l0_3).bind fun bt193 => ((whetstoneref04_Count.f k bt193.1 bt193.2.1 bt193.2.2.1 bt193.2.2.2).bind fun bt201 => (some (decide (bt201.1 ≤ 1000))))) else (some false))
set_option maxHeartbeats 8000000 in
set_option maxRecDepth 100000 in
theorem whetstonelaw04_few.calls (k : Nat) (a0_0 : Int) (a0_1 : ByteArray) (A0_2 : Option Addr) (c0_2 : Nat) (l0_2 : List ByteArray) (A0_3 : Option Addr) (c0_3 : Nat) (l0_3 : List (S25)) (r : Bool) (w : World) (hr0_2 : Kd.C Kd.string w A0_2 l0_2.length l0_2) (hc0_2 : l0_2.length ≤ c0_2) (hr0_3 : Kd.C k25 w A0_3 l0_3.length l0_3) (hc0_3 : l0_3.length ≤ c0_3) (h : whetstonelaw04_few.f k a0_0 a0_1 l0_2 l0_3 = some r) :
  Calls Try.prog 7 #[.agg #[.int .i64 a0_0, .string a0_1, .slice A0_2 l0_2.length c0_2, .slice A0_3 l0_3.length c0_3]] w fun e w' => e = .returned (.bool r) ∧ Below w.heap.size w w' := by
 have hu25 := Try.underlying25
 have HR0_2 := Aside0.mk hr0_2
 have HC0_2 := Aside0.mk hc0_2
 clear hr0_2 hc0_2
 have HR0_3 := Aside0.mk hr0_3
 have HC0_3 := Aside0.mk hc0_3
 clear hr0_3 hc0_3
 have HB := Aside0.mk (Below.refl w.heap.size w)
 have H : ((whetstonelaw04_light.f k a0_0 a0_1 l0_2 l0_3 0).bind fun t192 => (if t192 = true then ((whetstonelaw04_of.f k a0_0 a0_1 l0_2 l0_3).bind fun bt193 => ((whetstoneref04_Count.f k bt193.1 bt193.2.1 bt193.2.2.1 bt193.2.2.2).bind fun bt201 => (some (decide (bt201.1 ≤ 1000))))) else (some false))) = some r := h
 clear h
 replace H := Option.bind_eq_some_iff.mp H
 obtain ⟨t192, A20, H⟩ := H
 replace H : (if t192 = true then ((whetstonelaw04_of.f k a0_0 a0_1 l0_2 l0_3).bind fun bt193 => ((whetstoneref04_Count.f k bt193.1 bt193.2.1 bt193.2.2.1 bt193.2.2.2).bind fun bt201 => (some (decide (bt201.1 ≤ 1000))))) else (some false)) = some r := H
 have A2 := Aside0.mk A20
 clear A20
 by_cases c3 : t192 = true
 ·subst c3
  have H1 : ((whetstonelaw04_of.f k a0_0 a0_1 l0_2 l0_3).bind fun bt193 => ((whetstoneref04_Count.f k bt193.1 bt193.2.1 bt193.2.2.1 bt193.2.2.2).bind fun bt201 => (some (decide (bt201.1 ≤ 1000))))) = some r := by rw [if_pos rfl] at H; exact H
  clear H
  have H := H1
  clear H1
  replace H := Option.bind_eq_some_iff.mp H
  obtain ⟨⟨t193, t194, t195, t198⟩, A40, H⟩ := H
  replace H : ((whetstoneref04_Count.f k t193 t194 t195 t198).bind fun bt201 => (some (decide (bt201.1 ≤ 1000)))) = some r := H
  have A4 := Aside0.mk A40
  clear A40
  replace H := Option.bind_eq_some_iff.mp H
  obtain ⟨⟨t201, t202⟩, A50, H⟩ := H
  replace H : (some (decide (t201 ≤ 1000))) = some r := H
  have A5 := Aside0.mk A50
  clear A50
  obtain rfl := Option.some.inj H
  go_enter Try.func7, Try.ntmps7
  go_wp2_with (first | ((with_reducible refine gate_dst (N := 1) rfl ?_); refine box_event ?hg (N := 1) ?hd (cs := #[.int .i64 a0_0, .string a0_1, .slice A0_2 l0_2.length c0_2, .slice A0_3 l0_3.length c0_3]) (t := 25) ?hr ?_; (case hd => rfl); (case hg => rfl); (case hr => first | (go_simp; done) | (go_simp; rfl)); intro gb191 hg w6 hbox hb; have n0_ := Aside0.mk (below_step (by repeat (first | (with_reducible first | exact HB.out | apply below_alloc | apply pw_below_drewN | apply below_drew1) | exact HB.out)) hb); have n1_ := Aside0.mk (hbox); have n2_ := Aside0.mk ((by rw [hg]; exact (below_size (by repeat (first | (with_reducible first | exact HB.out | apply below_alloc | apply pw_below_drewN | apply below_drew1) | exact HB.out))) : w.heap.size ≤ gb191)); have n3_ := Aside0.mk ((by rw [hg]; exact (below_size (by repeat (first | (with_reducible first | exact HB.out | apply below_alloc | apply pw_below_drewN | apply below_drew1) | exact HB.out))) : w.heap.size ≤ gb191)); clear HB; have HB := n0_; have BK191 := n1_; have GW191 := n2_; have GE191 := n3_; clear n0_ n1_ n2_ n3_; clear hb hbox hg; have hcz7_0 : w6.cell? ⟨gb191, 0, none⟩ = some (.int .i64 a0_0) := (blk_cell BK191.out 0).trans rfl; have hcz7_1 : w6.cell? ⟨gb191, 1, none⟩ = some (.string a0_1) := (blk_cell BK191.out 1).trans rfl; have hcz7_2 : w6.cell? ⟨gb191, 2, none⟩ = some (.slice A0_2 l0_2.length c0_2) := (blk_cell BK191.out 2).trans rfl; have hcz7_3 : w6.cell? ⟨gb191, 3, none⟩ = some (.slice A0_3 l0_3.length c0_3) := (blk_cell BK191.out 3).trans rfl; have hfz7_0 := blk_frozen BK191.out 0; have hfz7_1 := blk_frozen BK191.out 1; have hfz7_2 := blk_frozen BK191.out 2; have hfz7_3 := blk_frozen BK191.out 3) | ((with_reducible refine gate_callee (f := 14) rfl ?_); refine goesL_ (some 6) rfl rfl Try.func14 (by kernel_rfl) rfl #[.agg #[.int .i64 a0_0, .string a0_1, .slice A0_2 l0_2.length c0_2, .slice A0_3 l0_3.length c0_3], .int .i64 0] rfl (by (try simp only [List.map_toArray, List.map_cons, List.map_nil]); first | done | rfl | (simp only [List.length_drop, List.length_take]; rfl)) ?_; (with_reducible refine (whetstonelaw04_light.calls k a0_0 a0_1 _ _ l0_2 _ _ l0_3 0 true _ ?side1 ?side2 ?side3 ?side4 A2.out).mono ?_); (case side1 => repeat (first | exact (Kd.C_below HR0_2.out HB.out) | (with_reducible refine Kd.C_alloc ?_ _) | (with_reducible refine Kd.C_drewN ?_ _) | (with_reducible refine Kd.C_drew ?_))); (case side2 => exact HC0_2.out); (case side3 => repeat (first | exact (Kd.C_below HR0_3.out HB.out) | (with_reducible refine Kd.C_alloc ?_ _) | (with_reducible refine Kd.C_drewN ?_ _) | (with_reducible refine Kd.C_drew ?_))); (case side4 => exact HC0_3.out); rintro e w8 ⟨rfl, hb⟩; refine ⟨_, rfl, ?_⟩; have n0_ := Aside0.mk (blk_below (g := gb191) (o := .cells #[.int .i64 a0_0, .string a0_1, .slice A0_2 l0_2.length c0_2, .slice A0_3 l0_3.length c0_3] 25 (0, 0)) (by (with_reducible repeat (first | refine blk_drewN ?_ _ | refine blk_drew ?_ | refine blk_alloc ?_ _)); exact BK191.out) hb); have n1_ := Aside0.mk (below_step (by repeat (first | (with_reducible first | exact HB.out | apply below_alloc | apply pw_below_drewN | apply below_drew1 | refine below_set ?_ GE191.out) | exact HB.out)) hb); clear BK191; clear HB; have BK191 := n0_; have HB := n1_; clear n0_ n1_; (try clear hb); (try clear hb2); (try clear hk); (try clear hi); have hcz9_0 : w8.cell? ⟨gb191, 0, none⟩ = some (.int .i64 a0_0) := (blk_cell BK191.out 0).trans rfl; have hcz9_1 : w8.cell? ⟨gb191, 1, none⟩ = some (.string a0_1) := (blk_cell BK191.out 1).trans rfl; have hcz9_2 : w8.cell? ⟨gb191, 2, none⟩ = some (.slice A0_2 l0_2.length c0_2) := (blk_cell BK191.out 2).trans rfl; have hcz9_3 : w8.cell? ⟨gb191, 3, none⟩ = some (.slice A0_3 l0_3.length c0_3) := (blk_cell BK191.out 3).trans rfl; have hfz9_0 := blk_frozen BK191.out 0; have hfz9_1 := blk_frozen BK191.out 1; have hfz9_2 := blk_frozen BK191.out 2; have hfz9_3 := blk_frozen BK191.out 3) | ((with_reducible refine gate_callee (f := 12) rfl ?_); refine goesL_ (some 10) rfl rfl Try.func12 (by kernel_rfl) rfl #[.agg #[.int .i64 a0_0, .string a0_1, .slice A0_2 l0_2.length c0_2, .slice A0_3 l0_3.length c0_3]] rfl (by (try simp only [List.map_toArray, List.map_cons, List.map_nil]); first | done | rfl | (simp only [List.length_drop, List.length_take]; rfl)) ?_; (with_reducible refine (whetstonelaw04_of.calls k a0_0 a0_1 (fun k_ => k_ < w.heap.size) _ _ l0_2 (fun k_ => k_ < w.heap.size) _ _ l0_3 t193 t194 t195 t198 _ ?side1 ?side2 A4.out).mono ?_); (case side1 => exact Kd.V_mk HC0_2.out (Kd.F_below (Kd.C_F Kd.heap_string HR0_2.out) (by repeat (first | (with_reducible first | exact HB.out | apply below_alloc | apply pw_below_drewN | apply below_drew1 | refine below_set ?_ GE191.out) | exact HB.out)))); (case side2 => exact Kd.V_mk HC0_3.out (Kd.F_below (Kd.C_F k25_heap HR0_3.out) (by repeat (first | (with_reducible first | exact HB.out | apply below_alloc | apply pw_below_drewN | apply below_drew1 | refine below_set ?_ GE191.out) | exact HB.out)))); rintro e w10 ⟨v196, v199, rfl, ho0, ho1, hb⟩; refine ⟨_, rfl, ?_⟩; have n0_ := Aside0.mk (Kd.V_lower (Kd.V_mono (ok' := fun k_ => some k_ ≠ (v199 : Value).ownBlock ∧ k_ ≠ gb191) ho0 (fun k_ hk_ => ⟨hk_.2, Or.elim hk_.1 (fun hs_ => Or.elim hs_ (fun hs_ => fun e_ => Nat.not_le.2 hs_ (by rw [e_]; exact GW191.out)) (fun hs_ => fun e_ => Nat.not_le.2 hs_ (by rw [e_]; exact GW191.out))) (fun hn_ => (Kd.freshB (g := gb191) (o := .cells #[.int .i64 a0_0, .string a0_1, .slice A0_2 l0_2.length c0_2, .slice A0_3 l0_3.length c0_3] 25 (0, 0)) (by (with_reducible repeat (first | refine blk_drewN ?_ _ | refine blk_drew ?_ | refine blk_alloc ?_ _)); exact BK191.out) k_ hn_))⟩)) (below_size (by repeat (first | (with_reducible first | exact HB.out | apply below_alloc | apply pw_below_drewN | apply below_drew1 | refine below_set ?_ GE191.out) | exact HB.out)))); have n1_ := Aside0.mk (Kd.N_lower (Kd.N_mono (ok' := fun k_ => k_ ≠ gb191) ho1 (fun k_ hk_ => Or.elim hk_ (fun hs_ => Or.elim hs_ (fun hs_ => fun e_ => Nat.not_le.2 hs_ (by rw [e_]; exact GW191.out)) (fun hs_ => fun e_ => Nat.not_le.2 hs_ (by rw [e_]; exact GW191.out))) (fun hn_ => (Kd.freshB (g := gb191) (o := .cells #[.int .i64 a0_0, .string a0_1, .slice A0_2 l0_2.length c0_2, .slice A0_3 l0_3.length c0_3] 25 (0, 0)) (by (with_reducible repeat (first | refine blk_drewN ?_ _ | refine blk_drew ?_ | refine blk_alloc ?_ _)); exact BK191.out) k_ hn_)))) (below_size (by repeat (first | (with_reducible first | exact HB.out | apply below_alloc | apply pw_below_drewN | apply below_drew1 | refine below_set ?_ GE191.out) | exact HB.out)))); have n2_ := Aside0.mk (blk_below (g := gb191) (o := .cells #[.int .i64 a0_0, .string a0_1, .slice A0_2 l0_2.length c0_2, .slice A0_3 l0_3.length c0_3] 25 (0, 0)) (by (with_reducible repeat (first | refine blk_drewN ?_ _ | refine blk_drew ?_ | refine blk_alloc ?_ _)); exact BK191.out) hb); have n3_ := Aside0.mk (below_step (by repeat (first | (with_reducible first | exact HB.out | apply below_alloc | apply pw_below_drewN | apply below_drew1 | refine below_set ?_ GE191.out) | exact HB.out)) hb); clear BK191; clear HB; have HO197 := n0_; have HO200 := n1_; have BK191 := n2_; have HB := n3_; clear n0_ n1_ n2_ n3_; (try clear hb); (try clear hb2); (try clear hk); (try clear hi); (try clear ho0); (try clear ho1); obtain ⟨Ao11, co11, eo11⟩ := Kd.V_slice HO197.out; subst eo11; obtain ⟨Ao12, co12, eo12⟩ := Kd.N_slice HO200.out; subst eo12) | ((with_reducible refine gate_callee (f := 15) rfl ?_); refine goesL_ (some 11) rfl rfl Try.func15 (by kernel_rfl) rfl #[.agg #[.int .i64 t193, .string t194, .slice Ao11 t195.length co11, .slice Ao12 t198.length co12]] rfl (by (try simp only [List.map_toArray, List.map_cons, List.map_nil]); first | done | rfl | (simp only [List.length_drop, List.length_take]; rfl)) ?_; (with_reducible refine (whetstoneref04_Count.calls k t193 t194 _ _ t195 _ _ t198 t201 t202 _ ?side1 ?side2 ?side3 ?side4 A5.out).mono ?_); (case side1 => repeat (first | exact (Kd.V_reads' HO197.out).2.2 | (with_reducible refine Kd.C_alloc ?_ _) | (with_reducible refine Kd.C_drewN ?_ _) | (with_reducible refine Kd.C_drew ?_))); (case side2 => exact (Kd.V_reads' HO197.out).2.1); (case side3 => repeat (first | exact (Kd.N_reads' HO200.out).2.2 | (with_reducible refine Kd.C_alloc ?_ _) | (with_reducible refine Kd.C_drewN ?_ _) | (with_reducible refine Kd.C_drew ?_))); (case side4 => exact (Kd.N_reads' HO200.out).2.1); rintro e w13 ⟨rfl, hb⟩; refine ⟨_, rfl, ?_⟩; have n0_ := Aside0.mk (Kd.V_below (by (with_reducible repeat (first | apply Kd.V_alloc | apply Kd.V_drewN | apply Kd.V_drew)); exact HO197.out) hb); have n1_ := Aside0.mk (Kd.N_below (by (with_reducible repeat (first | apply Kd.N_alloc | apply Kd.N_drewN | apply Kd.N_drew)); exact HO200.out) hb); have n2_ := Aside0.mk (blk_below (g := gb191) (o := .cells #[.int .i64 a0_0, .string a0_1, .slice A0_2 l0_2.length c0_2, .slice A0_3 l0_3.length c0_3] 25 (0, 0)) (by (with_reducible repeat (first | refine blk_drewN ?_ _ | refine blk_drew ?_ | refine blk_alloc ?_ _)); exact BK191.out) hb); have n3_ := Aside0.mk (below_step (by repeat (first | (with_reducible first | exact HB.out | apply below_alloc | apply pw_below_drewN | apply below_drew1 | refine below_set ?_ GE191.out) | exact HB.out)) hb); clear HO197; clear HO200; clear BK191; clear HB; have HO197 := n0_; have HO200 := n1_; have BK191 := n2_; have HB := n3_; clear n0_ n1_ n2_ n3_; (try clear hb); (try clear hb2); (try clear hk); (try clear hi)))
  go_ret
  exact ⟨by first | rfl | (simp [errW_none, errW_some] <;> rfl) | (simp [*, errW_none, errW_some] <;> rfl), by repeat (first | (with_reducible first | exact HB.out | apply below_alloc | apply pw_below_drewN | apply below_drew1 | refine below_set ?_ GE191.out) | exact HB.out)⟩
 ·replace c3 := Bool.eq_false_iff.mpr c3
  subst c3
  have H1 : (some false) = some r := by rw [if_neg (show ¬ (false = true) by decide)] at H; exact H
  clear H
  have H := H1
  clear H1
  obtain rfl := Option.some.inj H
  go_enter Try.func7, Try.ntmps7
  go_wp2_with (first | ((with_reducible refine gate_dst (N := 1) rfl ?_); refine box_event ?hg (N := 1) ?hd (cs := #[.int .i64 a0_0, .string a0_1, .slice A0_2 l0_2.length c0_2, .slice A0_3 l0_3.length c0_3]) (t := 25) ?hr ?_; (case hd => rfl); (case hg => rfl); (case hr => first | (go_simp; done) | (go_simp; rfl)); intro gb191 hg w14 hbox hb; have n0_ := Aside0.mk (below_step (by repeat (first | (with_reducible first | exact HB.out | apply below_alloc | apply pw_below_drewN | apply below_drew1) | exact HB.out)) hb); have n1_ := Aside0.mk (hbox); have n2_ := Aside0.mk ((by rw [hg]; exact (below_size (by repeat (first | (with_reducible first | exact HB.out | apply below_alloc | apply pw_below_drewN | apply below_drew1) | exact HB.out))) : w.heap.size ≤ gb191)); have n3_ := Aside0.mk ((by rw [hg]; exact (below_size (by repeat (first | (with_reducible first | exact HB.out | apply below_alloc | apply pw_below_drewN | apply below_drew1) | exact HB.out))) : w.heap.size ≤ gb191)); clear HB; have HB := n0_; have BK191 := n1_; have GW191 := n2_; have GE191 := n3_; clear n0_ n1_ n2_ n3_; clear hb hbox hg; have hcz15_0 : w14.cell? ⟨gb191, 0, none⟩ = some (.int .i64 a0_0) := (blk_cell BK191.out 0).trans rfl; have hcz15_1 : w14.cell? ⟨gb191, 1, none⟩ = some (.string a0_1) := (blk_cell BK191.out 1).trans rfl; have hcz15_2 : w14.cell? ⟨gb191, 2, none⟩ = some (.slice A0_2 l0_2.length c0_2) := (blk_cell BK191.out 2).trans rfl; have hcz15_3 : w14.cell? ⟨gb191, 3, none⟩ = some (.slice A0_3 l0_3.length c0_3) := (blk_cell BK191.out 3).trans rfl; have hfz15_0 := blk_frozen BK191.out 0; have hfz15_1 := blk_frozen BK191.out 1; have hfz15_2 := blk_frozen BK191.out 2; have hfz15_3 := blk_frozen BK191.out 3) | ((with_reducible refine gate_callee (f := 14) rfl ?_); refine goesL_ (some 6) rfl rfl Try.func14 (by kernel_rfl) rfl #[.agg #[.int .i64 a0_0, .string a0_1, .slice A0_2 l0_2.length c0_2, .slice A0_3 l0_3.length c0_3], .int .i64 0] rfl (by (try simp only [List.map_toArray, List.map_cons, List.map_nil]); first | done | rfl | (simp only [List.length_drop, List.length_take]; rfl)) ?_; (with_reducible refine (whetstonelaw04_light.calls k a0_0 a0_1 _ _ l0_2 _ _ l0_3 0 false _ ?side1 ?side2 ?side3 ?side4 A2.out).mono ?_); (case side1 => repeat (first | exact (Kd.C_below HR0_2.out HB.out) | (with_reducible refine Kd.C_alloc ?_ _) | (with_reducible refine Kd.C_drewN ?_ _) | (with_reducible refine Kd.C_drew ?_))); (case side2 => exact HC0_2.out); (case side3 => repeat (first | exact (Kd.C_below HR0_3.out HB.out) | (with_reducible refine Kd.C_alloc ?_ _) | (with_reducible refine Kd.C_drewN ?_ _) | (with_reducible refine Kd.C_drew ?_))); (case side4 => exact HC0_3.out); rintro e w16 ⟨rfl, hb⟩; refine ⟨_, rfl, ?_⟩; have n0_ := Aside0.mk (blk_below (g := gb191) (o := .cells #[.int .i64 a0_0, .string a0_1, .slice A0_2 l0_2.length c0_2, .slice A0_3 l0_3.length c0_3] 25 (0, 0)) (by (with_reducible repeat (first | refine blk_drewN ?_ _ | refine blk_drew ?_ | refine blk_alloc ?_ _)); exact BK191.out) hb); have n1_ := Aside0.mk (below_step (by repeat (first | (with_reducible first | exact HB.out | apply below_alloc | apply pw_below_drewN | apply below_drew1 | refine below_set ?_ GE191.out) | exact HB.out)) hb); clear BK191; clear HB; have BK191 := n0_; have HB := n1_; clear n0_ n1_; (try clear hb); (try clear hb2); (try clear hk); (try clear hi)))
  go_ret
  exact ⟨by first | rfl | (simp [errW_none, errW_some] <;> rfl) | (simp [*, errW_none, errW_some] <;> rfl), by repeat (first | (with_reducible first | exact HB.out | apply below_alloc | apply pw_below_drewN | apply below_drew1 | refine below_set ?_ GE191.out) | exact HB.out)⟩
end Go.Proofs.Yteighppcdpaekaa.P
end
section
namespace Go.Proofs.Yteighppcdpaekaa.P
open Go.RowKit Go.Proofs.YteighppcdpaekaaW.PrintWords Go.Proofs.YteighppcdpaekaaW.PrintLast Go.Proofs.YteighppcdpaekaaW.PrintMore
attribute [local go_sem] max2_int min2_int max_two min_two max_three min_three max_four min_four
set_option linter.unusedVariables false
set_option linter.unusedSimpArgs false
end Go.Proofs.Yteighppcdpaekaa.P
end
section
namespace Go.Proofs.Yteighppcdpaekaa.P
open Go.RowKit Go.Proofs.YteighppcdpaekaaW.PrintWords Go.Proofs.YteighppcdpaekaaW.PrintLast Go.Proofs.YteighppcdpaekaaW.PrintMore
attribute [local go_sem] max2_int min2_int max_two min_two max_three min_three max_four min_four
set_option linter.unusedVariables false
set_option linter.unusedSimpArgs false
end Go.Proofs.Yteighppcdpaekaa.P
end
section
namespace Go.Proofs.Yteighppcdpaekaa.P
open Go.RowKit Go.Proofs.YteighppcdpaekaaW.PrintWords Go.Proofs.YteighppcdpaekaaW.PrintLast Go.Proofs.YteighppcdpaekaaW.PrintMore
attribute [local go_sem] max2_int min2_int max_two min_two max_three min_three max_four min_four
set_option linter.unusedVariables false
set_option linter.unusedSimpArgs false
end Go.Proofs.Yteighppcdpaekaa.P
end
section
namespace Go.Proofs.Yteighppcdpaekaa.Eq4
open Go.RowKit Go.Proofs.YteighppcdpaekaaW.PrintWords Go.Proofs.Yteighppcdpaekaa.P
section
variable {α β : Type} {r : α}
theorem Evpos {c : Prop} [Decidable c] {A B : Nat → Option α} (hc : c) (h : Ev A r) : Ev (fun k => if c then A k else B k) r := by simpa only [if_pos hc] using h
theorem Evneg {c : Prop} [Decidable c] {A B : Nat → Option α} (hc : ¬ c) (h : Ev B r) : Ev (fun k => if c then A k else B k) r := by simpa only [if_neg hc] using h
end
theorem w64 {i : Nat} (h : i < 1000000000000) : wrap64 ((i : Int) + 1) = ((i + 1 : Nat) : Int) := by unfold wrap64; omega
mutual
def szS : S25 → Nat
 | ⟨_, _, _, l⟩ => szL l + 1
def szL : List S25 → Nat
 | [] => 0
 | x :: r => szS x + szL r
end
mutual
def ofS : S25 → S41
 | ⟨a, b, c, l⟩ => ⟨a, b, c, ofL l⟩
def ofL : List S25 → List S41
 | [] => []
 | x :: r => ofS x :: ofL r
end
theorem S25_eta (v : S25) : (⟨v.f0, v.f1, v.f2, v.f3⟩ : S25) = v := by cases v; rfl
theorem szS_eq (v : S25) : szS v = szL v.f3 + 1 := by cases v; simp [szS]
theorem ofS_eq (v : S25) : ofS v = ⟨v.f0, v.f1, v.f2, ofL v.f3⟩ := by cases v; simp [ofS]
theorem ofL_map (l : List S25) : ofL l = l.map ofS := by
 induction l with
 | nil => simp [ofL]
 | cons x r ih => simp [ofL, ih]
theorem szL_mem {x : S25} {l : List S25} (h : x ∈ l) : szS x ≤ szL l := by
 induction l with
 | nil => cases h
 | cons y r ih =>
  simp only [szL]
  rcases List.mem_cons.1 h with rfl | h
  ·omega
  ·have := ih h; omega
theorem rd25 {l : List S25} {i : Nat} (h : i < l.length) : rd_T25 l (i : Int) = l[i] := by
 unfold rd_T25
 rw [Int.toNat_natCast, List.getD_eq_getElem?_getD, List.getElem?_eq_getElem h]
 rfl
theorem rd41 {l : List S41} {i : Nat} (h : i < l.length) : rd_T41 l (i : Int) = l[i] := by
 unfold rd_T41
 rw [Int.toNat_natCast, List.getD_eq_getElem?_getD, List.getElem?_eq_getElem h]
 rfl
theorem rdB {l : List ByteArray} {i : Nat} (h : i < l.length) : rdOf ByteArray.empty l (i : Int) = l[i] := by
 unfold rdOf
 rw [Int.toNat_natCast, List.getD_eq_getElem?_getD, List.getElem?_eq_getElem h]
 rfl
inductive Light : S25 → Prop where
 | mk {v : S25} (h3 : v.f3.length ≤ 3000) (h2 : v.f2.length ≤ 3000) (h1 : v.f1.size ≤ 3000) (hk : ∀ (i : Nat) (h : i < v.f2.length), (v.f2[i]).size ≤ 3000) (hl : ∀ x ∈ v.f3, Light x) : Light v
theorem Light.out {v : S25} (h : Light v) : v.f3.length ≤ 3000 ∧ v.f2.length ≤ 3000 ∧ v.f1.size ≤ 3000 ∧ (∀ (i : Nat) (h : i < v.f2.length), (v.f2[i]).size ≤ 3000) ∧ ∀ x ∈ v.f3, Light x := by
 cases h with
 | mk h3 h2 h1 hk hl => exact ⟨h3, h2, h1, hk, hl⟩
theorem light_l1 {n : Nat} (ih : ∀ v d, szS v ≤ n → 0 ≤ d → d ≤ 91 → ∃ b, Ev (fun k => whetstonelaw04_light.f k v.f0 v.f1 v.f2 v.f3 d) b ∧ (b = true → Light v)) {v : S25} {d : Int} (hn : szL v.f3 ≤ n) (hd0 : 0 ≤ d) (hd1 : d ≤ 90) (h3 : v.f3.length ≤ 100) :
  ∀ m i : Nat, v.f3.length - i = m → i ≤ v.f3.length → ∃ b, Ev (fun k => whetstonelaw04_light.l1 k d (i : Int) v.f0 v.f1 v.f2 v.f3) b ∧ (b = true → ∀ j, i ≤ j → (h : j < v.f3.length) → Light v.f3[j]) := by
 intro m
 induction m with
 | zero =>
  intro i hm hi
  refine ⟨true, Ev.step (fun k => rfl) ?_, fun _ j h1 h2 => by omega⟩
  simp only [whetstonelaw04_light.l1]
  exact Evneg (by omega) (Ev.now _)
 | succ m im =>
  intro i hm hi
  have hlt : i < v.f3.length := by omega
  obtain ⟨b, hb, hL⟩ := ih v.f3[i] (d + 1) (Nat.le_trans (szL_mem (List.getElem_mem hlt)) hn) (by omega) (by omega)
  have hw : wrap64 (d + 1) = d + 1 := by unfold wrap64; omega
  cases b with
  | false =>
   refine ⟨false, Ev.step (fun k => rfl) ?_, fun h => by cases h⟩
   simp only [whetstonelaw04_light.l1, rd25 hlt, hw]
   exact Evpos (by omega) (Evpos (by omega) (Ev.bind hb (Evneg (by simp) (Ev.now _))))
  | true =>
   obtain ⟨b2, hb2, hL2⟩ := im (i + 1) (by omega) (by omega)
   refine ⟨b2, Ev.step (fun k => rfl) ?_, fun h j h1 h2 => ?_⟩
   ·simp only [whetstonelaw04_light.l1, rd25 hlt, hw]
    refine Evpos (by omega) (Evpos (by omega) (Ev.bind hb (Evpos rfl ?_)))
    rw [w64 (by omega)]
    exact hb2
   ·by_cases hj : j = i
    ·subst hj; exact hL rfl
    ·exact hL2 h j (by omega) h2
theorem light_l0 {v : S25} {d : Int} {b1 : Bool} (h1 : Ev (fun k => whetstonelaw04_light.l1 k d 0 v.f0 v.f1 v.f2 v.f3) b1) (h2 : v.f2.length ≤ 100) :
  ∀ m i : Nat, v.f2.length - i = m → i ≤ v.f2.length → ∃ b, Ev (fun k => whetstonelaw04_light.l0 k d (i : Int) v.f0 v.f1 v.f2 v.f3) b ∧ (b = true → b1 = true ∧ ∀ j, i ≤ j → (h : j < v.f2.length) → (v.f2[j]).size ≤ 200) := by
 intro m
 induction m with
 | zero =>
  intro i hm hi
  refine ⟨b1, Ev.step (fun k => rfl) ?_, fun h => ⟨h, fun j h1 h2 => by omega⟩⟩
  simp only [whetstonelaw04_light.l0]
  exact Evneg (by omega) h1
 | succ m im =>
  intro i hm hi
  have hlt : i < v.f2.length := by omega
  by_cases hs : ((v.f2[i]).size : Int) > 200
  ·refine ⟨false, Ev.step (fun k => rfl) ?_, fun h => by cases h⟩
   simp only [whetstonelaw04_light.l0, rdB hlt]
   exact Evpos (by omega) (Evpos (by omega) (Evpos hs (Ev.now _)))
  ·obtain ⟨b2, hb2, hL2⟩ := im (i + 1) (by omega) (by omega)
   refine ⟨b2, Ev.step (fun k => rfl) ?_, fun h => ⟨(hL2 h).1, fun j h1 h2 => ?_⟩⟩
   ·simp only [whetstonelaw04_light.l0, rdB hlt]
    refine Evpos (by omega) (Evpos (by omega) (Evneg hs ?_))
    rw [w64 (by omega)]
    exact hb2
   ·by_cases hj : j = i
    ·subst hj; omega
    ·exact (hL2 h).2 j (by omega) h2
theorem light_val : ∀ n v d, szS v ≤ n → 0 ≤ d → d ≤ 91 → ∃ b, Ev (fun k => whetstonelaw04_light.f k v.f0 v.f1 v.f2 v.f3 d) b ∧ (b = true → Light v) := by
 intro n
 induction n with
 | zero => intro v d h; rw [szS_eq] at h; omega
 | succ n ih =>
  intro v d h hd0 hd1
  rw [szS_eq] at h
  have no : Ev (fun k => whetstonelaw04_light.j0 k d true v.f0 v.f1 v.f2 v.f3) false := Ev.step (fun k => rfl) (by simp only [whetstonelaw04_light.j0]; exact Evpos (by trivial) (Ev.now _))
  by_cases h3 : (v.f3.length : Int) > 100
  ·exact ⟨false, Ev.step (fun k => rfl) (by simp only [whetstonelaw04_light.f]; exact Evpos h3 no), fun h => by cases h⟩
  by_cases h2 : (v.f2.length : Int) > 100
  ·exact ⟨false, Ev.step (fun k => rfl) (by simp only [whetstonelaw04_light.f]; exact Evneg h3 (Evpos h2 no)), fun h => by cases h⟩
  by_cases h1 : (v.f1.size : Int) > 1000
  ·exact ⟨false, Ev.step (fun k => rfl) (by simp only [whetstonelaw04_light.f]; exact Evneg h3 (Evneg h2 (Evpos h1 no))), fun h => by cases h⟩
  by_cases hd : d > 90
  ·refine ⟨false, Ev.step (fun k => rfl) ?_, fun h => by cases h⟩
   simp only [whetstonelaw04_light.f, hd, decide_true]
   exact Evneg h3 (Evneg h2 (Evneg h1 no))
  obtain ⟨b1, hb1, hL1⟩ := light_l1 ih (v := v) (d := d) (by omega) hd0 (by omega) (by omega) _ 0 rfl (by omega)
  obtain ⟨b0, hb0, hL0⟩ := light_l0 hb1 (by omega) _ 0 rfl (by omega)
  refine ⟨b0, Ev.step (fun k => rfl) ?_, fun h => ?_⟩
  ·simp only [whetstonelaw04_light.f, hd, decide_false]
   refine Evneg h3 (Evneg h2 (Evneg h1 (Ev.step (fun k => rfl) ?_)))
   simp only [whetstonelaw04_light.j0]
   exact Evneg (by simp) hb0
  ·obtain ⟨e1, e2⟩ := hL0 h
   refine Light.mk (by omega) (by omega) (by omega) (fun i hi => Nat.le_trans (e2 i (by omega) hi) (by omega)) fun x hx => ?_
   obtain ⟨j, hj, rfl⟩ := List.mem_iff_getElem.1 hx
   exact hL1 e1 j (by omega) hj
theorem of_l0 {n : Nat} (ih : ∀ v, szS v ≤ n → Light v → Ev (fun k => whetstonelaw04_of.f k v.f0 v.f1 v.f2 v.f3) (v.f0, v.f1, v.f2, ofL v.f3)) {v : S25} (hn : szL v.f3 ≤ n) (hL : Light v) {a : Int} {b : ByteArray} {c : List ByteArray} :
  ∀ m i : Nat, v.f3.length - i = m → i ≤ v.f3.length → Ev (fun k => whetstonelaw04_of.l0 k (i : Int) v.f0 v.f1 v.f2 v.f3 a b c (ofL (v.f3.take i))) (a, b, c, ofL v.f3) := by
 obtain ⟨h3, _, _, _, hl⟩ := hL.out
 intro m
 induction m with
 | zero =>
  intro i hm hi
  refine Ev.step (fun k => rfl) ?_
  simp only [whetstonelaw04_of.l0]
  rw [List.take_of_length_le (by omega)]
  exact Evneg (by omega) (Ev.now _)
 | succ m im =>
  intro i hm hi
  have hlt : i < v.f3.length := by omega
  have hb := ih v.f3[i] (Nat.le_trans (szL_mem (List.getElem_mem hlt)) hn) (hl _ (List.getElem_mem hlt))
  refine Ev.step (fun k => rfl) ?_
  simp only [whetstonelaw04_of.l0, rd25 hlt]
  refine Evpos (by omega) (Evpos (by omega) (Ev.bind hb (Evpos (by rw [ofL_map, List.length_map, List.length_take]; omega) ?_)))
  rw [w64 (by omega)]
  have := im (i + 1) (by omega) (by omega)
  rw [List.take_succ_eq_append_getElem hlt, ofL_map, List.map_append, ← ofL_map, List.map_cons, List.map_nil, ofS_eq] at this
  exact this
theorem of_val : ∀ n v, szS v ≤ n → Light v → Ev (fun k => whetstonelaw04_of.f k v.f0 v.f1 v.f2 v.f3) (v.f0, v.f1, v.f2, ofL v.f3) := by
 intro n
 induction n with
 | zero => intro v h; rw [szS_eq] at h; omega
 | succ n ih =>
  intro v h hL
  rw [szS_eq] at h
  refine Ev.step (fun k => rfl) ?_
  simp only [whetstonelaw04_of.f]
  exact of_l0 ih (by omega) hL _ 0 rfl (by omega)
theorem count_l0 {n : Nat} (ih : ∀ v, szS v ≤ n → Light v → ∃ r, Ev (fun k => whetstoneref04_Count.f k v.f0 v.f1 v.f2 (ofL v.f3)) r) {v : S25} (hn : szL v.f3 ≤ n) (hL : Light v) :
  ∀ m i : Nat, ∀ x y : Int, v.f3.length - i = m → i ≤ v.f3.length → ∃ r, Ev (fun k => whetstoneref04_Count.l0 k x y (i : Int) v.f0 v.f1 v.f2 (ofL v.f3)) r := by
 obtain ⟨h3, _, _, _, hl⟩ := hL.out
 have hll : (ofL v.f3).length = v.f3.length := by rw [ofL_map, List.length_map]
 intro m
 induction m with
 | zero =>
  intro i x y hm hi
  refine ⟨(x, wrap64 (y + 1)), Ev.step (fun k => rfl) ?_⟩
  simp only [whetstoneref04_Count.l0]
  exact Evneg (by omega) (Ev.now _)
 | succ m im =>
  intro i x y hm hi
  have hlt : i < v.f3.length := by omega
  obtain ⟨⟨r1, r2⟩, hb⟩ := ih v.f3[i] (Nat.le_trans (szL_mem (List.getElem_mem hlt)) hn) (hl _ (List.getElem_mem hlt))
  have hr : rd_T41 (ofL v.f3) (i : Int) = ⟨v.f3[i].f0, v.f3[i].f1, v.f3[i].f2, ofL v.f3[i].f3⟩ := by
   rw [rd41 (by omega), ← ofS_eq]
   simp only [ofL_map, List.getElem_map]
  by_cases hc : r2 > y
  ·obtain ⟨r, hr2⟩ := im (i + 1) (wrap64 (x + r1)) r2 (by omega) (by omega)
   refine ⟨r, Ev.step (fun k => rfl) ?_⟩
   simp only [whetstoneref04_Count.l0, hr]
   refine Evpos (by omega) (Evpos (by omega) (Ev.bind hb (Evpos hc ?_)))
   rw [w64 (by omega)]
   exact hr2
  ·obtain ⟨r, hr2⟩ := im (i + 1) (wrap64 (x + r1)) y (by omega) (by omega)
   refine ⟨r, Ev.step (fun k => rfl) ?_⟩
   simp only [whetstoneref04_Count.l0, hr]
   refine Evpos (by omega) (Evpos (by omega) (Ev.bind hb (Evneg hc ?_)))
   rw [w64 (by omega)]
   exact hr2
theorem count_val : ∀ n v, szS v ≤ n → Light v → ∃ r, Ev (fun k => whetstoneref04_Count.f k v.f0 v.f1 v.f2 (ofL v.f3)) r := by
 intro n
 induction n with
 | zero => intro v h; rw [szS_eq] at h; omega
 | succ n ih =>
  intro v h hL
  rw [szS_eq] at h
  obtain ⟨r, hr⟩ := count_l0 ih (v := v) (by omega) hL _ 0 1 0 rfl (by omega)
  refine ⟨r, Ev.step (fun k => rfl) ?_⟩
  simp only [whetstoneref04_Count.f]
  exact hr
theorem few_val (v : S25) : ∃ b, Ev (fun k => whetstonelaw04_few.f k v.f0 v.f1 v.f2 v.f3) b ∧ (b = true → Light v) := by
 obtain ⟨b, hb, hL⟩ := light_val _ v 0 (Nat.le_refl _) (by omega) (by omega)
 cases b with
 | false => exact ⟨false, Ev.bind hb (Evneg (by simp) (Ev.now _)), fun h => by cases h⟩
 | true =>
  have hL' := hL rfl
  obtain ⟨r, hr⟩ := count_val _ v (Nat.le_refl _) hL'
  exact ⟨_, Ev.bind hb (Evpos rfl (Ev.bind (of_val _ v (Nat.le_refl _) hL') (Ev.bind hr (Ev.now _)))), fun _ => hL'⟩
end Go.Proofs.Yteighppcdpaekaa.Eq4
end
section
namespace Go.Proofs.Yteighppcdpaekaa.P
open Go.RowKit Go.Proofs.YteighppcdpaekaaW.PrintWords Go.Proofs.Yteighppcdpaekaa Go.Proofs.Yteighppcdpaekaa.Eq4
open Go.ChangeShapes Go.WideShapes
theorem bulk_list {H : Type} : ∀ (l : List S25) (ds : List (DataW H)) (h : l.length = ds.length), (∀ i (hi : i < l.length), szS l[i] ≤ Rows.uptoBulk (ds[i]'(by omega))) → szL l ≤ Rows.uptoBulkAll ds := by
 intro l
 induction l with
 | nil => intro ds _ _; simp [szL]
 | cons a r ih =>
  intro ds h hs
  cases ds with
  | nil => simp at h
  | cons d e =>
   simp only [szL, Rows.uptoBulkAll]
   have h0 := hs 0 (by simp)
   have h1 := ih e (by simpa using h) (fun i hi => by have := hs (i + 1) (by simp; omega); simpa using this)
   simp at h0
   omega
section
variable {H : Type} {enc : TypeId × Value → H} {W : World} {sp : Nat → Bool} {held : Bool}
theorem openB25 : ∀ (fuel : Nat) (cs : List Value) (x : DataW H × List MemPlace), DataW.trod enc Try.prog W 0 sp held fuel 25 cs = some x → ∃ v : S25, k25.K W v cs ∧ szS v ≤ Rows.uptoBulk x.1 := by
 intro fuel
 induction fuel using Nat.strongRecOn with
 | _ fuel ih =>
  intro cs x h
  obtain ⟨xs, n, hn, rfl, hl, hlen, hf⟩ := DataW.trod_struct Try.underlying25 h
  rw [cells_25] at hl
  obtain ⟨a, b, c, d, rfl⟩ : ∃ a b c d, cs = [a, b, c, d] := by
   match cs, hl with
   | [a, b, c, d], _ => exact ⟨a, b, c, d, rfl⟩
  obtain ⟨y0, y1, y2, y3, rfl⟩ : ∃ a b c d, xs = [a, b, c, d] := by
   match xs, hlen with
   | [a, b, c, d], _ => exact ⟨a, b, c, d, rfl⟩
  have f0 : DataW.trod enc Try.prog W 0 sp held n 3 (([a, b, c, d].drop 0).take (Try.prog.cellsOf 3)) = some y0 := hf 0 _ rfl
  have f1 : DataW.trod enc Try.prog W 0 sp held n 9 (([a, b, c, d].drop 1).take (Try.prog.cellsOf 9)) = some y1 := hf 1 _ rfl
  have f2 : DataW.trod enc Try.prog W 0 sp held n 22 (([a, b, c, d].drop 2).take (Try.prog.cellsOf 22)) = some y2 := hf 2 _ rfl
  have f3 : DataW.trod enc Try.prog W 0 sp held n 23 (([a, b, c, d].drop 3).take (Try.prog.cellsOf 23)) = some y3 := hf 3 _ rfl
  rw [cells_3] at f0
  rw [cells_9] at f1
  rw [cells_22] at f2
  rw [cells_23] at f3
  obtain ⟨z, hz, _⟩ := DataW.trod_int Try.underlying3 f0
  obtain ⟨s, hs, _⟩ := DataW.trod_string Try.underlying9 f1
  obtain rfl : a = .int .i64 z := by simpa using hz
  obtain rfl : b = .string s := by simpa using hs
  have k2 : ∃ (l2 : List ByteArray) (A2 : Option Addr) (c2 : Nat), c = .slice A2 l2.length c2 ∧ l2.length ≤ c2 ∧ Kd.string.C W A2 l2.length l2 := by
   rcases open_strings Try.underlying22 Try.underlying9 cells_9 f2 with ⟨hc, _⟩ | ⟨ad, len, cap, ss, hc, _, h1, h2, h3, _, h5, _⟩
   ·obtain rfl : c = .slice none 0 0 := by simpa using hc
    exact ⟨[], none, 0, rfl, Nat.le_refl _, Kd.C_nil Kd.string W⟩
   ·obtain rfl : c = .slice (some ad) len cap := by simpa using hc
    have hss : len ≤ ss.length := by rw [h3]; split <;> omega
    have hll : (ss.take len).length = len := by rw [List.length_take]; omega
    refine ⟨ss.take len, some ad, cap, by rw [hll], by rw [hll]; exact h1, ?_⟩
    rw [hll]
    refine Kd.C_of_reads (enc := Value.string) (d := ByteArray.empty) (h1 := fun _ => rfl) ⟨hll, by unfold maxLen at h2; omega, fun _ => ⟨ad, rfl, fun j hj => ?_⟩⟩
    rw [h5 j (by omega)]
    simp only [List.getD_eq_getElem?_getD, List.getElem?_take_of_lt hj]
  have k3 : ∃ (l3 : List S25) (A3 : Option Addr) (c3 : Nat), d = .slice A3 l3.length c3 ∧ l3.length ≤ c3 ∧ k25.C W A3 l3.length l3 ∧ szL l3 ≤ Rows.uptoBulk y3.1 := by
   rcases DataW.trod_slice Try.underlying23 f3 with ⟨hc, _⟩ | ⟨ad, len, cap, elems, rest, n2, hn2, hc, hy3, _, h1, h2, h3, h4, _⟩
   ·obtain rfl : d = .slice none 0 0 := by simpa using hc
    exact ⟨[], none, 0, rfl, Nat.le_refl _, Kd.C_nil k25 W, by simp [szL]⟩
   ·obtain rfl : d = .slice (some ad) len cap := by simpa using hc
    obtain ⟨f, hff⟩ := Deep.choose_lt (α := S25) (n := len) (p := fun i v => ∃ cs, cs.length = 4 ∧ k25.K W v cs ∧ szS v ≤ Rows.uptoBulk (elems.getD i (.nil, [])).1 ∧ ∀ j u, cs[j]? = some u → W.cell? (ad.add (i * 4 + j)) = some u) (fun i hi => by
     have h5 := h4 i hi
     rw [List.getElem?_eq_getElem (by omega)] at h5
     obtain ⟨cs', h6, h7⟩ := Option.bind_eq_some_iff.1 h5
     rw [cells_25] at h6
     obtain ⟨_, h8, h9⟩ := World.cells?_some h6
     obtain ⟨v, hv, hsv⟩ := ih n2 (by omega) cs' _ h7
     refine ⟨v, cs', h8, hv, by rw [List.getD_eq_getElem?_getD, List.getElem?_eq_getElem (show i < elems.length by omega)]; exact hsv, fun j u hu => ?_⟩
     have hj : j < 4 := by have := (List.getElem?_eq_some_iff.1 hu).1; omega
     rw [← hu, ← h9 j hj, Deep.add_add])
    have hll : ((List.range len).map f).length = len := by simp
    refine ⟨(List.range len).map f, some ad, cap, by rw [hll], by rw [hll]; exact h1, ?_, ?_⟩
    rotate_left
    ·rw [hy3]
     simp only [Rows.uptoBulk]
     have := bulk_list ((List.range len).map f) (elems.map (·.1)) (by simp [h3]) (fun i hi => by
      rw [hll] at hi
      obtain ⟨_, _, _, e4, _⟩ := hff i hi
      simp only [List.getElem_map, List.getElem_range]
      rw [List.getD_eq_getElem?_getD, List.getElem?_eq_getElem (show i < elems.length by omega)] at e4
      exact e4)
     omega
    rw [hll]
    refine ⟨hll, by unfold maxLen at h2; omega, fun _ => ⟨ad, rfl, fun j p hj => ?_⟩⟩
    have hjl : j < len := by have := (List.getElem?_eq_some_iff.1 hj).1; rw [hll] at this; exact this
    obtain ⟨cs', e1, e2, _, e3⟩ := hff j hjl
    have : p = f j := by simpa [List.getElem?_range, hjl] using hj.symm
    subst this
    exact ⟨cs', e1, e2, e3⟩
  obtain ⟨l2, A2, c2, rfl, m2, g2⟩ := k2
  obtain ⟨l3, A3, c3, rfl, m3, g3, b3⟩ := k3
  refine ⟨⟨z, s, l2, l3⟩, k25_mk W ⟨z, s, l2, l3⟩ m2 g2 m3 g3, ?_⟩
  simp only [szS, List.map_cons, List.map_nil, Rows.uptoBulk, Rows.uptoBulkAll]
  omega
theorem openArgB25 {v : Value} {d : DataW H} {p : List MemPlace} (hv : Value.okWide Try.prog W .any 0 25 v) (h : DataW.Trod enc Try.prog W 0 sp held 25 v d p) :
  ∃ (s : S25) (A2 : Option Addr) (c2 : Nat) (A3 : Option Addr) (c3 : Nat), v = .agg #[.int .i64 s.f0, .string s.f1, .slice A2 s.f2.length c2, .slice A3 s.f3.length c3] ∧ s.f2.length ≤ c2 ∧ Kd.string.C W A2 s.f2.length s.f2 ∧ s.f3.length ≤ c3 ∧ k25.C W A3 s.f3.length s.f3 ∧ szS s ≤ Rows.uptoBulk d := by
 obtain ⟨cs, rfl, hsz⟩ := okWide_struct Try.underlying25 hv
 obtain ⟨fuel, hf⟩ := h
 obtain ⟨s, hs, hsb⟩ := openB25 fuel _ _ hf
 obtain ⟨A2, c2, A3, c3, he, m2, g2, m3, g3⟩ := k25_open hs
 refine ⟨s, A2, c2, A3, c3, ?_, m2, g2, m3, g3, hsb⟩
 have : cs.toList = [.int .i64 s.f0, .string s.f1, .slice A2 s.f2.length c2, .slice A3 s.f3.length c3] := by simpa [Value.cells] using he
 rw [← Array.toArray_toList (xs := cs), this]
end
end Go.Proofs.Yteighppcdpaekaa.P
end
section
namespace Go.Proofs.Yteighppcdpaekaa.Js
inductive Out (α : Type) where
 | ok (v : α) (p : Nat)
 | no (p : Nat) (e : Nat)
 deriving DecidableEq
def isBlank (c : Int) : Bool := c == 32 || c == 9 || c == 10 || c == 13
def isDigit (c : Int) : Bool := decide (48 ≤ c) && decide (c ≤ 57)
def blankLen : List Int → Nat
 | c :: r => if isBlank c then blankLen r + 1 else 0
 | [] => 0
def digitLen : List Int → Nat
 | c :: r => if isDigit c then digitLen r + 1 else 0
 | [] => 0
def blank (b : List Int) (p : Nat) : Nat := p + blankLen (b.drop p)
def next (b : List Int) (p : Nat) (c : Int) : Bool := b[p]? == some c
def word (b : List Int) : List Int → Nat → Out Unit
 | [], p => .ok () p
 | c :: r, p => match b[p]? with
  | none => .no p 11
  | some x => if x == c then word b r (p + 1) else .no p 6
def digits (b : List Int) (p : Nat) : Out Unit :=
 match b[p]? with
 | none => .no p 11
 | some c => if isDigit c then .ok () (p + digitLen (b.drop p)) else .no p 6
def numSign (b : List Int) (q : Nat) : Out Unit := digits b (if next b q 43 || next b q 45 then q + 1 else q)
def numExp (b : List Int) (q : Nat) : Out Unit := if next b q 101 || next b q 69 then numSign b (q + 1) else .ok () q
def numFrac (b : List Int) (q : Nat) : Out Unit :=
 if next b q 46 then match digits b (q + 1) with
  | .no x e => .no x e
  | .ok _ r => numExp b r
 else numExp b q
def numInt (b : List Int) (q : Nat) : Out Unit :=
 match b[q]? with
 | none => .no q 11
 | some c =>
  if c == 48 then numFrac b (q + 1)
  else match digits b q with
   | .no x e => .no x e
   | .ok _ r => numFrac b r
def number (b : List Int) (p : Nat) : Out Unit := numInt b (if next b p 45 then p + 1 else p)
def hexDigit (c : Int) : Option Int :=
 if 48 ≤ c ∧ c ≤ 57 then some (c - 48)
 else if 97 ≤ c ∧ c ≤ 102 then some (c - 87)
 else if 65 ≤ c ∧ c ≤ 70 then some (c - 55)
 else none
def hexTo (b : List Int) : Nat → Int → Nat → Out Int
 | 0, n, p => .ok n p
 | k + 1, n, p => match b[p]? with
  | none => .no p 11
  | some c => match hexDigit c with
   | none => .no p 6
   | some d => hexTo b k (n * 16 + d) (p + 1)
def hex (b : List Int) (p : Nat) : Out Int := hexTo b 4 0 p
def encode (r : Int) : Option (List Int) :=
 if r < 0 ∨ r > 0x10FFFF ∨ (0xD800 ≤ r ∧ r ≤ 0xDFFF) then none
 else if r < 0x80 then some [r]
 else if r < 0x800 then some [192 + r / 64, 128 + r % 64]
 else if r < 0x10000 then some [224 + r / 4096, 128 + r / 64 % 64, 128 + r % 64]
 else some [240 + r / 262144, 128 + r / 4096 % 64, 128 + r / 64 % 64, 128 + r % 64]
def unit (b : List Int) (p : Nat) : Out (List Int) :=
 let done (n : Int) (q : Nat) : Out (List Int) := match encode n with
  | some l => .ok l q
  | none => .no (p - 2) 6
 match hex b p with
 | .no x e => .no x e
 | .ok n q =>
  if 0xD800 ≤ n ∧ n ≤ 0xDBFF then
   if next b q 92 then
    match b[q + 1]? with
    | none => .no (q + 1) 11
    | some c =>
     if c == 117 then
      match hex b (q + 2) with
      | .no x e => .no x e
      | .ok low q => if low < 0xDC00 ∨ low > 0xDFFF then .no (p - 2) 6 else done (0x10000 + (n - 0xD800) * 1024 + low - 0xDC00) q
     else .no (p - 2) 6
   else .no (p - 2) 6
  else done n q
def escape (b : List Int) (p : Nat) : Out (List Int) :=
 match b[p]? with
 | none => .no p 11
 | some c =>
  if c == 34 || c == 92 || c == 47 then .ok [c] (p + 1)
  else if c == 98 then .ok [8] (p + 1)
  else if c == 102 then .ok [12] (p + 1)
  else if c == 110 then .ok [10] (p + 1)
  else if c == 114 then .ok [13] (p + 1)
  else if c == 116 then .ok [9] (p + 1)
  else if c == 117 then unit b (p + 1)
  else .no p 6
def textTo (b : List Int) : Nat → List Int → Nat → Option (Out (List Int))
 | 0, _, _ => none
 | k + 1, out, p => match b[p]? with
  | none => some (.no p 11)
  | some c =>
   if c == 34 then some (.ok out (p + 1))
   else if c == 92 then match escape b (p + 1) with
    | .no x e => some (.no x e)
    | .ok l q => textTo b k (out ++ l) q
   else if c < 32 then some (.no p 6)
   else textTo b k (out ++ [c]) (p + 1)
def text (b : List Int) (k p : Nat) : Option (Out (List Int)) :=
 match b[p]? with
 | none => some (.no p 11)
 | some c => if c == 34 then textTo b k [] (p + 1) else some (.no p 6)
inductive Val where
 | mk (kind : Int) (text : List Int) (keys : List (List Int)) (list : List Val)
def comma (b : List Int) (close : Int) (p : Nat) : Out Bool :=
 let q := blank b p
 match b[q]? with
 | none => .no q 11
 | some c =>
  if c == close then .ok false (q + 1)
  else if c == 44 then .ok true (blank b (q + 1))
  else .no q 6
def enter (b : List Int) (d p : Nat) : Out Unit := if d + 1 > 64 then .no p 13 else .ok () (blank b (p + 1))
mutual
def value (b : List Int) : Nat → Nat → Nat → Option (Out Val)
 | 0, _, _ => none
 | k + 1, d, p => match b[p]? with
  | none => some (.no p 11)
  | some c =>
   if c == 123 then match enter b d p with
    | .no x e => some (.no x e)
    | .ok _ q => match b[q]? with
     | none => some (.no q 11)
     | some c => if c == 125 then some (.ok (.mk 6 [] [] []) (q + 1)) else pairs b k (d + 1) [] [] q
   else if c == 91 then match enter b d p with
    | .no x e => some (.no x e)
    | .ok _ q => match b[q]? with
     | none => some (.no q 11)
     | some c => if c == 93 then some (.ok (.mk 5 [] [] []) (q + 1)) else items b k (d + 1) [] q
   else if c == 34 then (text b k p).map fun
    | .no x e => .no x e
    | .ok l q => .ok (.mk 4 l [] []) q
   else if c == 116 then some (match word b [116, 114, 117, 101] p with
    | .no x e => .no x e
    | .ok _ q => .ok (.mk 2 [] [] []) q)
   else if c == 102 then some (match word b [102, 97, 108, 115, 101] p with
    | .no x e => .no x e
    | .ok _ q => .ok (.mk 1 [] [] []) q)
   else if c == 110 then some (match word b [110, 117, 108, 108] p with
    | .no x e => .no x e
    | .ok _ q => .ok (.mk 0 [] [] []) q)
   else some (match number b p with
    | .no x e => .no x e
    | .ok _ q => .ok (.mk 3 ((b.take q).drop p) [] []) q)
def items (b : List Int) : Nat → Nat → List Val → Nat → Option (Out Val)
 | 0, _, _, _ => none
 | k + 1, d, l, p => match value b k d p with
  | none => none
  | some (.no x e) => some (.no x e)
  | some (.ok v q) => match comma b 93 q with
   | .no x e => some (.no x e)
   | .ok true q => items b k d (l ++ [v]) q
   | .ok false q => some (.ok (.mk 5 [] [] (l ++ [v])) q)
def pairs (b : List Int) : Nat → Nat → List (List Int) → List Val → Nat → Option (Out Val)
 | 0, _, _, _, _ => none
 | k + 1, d, ks, l, p => match text b k p with
  | none => none
  | some (.no x e) => some (.no x e)
  | some (.ok key q) =>
   if ks.contains key then some (.no p 23)
   else
    let q := blank b q
    match b[q]? with
    | none => some (.no q 11)
    | some c =>
     if c == 58 then match value b k d (blank b (q + 1)) with
      | none => none
      | some (.no x e) => some (.no x e)
      | some (.ok v q) => match comma b 125 q with
       | .no x e => some (.no x e)
       | .ok true q => pairs b k d (ks ++ [key]) (l ++ [v]) q
       | .ok false q => some (.ok (.mk 6 [] (ks ++ [key]) (l ++ [v])) q)
     else some (.no q 6)
end
def arr (b : List Int) (k d p : Nat) : Option (Out Val) :=
 match enter b d p with
 | .no x e => some (.no x e)
 | .ok _ q => match b[q]? with
  | none => some (.no q 11)
  | some c => if c == 93 then some (.ok (.mk 5 [] [] []) (q + 1)) else items b k (d + 1) [] q
def obj (b : List Int) (k d p : Nat) : Option (Out Val) :=
 match enter b d p with
 | .no x e => some (.no x e)
 | .ok _ q => match b[q]? with
  | none => some (.no q 11)
  | some c => if c == 125 then some (.ok (.mk 6 [] [] []) (q + 1)) else pairs b k (d + 1) [] [] q
def strV : Out (List Int) → Out Val
 | .no x e => .no x e
 | .ok l q => .ok (.mk 4 l [] []) q
def wordV (kind : Int) : Out Unit → Out Val
 | .no x e => .no x e
 | .ok _ q => .ok (.mk kind [] [] []) q
def numV (b : List Int) (p : Nat) : Out Unit → Out Val
 | .no x e => .no x e
 | .ok _ q => .ok (.mk 3 ((b.take q).drop p) [] []) q
theorem value_succ (b : List Int) (k d p : Nat) : value b (k + 1) d p = match b[p]? with
  | none => some (.no p 11)
  | some c =>
   if c == 123 then obj b k d p
   else if c == 91 then arr b k d p
   else if c == 34 then (text b k p).map strV
   else if c == 116 then some (wordV 2 (word b [116, 114, 117, 101] p))
   else if c == 102 then some (wordV 1 (word b [102, 97, 108, 115, 101] p))
   else if c == 110 then some (wordV 0 (word b [110, 117, 108, 108] p))
   else some (numV b p (number b p)) := by rw [value]; rfl
theorem drop_some {b : List Int} {p : Nat} {x : Int} (h : b[p]? = some x) : b.drop p = x :: b.drop (p + 1) := by
 obtain ⟨hl, hx⟩ := List.getElem?_eq_some_iff.1 h
 rw [← hx, List.drop_eq_getElem_cons hl]
theorem drop_none {b : List Int} {p : Nat} (h : b[p]? = none) : b.drop p = [] := List.drop_eq_nil_of_le (by simpa using h)
theorem blank_step {b : List Int} {p : Nat} {x : Int} (h : b[p]? = some x) (hx : isBlank x = true) : blankLen (b.drop p) = blankLen (b.drop (p + 1)) + 1 := by rw [drop_some h]; simp [blankLen, hx]
theorem blank_stop {b : List Int} {p : Nat} {x : Int} (h : b[p]? = some x) (hx : isBlank x = false) : blankLen (b.drop p) = 0 := by rw [drop_some h]; simp [blankLen, hx]
theorem blank_end {b : List Int} {p : Nat} (h : b[p]? = none) : blankLen (b.drop p) = 0 := by rw [drop_none h]; rfl
theorem digit_step {b : List Int} {p : Nat} {x : Int} (h : b[p]? = some x) (hx : isDigit x = true) : digitLen (b.drop p) = digitLen (b.drop (p + 1)) + 1 := by rw [drop_some h]; simp [digitLen, hx]
theorem digit_stop {b : List Int} {p : Nat} {x : Int} (h : b[p]? = some x) (hx : isDigit x = false) : digitLen (b.drop p) = 0 := by rw [drop_some h]; simp [digitLen, hx]
theorem digit_end {b : List Int} {p : Nat} (h : b[p]? = none) : digitLen (b.drop p) = 0 := by rw [drop_none h]; rfl
theorem digitLen_le (l : List Int) : digitLen l ≤ l.length := by
 induction l with
 | nil => simp [digitLen]
 | cons c r ih => simp only [digitLen]; split <;> simp <;> omega
theorem blankLen_le (l : List Int) : blankLen l ≤ l.length := by
 induction l with
 | nil => simp [blankLen]
 | cons c r ih => simp only [blankLen]; split <;> simp <;> omega
theorem digits_le {b : List Int} {p q : Nat} (h : digits b p = .ok () q) : p < q ∧ q ≤ b.length := by
 unfold digits at h
 cases hx : b[p]? with
 | none => simp [hx] at h
 | some c =>
  have hp : p < b.length := (List.getElem?_eq_some_iff.1 hx).1
  simp only [hx] at h
  split at h
  ·rename_i hd
   have h1 := digit_step hx hd
   have h2 := digitLen_le (b.drop (p + 1))
   simp at h h2
   omega
  ·cases h
theorem next_lt {b : List Int} {p : Nat} {c : Int} (h : next b p c = true) : p < b.length := by
 unfold next at h
 cases hx : b[p]? with
 | none => simp [hx] at h
 | some x => exact (List.getElem?_eq_some_iff.1 hx).1
theorem numSign_le {b : List Int} {p q : Nat} (h : numSign b p = .ok () q) : p < q ∧ q ≤ b.length := by
 unfold numSign at h
 have := digits_le h
 split at this <;> omega
theorem numExp_le {b : List Int} {p q : Nat} (hp : p ≤ b.length) (h : numExp b p = .ok () q) : p ≤ q ∧ q ≤ b.length := by
 unfold numExp at h
 split at h
 ·have := numSign_le h; omega
 ·simp at h; omega
theorem numFrac_le {b : List Int} {p q : Nat} (hp : p ≤ b.length) (h : numFrac b p = .ok () q) : p ≤ q ∧ q ≤ b.length := by
 unfold numFrac at h
 split at h
 ·cases hd : digits b (p + 1) with
  | no x e => simp [hd] at h
  | ok u r =>
   simp only [hd] at h
   have h1 := digits_le hd
   have h2 := numExp_le (by omega) h
   omega
 ·exact numExp_le hp h
theorem numInt_le {b : List Int} {p q : Nat} (h : numInt b p = .ok () q) : p ≤ q ∧ q ≤ b.length := by
 unfold numInt at h
 cases hx : b[p]? with
 | none => simp [hx] at h
 | some c =>
  have hp : p < b.length := (List.getElem?_eq_some_iff.1 hx).1
  simp only [hx] at h
  split at h
  ·have := numFrac_le (by omega) h; omega
  ·cases hd : digits b p with
   | no x e => simp [hd] at h
   | ok u r =>
    simp only [hd] at h
    have h1 := digits_le hd
    have h2 := numFrac_le (by omega) h
    omega
theorem number_le {b : List Int} {p q : Nat} (h : number b p = .ok () q) : p ≤ q ∧ q ≤ b.length := by
 unfold number at h
 have := numInt_le h
 split at this <;> omega
theorem hexTo_le {b : List Int} {k p q : Nat} {n v : Int} (h : hexTo b k n p = .ok v q) : q = p + k ∧ (k = 0 ∨ q ≤ b.length) := by
 induction k generalizing n p with
 | zero => simp [hexTo] at h; omega
 | succ k ih =>
  simp only [hexTo] at h
  cases hx : b[p]? with
  | none => simp [hx] at h
  | some c =>
   have hp : p < b.length := (List.getElem?_eq_some_iff.1 hx).1
   simp only [hx] at h
   cases hd : hexDigit c with
   | none => simp [hd] at h
   | some d =>
    simp only [hd] at h
    have := ih h
    omega
theorem hex_le {b : List Int} {p q : Nat} {v : Int} (h : hex b p = .ok v q) : q = p + 4 ∧ q ≤ b.length := by
 have := hexTo_le h
 omega
theorem unit_le {b : List Int} {p q : Nat} {l : List Int} (h : unit b p = .ok l q) : p < q ∧ q ≤ b.length := by
 unfold unit at h
 cases he : hex b p with
 | no x e => simp [he] at h
 | ok n r =>
  have h1 := hex_le he
  simp only [he] at h
  split at h
  ·split at h
   ·cases hx : b[r + 1]? with
    | none => simp [hx] at h
    | some c =>
     simp only [hx] at h
     split at h
     ·cases he2 : hex b (r + 2) with
      | no x e => simp [he2] at h
      | ok low s =>
       have h2 := hex_le he2
       simp only [he2] at h
       split at h
       ·cases h
       ·split at h
        ·simp at h; omega
        ·cases h
     ·cases h
   ·cases h
  ·split at h
   ·simp at h; omega
   ·cases h
theorem escape_le {b : List Int} {p q : Nat} {l : List Int} (h : escape b p = .ok l q) : p < q ∧ q ≤ b.length := by
 unfold escape at h
 cases hx : b[p]? with
 | none => simp [hx] at h
 | some c =>
  have hp : p < b.length := (List.getElem?_eq_some_iff.1 hx).1
  simp only [hx] at h
  repeat' split at h
  all_goals first
   | (have := unit_le h; omega)
   | (simp at h; omega)
   | cases h
theorem blank_le {b : List Int} {p : Nat} (h : p ≤ b.length) : p ≤ blank b p ∧ blank b p ≤ b.length := by
 unfold blank
 have := blankLen_le (b.drop p)
 simp at this
 omega
theorem comma_le {b : List Int} {cl : Int} {p q : Nat} {t : Bool} (hp : p ≤ b.length) (h : comma b cl p = .ok t q) : p < q ∧ q ≤ b.length := by
 unfold comma at h
 have h1 := blank_le hp
 simp only at h
 cases hx : b[blank b p]? with
 | none => simp [hx] at h
 | some c =>
  have hl : blank b p < b.length := (List.getElem?_eq_some_iff.1 hx).1
  simp only [hx] at h
  split at h
  ·simp at h; omega
  ·split at h
   ·have h2 := blank_le (b := b) (p := blank b p + 1) (by omega)
    simp at h; omega
   ·cases h
theorem word_le {b l : List Int} {p q : Nat} {u : Unit} (h : word b l p = .ok u q) : q = p + l.length ∧ (l = [] ∨ q ≤ b.length) := by
 induction l generalizing p with
 | nil => simp [word] at h; simp [h]
 | cons c r ih =>
  simp only [word] at h
  cases hx : b[p]? with
  | none => simp [hx] at h
  | some x =>
   have hl : p < b.length := (List.getElem?_eq_some_iff.1 hx).1
   simp only [hx] at h
   split at h
   ·have := ih h
    rw [List.length_cons]
    refine ⟨by omega, .inr ?_⟩
    rcases this with ⟨h1, h3 | h2⟩
    ·rw [h3, List.length_nil] at h1; omega
    ·omega
   ·cases h
theorem textTo_le {b : List Int} {k p q : Nat} {out l : List Int} (hp : p ≤ b.length) (h : textTo b k out p = some (.ok l q)) : p < q ∧ q ≤ b.length := by
 induction k generalizing out p with
 | zero => simp [textTo] at h
 | succ k ih =>
  simp only [textTo] at h
  cases hx : b[p]? with
  | none => simp [hx] at h
  | some c =>
   have hl : p < b.length := (List.getElem?_eq_some_iff.1 hx).1
   simp only [hx] at h
   split at h
   ·simp at h; omega
   ·split at h
    ·cases he : escape b (p + 1) with
     | no x e => simp [he] at h
     | ok l2 r =>
      simp only [he] at h
      have h1 := escape_le he
      have h2 := ih h1.2 h
      omega
    ·split at h
     ·cases h
     ·have h2 := ih (by omega) h
      omega
theorem text_le {b : List Int} {k p q : Nat} {l : List Int} (h : text b k p = some (.ok l q)) : p < q ∧ q ≤ b.length := by
 unfold text at h
 cases hx : b[p]? with
 | none => simp [hx] at h
 | some c =>
  have hl : p < b.length := (List.getElem?_eq_some_iff.1 hx).1
  simp only [hx] at h
  split at h
  ·have := textTo_le (by omega) h; omega
  ·cases h
theorem number_lt {b : List Int} {p q : Nat} {u : Unit} (h : number b p = .ok u q) : p < q ∧ q ≤ b.length := by
 unfold number at h
 split at h
 ·have := numInt_le h; omega
 ·unfold numInt at h
  cases hx : b[p]? with
  | none => simp [hx] at h
  | some c =>
   have hl : p < b.length := (List.getElem?_eq_some_iff.1 hx).1
   simp only [hx] at h
   split at h
   ·have := numFrac_le (by omega) h; omega
   ·cases hd : digits b p with
    | no x e => simp [hd] at h
    | ok u2 r =>
     simp only [hd] at h
     have h1 := digits_le hd
     have h2 := numFrac_le (by omega) h
     omega
theorem all_le (b : List Int) (k : Nat) : (∀ d p v q, value b k d p = some (.ok v q) → p < q ∧ q ≤ b.length) ∧ (∀ d l p v q, p ≤ b.length → items b k d l p = some (.ok v q) → p < q ∧ q ≤ b.length) ∧
  (∀ d ks l p v q, p ≤ b.length → pairs b k d ks l p = some (.ok v q) → p < q ∧ q ≤ b.length) := by
 induction k with
 | zero => refine ⟨fun d p v q h => ?_, fun d l p v q _ h => ?_, fun d ks l p v q _ h => ?_⟩ <;> simp [value, items, pairs] at h
 | succ k ih =>
  obtain ⟨i1, i2, i3⟩ := ih
  refine ⟨fun d p v q h => ?_, fun d l p v q hp h => ?_, fun d ks l p v q hp h => ?_⟩
  ·rw [value_succ] at h
   cases hx : b[p]? with
   | none => simp [hx] at h
   | some c =>
    have hl : p < b.length := (List.getElem?_eq_some_iff.1 hx).1
    have hbl := blank_le (b := b) (p := p + 1) (by omega)
    simp only [hx] at h
    split at h
    ·unfold obj enter at h
     split at h
     ·rename_i he
      split at he <;> simp at h
     ·rename_i u q1 he
      split at he
      ·cases he
      ·simp at he
       subst he
       cases hy : b[blank b (p + 1)]? with
       | none => simp [hy] at h
       | some c2 =>
        have hl2 := (List.getElem?_eq_some_iff.1 hy).1
        simp only [hy] at h
        split at h
        ·simp at h; omega
        ·have := i3 _ _ _ _ _ _ (by omega) h; omega
    split at h
    ·unfold arr enter at h
     split at h
     ·rename_i he
      split at he <;> simp at h
     ·rename_i u q1 he
      split at he
      ·cases he
      ·simp at he
       subst he
       cases hy : b[blank b (p + 1)]? with
       | none => simp [hy] at h
       | some c2 =>
        have hl2 := (List.getElem?_eq_some_iff.1 hy).1
        simp only [hy] at h
        split at h
        ·simp at h; omega
        ·have := i2 _ _ _ _ _ (by omega) h; omega
    split at h
    ·cases ht : text b k p with
     | none => simp [ht] at h
     | some o =>
      cases o with
      | no x e => simp [ht, strV] at h
      | ok l r => have := text_le ht; simp [ht, strV] at h; omega
    split at h
    ·cases hw : word b [116, 114, 117, 101] p with
     | no x e => simp [hw, wordV] at h
     | ok u r => have := word_le hw; simp [hw, wordV] at h; simp at this; omega
    split at h
    ·cases hw : word b [102, 97, 108, 115, 101] p with
     | no x e => simp [hw, wordV] at h
     | ok u r => have := word_le hw; simp [hw, wordV] at h; simp at this; omega
    split at h
    ·cases hw : word b [110, 117, 108, 108] p with
     | no x e => simp [hw, wordV] at h
     | ok u r => have := word_le hw; simp [hw, wordV] at h; simp at this; omega
    ·cases hw : number b p with
     | no x e => simp [hw, numV] at h
     | ok u r => have := number_lt hw; simp [hw, numV] at h; omega
  ·simp only [items] at h
   cases hv : value b k d p with
   | none => simp [hv] at h
   | some o =>
    cases o with
    | no x e => simp [hv] at h
    | ok v1 r =>
     have h1 := i1 _ _ _ _ hv
     simp only [hv] at h
     cases hc : comma b 93 r with
     | no x e => simp [hc] at h
     | ok t s =>
      have h2 := comma_le h1.2 hc
      cases t with
      | true => simp only [hc] at h; have := i2 _ _ _ _ _ h2.2 h; omega
      | false => simp [hc] at h; omega
  ·simp only [pairs] at h
   cases ht : text b k p with
   | none => simp [ht] at h
   | some o =>
    cases o with
    | no x e => simp [ht] at h
    | ok key q1 =>
     have h0 := text_le ht
     simp only [ht] at h
     split at h
     ·cases h
     have h01 := blank_le (b := b) (p := q1) h0.2
     cases hx : b[blank b q1]? with
     | none => simp [hx] at h
     | some c =>
      have hl : blank b q1 < b.length := (List.getElem?_eq_some_iff.1 hx).1
      simp only [hx] at h
      split at h
      ·have h02 := blank_le (b := b) (p := blank b q1 + 1) (by omega)
       cases hv : value b k d (blank b (blank b q1 + 1)) with
       | none => simp [hv] at h
       | some o =>
        cases o with
        | no x e => simp [hv] at h
        | ok v1 r =>
         have h1 := i1 _ _ _ _ hv
         simp only [hv] at h
         cases hc : comma b 125 r with
         | no x e => simp [hc] at h
         | ok t s =>
          have h2 := comma_le h1.2 hc
          cases t with
          | true => simp only [hc] at h; have := i3 _ _ _ _ _ _ h2.2 h; omega
          | false => simp [hc] at h; omega
      ·cases h
theorem value_le {b : List Int} {k d p q : Nat} {v : Val} (h : value b k d p = some (.ok v q)) : p < q ∧ q ≤ b.length := (all_le b k).1 _ _ _ _ h
theorem encode_bytes {r : Int} {l : List Int} (h : encode r = some l) : (∀ x ∈ l, 0 ≤ x ∧ x ≤ 255) ∧ l.length ≤ 4 := by
 unfold encode at h
 repeat' split at h
 all_goals first
  | (cases h; done)
  | (simp at h; subst h; simp; omega)
theorem unit_enc {b : List Int} {p q : Nat} {l : List Int} (h : unit b p = .ok l q) : (∃ n, encode n = some l) ∧ p + 4 ≤ q := by
 unfold unit at h
 cases he : hex b p with
 | no x e => simp [he] at h
 | ok n r =>
  have h1 := hex_le he
  simp only [he] at h
  split at h
  ·split at h
   ·cases hx : b[r + 1]? with
    | none => simp [hx] at h
    | some c =>
     simp only [hx] at h
     split at h
     ·cases he2 : hex b (r + 2) with
      | no x e => simp [he2] at h
      | ok low s =>
       have h2 := hex_le he2
       simp only [he2] at h
       split at h
       ·cases h
       ·split at h
        ·rename_i l2 hl2
         simp at h
         exact ⟨⟨_, h.1 ▸ hl2⟩, by omega⟩
        ·cases h
     ·cases h
   ·cases h
  ·split at h
   ·rename_i l2 hl2
    simp at h
    exact ⟨⟨_, h.1 ▸ hl2⟩, by omega⟩
   ·cases h
theorem escape_bytes {b : List Int} {p q : Nat} {l : List Int} (hb : ∀ x ∈ b, 0 ≤ x ∧ x ≤ 255) (h : escape b p = .ok l q) : (∀ x ∈ l, 0 ≤ x ∧ x ≤ 255) ∧ l.length + p ≤ q := by
 unfold escape at h
 cases hx : b[p]? with
 | none => simp [hx] at h
 | some c =>
  have hc := hb c (List.mem_of_getElem? hx)
  simp only [hx] at h
  repeat' split at h
  all_goals first
   | (obtain ⟨⟨n, hn⟩, h2⟩ := unit_enc h; have h3 := encode_bytes hn; exact ⟨h3.1, by omega⟩)
   | (simp at h; obtain ⟨h1, h2⟩ := h; subst h1; subst h2; simp; try omega)
   | cases h
theorem textTo_bytes {b : List Int} {k p q : Nat} {out l : List Int} (hb : ∀ x ∈ b, 0 ≤ x ∧ x ≤ 255) (ho : ∀ x ∈ out, 0 ≤ x ∧ x ≤ 255) (h : textTo b k out p = some (.ok l q)) : (∀ x ∈ l, 0 ≤ x ∧ x ≤ 255) ∧ l.length + p ≤ out.length + q := by
 induction k generalizing out p with
 | zero => simp [textTo] at h
 | succ k ih =>
  simp only [textTo] at h
  cases hx : b[p]? with
  | none => simp [hx] at h
  | some c =>
   have hc := hb c (List.mem_of_getElem? hx)
   simp only [hx] at h
   split at h
   ·simp at h
    obtain ⟨h1, h2⟩ := h
    subst h1
    exact ⟨ho, by omega⟩
   ·split at h
    ·cases he : escape b (p + 1) with
     | no x e => simp [he] at h
     | ok l2 r =>
      simp only [he] at h
      have h1 := escape_bytes hb he
      have h2 := ih (by intro x hm; rcases List.mem_append.1 hm with hm | hm; exact ho x hm; exact h1.1 x hm) h
      rw [List.length_append] at h2
      exact ⟨h2.1, by omega⟩
    ·split at h
     ·cases h
     ·have h2 := ih (by intro x hm; rcases List.mem_append.1 hm with hm | hm; exact ho x hm; simp at hm; subst hm; exact hc) h
      rw [List.length_append] at h2
      exact ⟨h2.1, by simp at h2; omega⟩
theorem text_bytes {b : List Int} {k p q : Nat} {l : List Int} (hb : ∀ x ∈ b, 0 ≤ x ∧ x ≤ 255) (h : text b k p = some (.ok l q)) : (∀ x ∈ l, 0 ≤ x ∧ x ≤ 255) ∧ l.length + p ≤ q := by
 unfold text at h
 cases hx : b[p]? with
 | none => simp [hx] at h
 | some c =>
  simp only [hx] at h
  split at h
  ·have := textTo_bytes hb (by simp) h
   exact ⟨this.1, by have := this.2; simp at this; omega⟩
  ·cases h
theorem textTo_mono {b : List Int} {k p : Nat} {out : List Int} {o : Out (List Int)} (h : textTo b k out p = some o) : textTo b (k + 1) out p = some o := by
 induction k generalizing out p with
 | zero => simp [textTo] at h
 | succ k ih =>
  rw [textTo] at h
  rw [textTo]
  cases hx : b[p]? with
  | none => simpa [hx] using h
  | some c =>
   simp only [hx] at h ⊢
   split at h
   ·rename_i hc; rw [if_pos hc]; exact h
   ·rename_i hc
    rw [if_neg hc]
    split at h
    ·rename_i hc2
     rw [if_pos hc2]
     cases he : escape b (p + 1) with
     | no x e => simpa [he] using h
     | ok l q => simp only [he] at h ⊢; exact ih h
    ·rename_i hc2
     rw [if_neg hc2]
     split at h
     ·rename_i hc3; rw [if_pos hc3]; exact h
     ·rename_i hc3; rw [if_neg hc3]; exact ih h
theorem text_mono {b : List Int} {k p : Nat} {o : Out (List Int)} (h : text b k p = some o) : text b (k + 1) p = some o := by
 unfold text at h ⊢
 cases hx : b[p]? with
 | none => simpa [hx] using h
 | some c =>
  simp only [hx] at h ⊢
  split at h
  ·rename_i hc; rw [if_pos hc]; exact textTo_mono h
  ·rename_i hc; rw [if_neg hc]; exact h
theorem all_mono (b : List Int) (k : Nat) : (∀ d p o, value b k d p = some o → value b (k + 1) d p = some o) ∧ (∀ d l p o, items b k d l p = some o → items b (k + 1) d l p = some o) ∧
  (∀ d ks l p o, pairs b k d ks l p = some o → pairs b (k + 1) d ks l p = some o) := by
 induction k with
 | zero => refine ⟨fun d p o h => ?_, fun d l p o h => ?_, fun d ks l p o h => ?_⟩ <;> simp [value, items, pairs] at h
 | succ k ih =>
  obtain ⟨i1, i2, i3⟩ := ih
  refine ⟨fun d p o h => ?_, fun d l p o h => ?_, fun d ks l p o h => ?_⟩
  ·rw [value_succ] at h
   rw [value_succ]
   cases hx : b[p]? with
   | none => simpa [hx] using h
   | some c =>
    simp only [hx] at h ⊢
    split at h
    ·rename_i hc
     rw [if_pos hc]
     unfold obj at h ⊢
     cases he : enter b d p with
     | no x e => simpa [he] using h
     | ok u q =>
      simp only [he] at h ⊢
      cases hy : b[q]? with
      | none => simpa [hy] using h
      | some c2 =>
       simp only [hy] at h ⊢
       split at h
       ·rename_i hc2; rw [if_pos hc2]; exact h
       ·rename_i hc2; rw [if_neg hc2]; exact i3 _ _ _ _ _ h
    rename_i hc
    rw [if_neg hc]
    split at h
    ·rename_i hc
     rw [if_pos hc]
     unfold arr at h ⊢
     cases he : enter b d p with
     | no x e => simpa [he] using h
     | ok u q =>
      simp only [he] at h ⊢
      cases hy : b[q]? with
      | none => simpa [hy] using h
      | some c2 =>
       simp only [hy] at h ⊢
       split at h
       ·rename_i hc2; rw [if_pos hc2]; exact h
       ·rename_i hc2; rw [if_neg hc2]; exact i2 _ _ _ _ h
    rename_i hc
    rw [if_neg hc]
    split at h
    ·rename_i hc
     rw [if_pos hc]
     cases ht : text b k p with
     | none => simp [ht] at h
     | some ot => rw [text_mono ht]; rw [ht] at h; exact h
    ·rename_i hc
     rw [if_neg hc]
     exact h
  ·rw [items] at h
   rw [items]
   cases hv : value b k d p with
   | none => simp [hv] at h
   | some ov =>
    rw [i1 _ _ _ hv]
    rw [hv] at h
    cases ov with
    | no x e => exact h
    | ok v q =>
     simp only at h ⊢
     cases hc : comma b 93 q with
     | no x e => simpa [hc] using h
     | ok t s =>
      cases t with
      | true => simp only [hc] at h ⊢; exact i2 _ _ _ _ h
      | false => simpa [hc] using h
  ·rw [pairs] at h
   rw [pairs]
   cases ht : text b k p with
   | none => simp [ht] at h
   | some ot =>
    rw [text_mono ht]
    rw [ht] at h
    cases ot with
    | no x e => exact h
    | ok key q1 =>
     simp only at h ⊢
     split at h
     ·rename_i hc; rw [if_pos hc]; exact h
     ·rename_i hc
      rw [if_neg hc]
      cases hx : b[blank b q1]? with
      | none => simpa [hx] using h
      | some c =>
       simp only [hx] at h ⊢
       split at h
       ·rename_i hc2
        rw [if_pos hc2]
        cases hv : value b k d (blank b (blank b q1 + 1)) with
        | none => simp [hv] at h
        | some ov =>
         rw [i1 _ _ _ hv]
         rw [hv] at h
         cases ov with
         | no x e => exact h
         | ok v q =>
          simp only at h ⊢
          cases hc : comma b 125 q with
          | no x e => simpa [hc] using h
          | ok t s =>
           cases t with
           | true => simp only [hc] at h ⊢; exact i3 _ _ _ _ _ h
           | false => simpa [hc] using h
       ·rename_i hc2; rw [if_neg hc2]; exact h
theorem value_mono {b : List Int} {k d p : Nat} {o : Out Val} (h : value b k d p = some o) : value b (k + 1) d p = some o := (all_mono b k).1 _ _ _ h
end Go.Proofs.Yteighppcdpaekaa.Js
end
