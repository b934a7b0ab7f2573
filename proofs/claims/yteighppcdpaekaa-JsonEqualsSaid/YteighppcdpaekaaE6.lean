/- Walks and words of this session, put together by a program of this session (pack.py). Conditions: as each text says. -/
import Derived.Test.YteighppcdpaekaaE2
import Derived.Test.YteighppcdpaekaaE3
import Derived.Test.YteighppcdpaekaaE4
import Derived.Test.YteighppcdpaekaaE5
set_option linter.unusedVariables false
set_option linter.unusedSimpArgs false
section
namespace Go.Proofs.Yteighppcdpaekaa.P
open Go.RowKit Go.Proofs.YteighppcdpaekaaW.PrintWords Go.Proofs.YteighppcdpaekaaW.PrintLast Go.Proofs.YteighppcdpaekaaW.PrintMore
attribute [local go_sem] max2_int min2_int max_two min_two max_three min_three max_four min_four
set_option linter.unusedVariables false
set_option linter.unusedSimpArgs false
mutual
def whetstonelaw04_to.l0 : Nat → Int → Int → ByteArray → List ByteArray → List (S41) → Int → ByteArray → List ByteArray → List (S25) → Option (Int × ByteArray × List ByteArray × (List (S25)))
 | 0, _, _, _, _, _, _, _, _, _ => none
 | k + 1, x4, x218000, x218001, x218002, x218003, x220000, x220001, x220002, x220003 => if x4 < (x218003.length : Int) then (if 0 ≤ x4 then ((whetstonelaw04_to.f k ((rd_T41 x218003 x4).f0) ((rd_T41 x218003 x4).f1) ((rd_T41 x218003 x4).f2) ((rd_T41 x218003 x4).f3)).bind fun bt221 => (if x220003.length < 1954687338268 then (whetstonelaw04_to.l0 k (wrap64 (x4 + 1)) x218000 x218001 x218002 x218003 x220000 x220001 x220002 (x220003 ++ [(⟨bt221.1, bt221.2.1, bt221.2.2.1, bt221.2.2.2⟩ : S25)])) else (none))) else (none)) else (some (x220000, x220001, x220002, x220003))
def whetstonelaw04_to.f : Nat → Int → ByteArray → List ByteArray → List (S41) → Option (Int × ByteArray × List ByteArray × (List (S25)))
 | 0, _, _, _, _ => none
 | k + 1, a0_0, a0_1, l0_2, l0_3 => whetstonelaw04_to.l0 k 0 a0_0 a0_1 l0_2 l0_3 a0_0 a0_1 l0_2 ([] : List (S25))
end
theorem whetstonelaw04_to.mono_l : ∀ k, (∀ y0 y1 y2 y3, LeO (whetstonelaw04_to.f k y0 y1 y2 y3) (whetstonelaw04_to.f (k + 1) y0 y1 y2 y3)) ∧ (∀ y0 y1 y2 y3 y4 y5 y6 y7 y8, LeO (whetstonelaw04_to.l0 k y0 y1 y2 y3 y4 y5 y6 y7 y8) (whetstonelaw04_to.l0 (k + 1) y0 y1 y2 y3 y4 y5 y6 y7 y8))
 | 0 => ⟨fun _ _ _ _ r h => by simp [whetstonelaw04_to.f] at h, fun _ _ _ _ _ _ _ _ _ r h => by simp [whetstonelaw04_to.l0] at h⟩
 | k + 1 => by
  obtain ⟨ih0, ih1⟩ := whetstonelaw04_to.mono_l k
  refine ⟨?_, ?_⟩
  ·intro y0 y1 y2 y3
   unfold whetstonelaw04_to.f
   repeat' first
   | (with_reducible exact ih0 _ _ _ _)
   | (with_reducible exact ih1 _ _ _ _ _ _ _ _ _)
   | (with_reducible exact LeO.refl _)
   | (with_reducible exact LeO.none _)
   | (with_reducible refine LeO.ite ?_ ?_)
   | (with_reducible refine LeO.bind ?_ (fun _ => ?_))
   | exact ih0 _ _ _ _
   | exact ih1 _ _ _ _ _ _ _ _ _
   | exact LeO.none _
   | refine LeO.ite ?_ ?_
   | refine LeO.bind ?_ (fun _ => ?_)
  ·intro y0 y1 y2 y3 y4 y5 y6 y7 y8
   unfold whetstonelaw04_to.l0
   repeat' first
   | (with_reducible exact ih0 _ _ _ _)
   | (with_reducible exact ih1 _ _ _ _ _ _ _ _ _)
   | (with_reducible exact LeO.refl _)
   | (with_reducible exact LeO.none _)
   | (with_reducible refine LeO.ite ?_ ?_)
   | (with_reducible refine LeO.bind ?_ (fun _ => ?_))
   | exact ih0 _ _ _ _
   | exact ih1 _ _ _ _ _ _ _ _ _
   | exact LeO.none _
   | refine LeO.ite ?_ ?_
   | refine LeO.bind ?_ (fun _ => ?_)
theorem whetstonelaw04_to.mono : ∀ a0 a1 a2 a3 k, LeO (whetstonelaw04_to.f k a0 a1 a2 a3) (whetstonelaw04_to.f (k + 1) a0 a1 a2 a3) := by
 intro a0 a1 a2 a3 k
 obtain ⟨ih0, ih1⟩ := whetstonelaw04_to.mono_l k
 exact ih0 a0 a1 a2 a3
def whetstonelaw04_to.T5 : Bool × List (List Nat × List Nat) := (true, [([], []), ([0], [0]), ([], []), ([2], [2]), ([], []), ([3, 4], [3, 4]), ([5], [5]), ([6], [6]), ([7], [7]), ([1, 8, 7], [1, 8]), ([0, 1, 2, 3, 4, 5, 6, 7, 8, 9], []), ([10, 9, 9, 0, 1, 2, 3, 4, 5, 6, 7, 8, 9], [9, 10])])
def whetstonelaw04_to.B5 : List Nat := [0, 1, 0, 4, 0, 28, 60, 124, 252, 511, 1023, 2047]
theorem whetstonelaw04_to.tab5 : rtab .any (opsOf Try.f13 5) = whetstonelaw04_to.T5 := by kernel_rfl
theorem whetstonelaw04_to.bits5 : waitsOk whetstonelaw04_to.T5.2 whetstonelaw04_to.B5 = true := by kernel_rfl
set_option maxHeartbeats 8000000 in
set_option maxRecDepth 100000 in
theorem whetstonelaw04_to.calls (k : Nat) : ∀ (a0_0 : Int) (a0_1 : ByteArray) (P0_2_ : Nat → Prop) (A0_2 : Option Addr) (c0_2 : Nat) (l0_2 : List ByteArray) (P0_3_ : Nat → Prop) (A0_3 : Option Addr) (c0_3 : Nat) (l0_3 : List (S41)) (r1 : Int) (r2 : ByteArray) (r3 : List ByteArray) (r4 : List (S25)) (w : World) (hs0_2 : Kd.V Kd.string 9 w w.heap.size (fun k_ => P0_2_ k_) (.slice A0_2 l0_2.length c0_2) l0_2) (hs0_3 : Kd.V k41 41 w w.heap.size (fun k_ => P0_3_ k_) (.slice A0_3 l0_3.length c0_3) l0_3) (h : whetstonelaw04_to.f k a0_0 a0_1 l0_2 l0_3 = some (r1, r2, r3, r4)),
  Calls Try.prog 13 #[.agg #[.int .i64 a0_0, .string a0_1, .slice A0_2 l0_2.length c0_2, .slice A0_3 l0_3.length c0_3]] w fun e w' => ∃ v2_ v3_ : Value, e = .returned (.agg #[.int .i64 r1, .string r2, v2_, v3_]) ∧ Kd.V Kd.string 9 w' w.heap.size (fun k_ => ((P0_2_ k_ ∨ P0_3_ k_) ∨ w.heap.size ≤ k_) ∧ some k_ ≠ (v3_ : Value).ownBlock) v2_ r3 ∧ Kd.N k25 25 w' w.heap.size (fun k_ => ((P0_2_ k_ ∨ P0_3_ k_) ∨ w.heap.size ≤ k_)) v3_ r4 ∧ Below w.heap.size w w' := by
 induction k using Nat.strongRecOn with
 | _ k ih =>
 intro a0_0 a0_1 P0_2_ A0_2 c0_2 l0_2 P0_3_ A0_3 c0_3 l0_3 r1 r2 r3 r4 w hs0_2 hs0_3 h
 cases k with
 | zero => exact absurd h (by simp [whetstonelaw04_to.f])
 | succ k =>
 simp only [whetstonelaw04_to.f] at h
 have hu41 := Try.underlying41
 have hu25 := Try.underlying25
 have HO0_2 := Aside0.mk (show Kd.V Kd.string 9 w w.heap.size (fun k_ => ((P0_2_ k_ ∨ P0_3_ k_) ∨ w.heap.size ≤ k_)) (.slice A0_2 l0_2.length c0_2) l0_2 from Kd.V_mono hs0_2 (fun k_ hk => .inl (.inl hk)))
 have HO0_3 := Aside0.mk (show Kd.V k41 41 w w.heap.size (fun k_ => ((P0_2_ k_ ∨ P0_3_ k_) ∨ w.heap.size ≤ k_)) (.slice A0_3 l0_3.length c0_3) l0_3 from Kd.V_mono hs0_3 (fun k_ hk => .inl (.inr hk)))
 have HB := Aside0.mk (Below.refl w.heap.size w)
 have H : (whetstonelaw04_to.l0 k 0 a0_0 a0_1 l0_2 l0_3 a0_0 a0_1 l0_2 ([] : List (S25))) = some (r1, r2, r3, r4) := h
 clear h
 have H' := Aside0.mk H
 clear H
 go_enter Try.func13, Try.ntmps13
 go_wp2_with (first | ((with_reducible refine gate_dst (N := 1) rfl ?_); refine box_event ?hg (N := 1) ?hd (cs := #[.int .i64 a0_0, .string a0_1, .slice A0_2 l0_2.length c0_2, .slice A0_3 l0_3.length c0_3]) (t := 41) ?hr ?_; (case hd => rfl); (case hg => rfl); (case hr => first | (go_simp; done) | (go_simp; rfl)); intro gb217 hg w2 hbox hb; have n0_ := Aside0.mk (Kd.V_below (Kd.V_elderB (by (with_reducible repeat (first | apply Kd.V_alloc | apply Kd.V_drewN | apply Kd.V_drew)); exact HO0_2.out) gb217 (Nat.le_of_eq hg.symm)) hb); have n1_ := Aside0.mk (Kd.V_below (Kd.V_elderB (by (with_reducible repeat (first | apply Kd.V_alloc | apply Kd.V_drewN | apply Kd.V_drew)); exact HO0_3.out) gb217 (Nat.le_of_eq hg.symm)) hb); have n2_ := Aside0.mk (below_step (by repeat (first | (with_reducible first | exact HB.out | apply below_alloc | apply pw_below_drewN | apply below_drew1) | exact HB.out)) hb); have n3_ := Aside0.mk (hbox); have n4_ := Aside0.mk ((by rw [hg]; exact (below_size (by repeat (first | (with_reducible first | exact HB.out | apply below_alloc | apply pw_below_drewN | apply below_drew1) | exact HB.out))) : w.heap.size ≤ gb217)); have n5_ := Aside0.mk ((by rw [hg]; exact (below_size (by repeat (first | (with_reducible first | exact HB.out | apply below_alloc | apply pw_below_drewN | apply below_drew1) | exact HB.out))) : w.heap.size ≤ gb217)); clear HO0_2; clear HO0_3; clear HB; have HO0_2 := n0_; have HO0_3 := n1_; have HB := n2_; have BK217 := n3_; have GW217 := n4_; have GE217 := n5_; clear n0_ n1_ n2_ n3_ n4_ n5_; clear hb hbox hg) | ((with_reducible refine gate_dst (N := 2) rfl ?_); refine box_event ?hg (N := 2) ?hd (cs := #[.int .i64 0, .string (⟨#[]⟩ : ByteArray), .slice none 0 0, .slice none 0 0]) (t := 25) ?hr ?_; (case hd => rfl); (case hg => rfl); (case hr => first | (go_simp; done) | (go_simp; rfl)); intro gb218 hg w3 hbox hb; have n0_ := Aside0.mk (Kd.V_below (Kd.V_elderB (by (with_reducible repeat (first | apply Kd.V_alloc | apply Kd.V_drewN | apply Kd.V_drew)); exact HO0_2.out) gb218 (Nat.le_of_eq hg.symm)) hb); have n1_ := Aside0.mk (Kd.V_below (Kd.V_elderB (by (with_reducible repeat (first | apply Kd.V_alloc | apply Kd.V_drewN | apply Kd.V_drew)); exact HO0_3.out) gb218 (Nat.le_of_eq hg.symm)) hb); have n2_ := Aside0.mk (blk_below (g := gb217) (o := .cells #[.int .i64 a0_0, .string a0_1, .slice A0_2 l0_2.length c0_2, .slice A0_3 l0_3.length c0_3] 41 (0, 0)) (by (with_reducible repeat (first | refine blk_drewN ?_ _ | refine blk_drew ?_ | refine blk_alloc ?_ _)); exact BK217.out) hb); have n3_ := Aside0.mk (below_step (by repeat (first | (with_reducible first | exact HB.out | apply below_alloc | apply pw_below_drewN | apply below_drew1 | refine below_set ?_ GE217.out) | exact HB.out)) hb); have n4_ := Aside0.mk (hbox); have n5_ := Aside0.mk ((by rw [hg]; exact (below_size (by repeat (first | (with_reducible first | exact HB.out | apply below_alloc | apply pw_below_drewN | apply below_drew1 | refine below_set ?_ GE217.out) | exact HB.out))) : w.heap.size ≤ gb218)); have n6_ := Aside0.mk ((by rw [hg]; exact (below_size (by repeat (first | (with_reducible first | exact HB.out | apply below_alloc | apply pw_below_drewN | apply below_drew1 | refine below_set ?_ GE217.out) | exact HB.out))) : w.heap.size ≤ gb218)); have n7_ := Aside0.mk ((by rw [hg]; exact Nat.ne_of_lt (blk_lt (g := gb217) (o := .cells #[.int .i64 a0_0, .string a0_1, .slice A0_2 l0_2.length c0_2, .slice A0_3 l0_3.length c0_3] 41 (0, 0)) (by (with_reducible repeat (first | refine blk_drewN ?_ _ | refine blk_drew ?_ | refine blk_alloc ?_ _)); exact BK217.out)) : gb217 ≠ gb218)); have n8_ := Aside0.mk ((by rw [hg]; exact Nat.ne_of_gt (blk_lt (g := gb217) (o := .cells #[.int .i64 a0_0, .string a0_1, .slice A0_2 l0_2.length c0_2, .slice A0_3 l0_3.length c0_3] 41 (0, 0)) (by (with_reducible repeat (first | refine blk_drewN ?_ _ | refine blk_drew ?_ | refine blk_alloc ?_ _)); exact BK217.out)) : gb218 ≠ gb217)); clear HO0_2; clear HO0_3; clear BK217; clear HB; have HO0_2 := n0_; have HO0_3 := n1_; have BK217 := n2_; have HB := n3_; have BK218 := n4_; have GW218 := n5_; have GE218 := n6_; have NB217_218 := n7_; have NB218_217 := n8_; clear n0_ n1_ n2_ n3_ n4_ n5_ n6_ n7_ n8_; clear hb hbox hg; have hnb4 := NB217_218.out; have hnc4 := NB218_217.out; have hcz5_0 : w3.cell? ⟨gb217, 0, none⟩ = some (.int .i64 a0_0) := (blk_cell BK217.out 0).trans rfl; have hcz5_1 : w3.cell? ⟨gb217, 1, none⟩ = some (.string a0_1) := (blk_cell BK217.out 1).trans rfl; have hcz5_2 : w3.cell? ⟨gb217, 2, none⟩ = some (.slice A0_2 l0_2.length c0_2) := (blk_cell BK217.out 2).trans rfl; have hcz5_3 : w3.cell? ⟨gb217, 3, none⟩ = some (.slice A0_3 l0_3.length c0_3) := (blk_cell BK217.out 3).trans rfl; have hfz5_0 := blk_frozen BK217.out 0; have hfz5_1 := blk_frozen BK217.out 1; have hfz5_2 := blk_frozen BK217.out 2; have hfz5_3 := blk_frozen BK217.out 3) | ((with_reducible refine gate_dst (N := 3) rfl ?_); refine box_event ?hg (N := 3) ?hd (cs := #[.int .i64 0, .string (⟨#[]⟩ : ByteArray), .slice none 0 0, .slice none 0 0]) (t := 25) ?hr ?_; (case hd => rfl); (case hg => rfl); (case hr => first | (go_simp; done) | (go_simp; rfl)); intro gb219 hg w6 hbox hb; have n0_ := Aside0.mk (Kd.V_below (Kd.V_elderB (by (with_reducible repeat (first | apply Kd.V_alloc | apply Kd.V_drewN | apply Kd.V_drew)); exact HO0_2.out) gb219 (Nat.le_of_eq hg.symm)) hb); have n1_ := Aside0.mk (Kd.V_below (Kd.V_elderB (by (with_reducible repeat (first | apply Kd.V_alloc | apply Kd.V_drewN | apply Kd.V_drew)); exact HO0_3.out) gb219 (Nat.le_of_eq hg.symm)) hb); have n2_ := Aside0.mk (blk_below (g := gb217) (o := .cells #[.int .i64 a0_0, .string a0_1, .slice A0_2 l0_2.length c0_2, .slice A0_3 l0_3.length c0_3] 41 (0, 0)) (by (with_reducible repeat (first | refine blk_drewN ?_ _ | refine blk_drew ?_ | refine blk_alloc ?_ _)); exact BK217.out) hb); have n3_ := Aside0.mk (blk_below (g := gb218) (o := .cells #[.int .i64 0, .string (⟨#[]⟩ : ByteArray), .slice none 0 0, .slice none 0 0] 25 (0, 0)) (by (with_reducible repeat (first | refine blk_drewN ?_ _ | refine blk_drew ?_ | refine blk_alloc ?_ _)); exact BK218.out) hb); have n4_ := Aside0.mk (below_step (by repeat (first | (with_reducible first | exact HB.out | apply below_alloc | apply pw_below_drewN | apply below_drew1 | refine below_set ?_ GE217.out | refine below_set ?_ GE218.out) | exact HB.out)) hb); have n5_ := Aside0.mk (hbox); have n6_ := Aside0.mk ((by rw [hg]; exact (below_size (by repeat (first | (with_reducible first | exact HB.out | apply below_alloc | apply pw_below_drewN | apply below_drew1 | refine below_set ?_ GE217.out | refine below_set ?_ GE218.out) | exact HB.out))) : w.heap.size ≤ gb219)); have n7_ := Aside0.mk ((by rw [hg]; exact (below_size (by repeat (first | (with_reducible first | exact HB.out | apply below_alloc | apply pw_below_drewN | apply below_drew1 | refine below_set ?_ GE217.out | refine below_set ?_ GE218.out) | exact HB.out))) : w.heap.size ≤ gb219)); have n8_ := Aside0.mk ((by rw [hg]; exact Nat.ne_of_lt (blk_lt (g := gb217) (o := .cells #[.int .i64 a0_0, .string a0_1, .slice A0_2 l0_2.length c0_2, .slice A0_3 l0_3.length c0_3] 41 (0, 0)) (by (with_reducible repeat (first | refine blk_drewN ?_ _ | refine blk_drew ?_ | refine blk_alloc ?_ _)); exact BK217.out)) : gb217 ≠ gb219)); have n9_ := Aside0.mk ((by rw [hg]; exact Nat.ne_of_gt (blk_lt (g := gb217) (o := .cells #[.int .i64 a0_0, .string a0_1, .slice A0_2 l0_2.length c0_2, .slice A0_3 l0_3.length c0_3] 41 (0, 0)) (by (with_reducible repeat (first | refine blk_drewN ?_ _ | refine blk_drew ?_ | refine blk_alloc ?_ _)); exact BK217.out)) : gb219 ≠ gb217)); have n10_ := Aside0.mk ((by rw [hg]; exact Nat.ne_of_lt (blk_lt (g := gb218) (o := .cells #[.int .i64 0, .string (⟨#[]⟩ : ByteArray), .slice none 0 0, .slice none 0 0] 25 (0, 0)) (by (with_reducible repeat (first | refine blk_drewN ?_ _ | refine blk_drew ?_ | refine blk_alloc ?_ _)); exact BK218.out)) : gb218 ≠ gb219)); have n11_ := Aside0.mk ((by rw [hg]; exact Nat.ne_of_gt (blk_lt (g := gb218) (o := .cells #[.int .i64 0, .string (⟨#[]⟩ : ByteArray), .slice none 0 0, .slice none 0 0] 25 (0, 0)) (by (with_reducible repeat (first | refine blk_drewN ?_ _ | refine blk_drew ?_ | refine blk_alloc ?_ _)); exact BK218.out)) : gb219 ≠ gb218)); clear HO0_2; clear HO0_3; clear BK217; clear BK218; clear HB; have HO0_2 := n0_; have HO0_3 := n1_; have BK217 := n2_; have BK218 := n3_; have HB := n4_; have BK219 := n5_; have GW219 := n6_; have GE219 := n7_; have NB217_219 := n8_; have NB219_217 := n9_; have NB218_219 := n10_; have NB219_218 := n11_; clear n0_ n1_ n2_ n3_ n4_ n5_ n6_ n7_ n8_ n9_ n10_ n11_; clear hb hbox hg; have hnb7 := NB219_217.out; have hnc7 := NB217_219.out; have hnb8 := NB219_218.out; have hnc8 := NB218_219.out; have hcz9_0 : w6.cell? ⟨gb219, 0, none⟩ = some (.int .i64 0) := (blk_cell BK219.out 0).trans rfl; have hcz9_1 : w6.cell? ⟨gb219, 1, none⟩ = some (.string (⟨#[]⟩ : ByteArray)) := (blk_cell BK219.out 1).trans rfl; have hcz9_2 : w6.cell? ⟨gb219, 2, none⟩ = some (.slice none 0 0) := (blk_cell BK219.out 2).trans rfl; have hcz9_3 : w6.cell? ⟨gb219, 3, none⟩ = some (.slice none 0 0) := (blk_cell BK219.out 3).trans rfl; have hfz9_0 := blk_frozen BK219.out 0; have hfz9_1 := blk_frozen BK219.out 1; have hfz9_2 := blk_frozen BK219.out 2; have hfz9_3 := blk_frozen BK219.out 3))
 go_loopg [4] k (fun kq v4 w' => ∃ (x4_1 : Int) (x220003_1 : List (S25)) (u220003 : Value), v4 = .int .i64 x4_1 ∧ Aside0 (whetstonelaw04_to.l0 kq x4_1 a0_0 a0_1 l0_2 l0_3 a0_0 a0_1 l0_2 x220003_1 = some (r1, r2, r3, r4)) ∧ Aside0 (kq ≤ k) ∧ Aside0 (Kd.V Kd.string 9 w' w.heap.size (fun k_ => ((P0_2_ k_ ∨ P0_3_ k_) ∨ w.heap.size ≤ k_) ∧ some k_ ≠ (u220003 : Value).ownBlock ∧ k_ ≠ gb217 ∧ k_ ≠ gb218 ∧ k_ ≠ gb219) (.slice A0_2 l0_2.length c0_2) l0_2) ∧ Aside0 (Kd.V k41 41 w' w.heap.size (fun k_ => ((P0_2_ k_ ∨ P0_3_ k_) ∨ w.heap.size ≤ k_) ∧ some k_ ≠ (u220003 : Value).ownBlock ∧ k_ ≠ gb217 ∧ k_ ≠ gb218 ∧ k_ ≠ gb219) (.slice A0_3 l0_3.length c0_3) l0_3) ∧ Aside0 (Kd.V Kd.string 9 w' w.heap.size (fun k_ => ((P0_2_ k_ ∨ P0_3_ k_) ∨ w.heap.size ≤ k_) ∧ some k_ ≠ (u220003 : Value).ownBlock ∧ k_ ≠ gb217 ∧ k_ ≠ gb218 ∧ k_ ≠ gb219) (.slice A0_2 l0_2.length c0_2) l0_2) ∧ Aside0 (Kd.N k25 25 w' w.heap.size (fun k_ => ((P0_2_ k_ ∨ P0_3_ k_) ∨ w.heap.size ≤ k_) ∧ k_ ≠ gb217 ∧ k_ ≠ gb218 ∧ k_ ≠ gb219) u220003 x220003_1) ∧ Aside0 (w'.heap[gb217]? = some (.cells #[.int .i64 a0_0, .string a0_1, (.slice A0_2 l0_2.length c0_2), (.slice A0_3 l0_3.length c0_3)] 41 (0, 0))) ∧ Aside0 (w'.heap[gb218]? = some (.cells #[.int .i64 0, .string (⟨#[]⟩ : ByteArray), (.slice none 0 0), (.slice none 0 0)] 25 (0, 0))) ∧ Aside0 (w'.heap[gb219]? = some (.cells #[.int .i64 a0_0, .string a0_1, (.slice A0_2 l0_2.length c0_2), u220003] 25 (0, 0))) ∧ Aside0 (Below w.heap.size w w'))
 case atStart => exact ⟨(0), (([] : List (S25))), (.slice none 0 0), (by first | rfl | (simp; done) | (simp [*]; done)), H', ⟨Nat.le_refl _⟩, ⟨by (with_reducible repeat (first | apply Kd.V_alloc | apply Kd.V_drewN | apply Kd.V_drew)); exact Kd.V_mono (Kd.V_far (p := ⟨gb219, 3, none⟩) (Kd.V_far (p := ⟨gb219, 2, none⟩) (Kd.V_far (p := ⟨gb219, 1, none⟩) (Kd.V_far (p := ⟨gb219, 0, none⟩) (Kd.V_mono HO0_2.out (fun k_ hk => (⟨hk, hk.2⟩ : _ ∧ k_ ≠ gb219))) (fun _ hk => hk.2) (.int .i64 a0_0)) (fun _ hk => hk.2) (.string a0_1)) (fun _ hk => hk.2) (.slice A0_2 l0_2.length c0_2)) (fun _ hk => hk.2) (.slice none 0 0)) (fun _ hk => ⟨hk.1.1.1.1, ⟨(by simp [Value.ownBlock]), ⟨hk.1.1.1.2, ⟨hk.1.1.2, hk.1.2⟩⟩⟩⟩)⟩, ⟨by (with_reducible repeat (first | apply Kd.V_alloc | apply Kd.V_drewN | apply Kd.V_drew)); exact Kd.V_mono (Kd.V_far (p := ⟨gb219, 3, none⟩) (Kd.V_far (p := ⟨gb219, 2, none⟩) (Kd.V_far (p := ⟨gb219, 1, none⟩) (Kd.V_far (p := ⟨gb219, 0, none⟩) (Kd.V_mono HO0_3.out (fun k_ hk => (⟨hk, hk.2⟩ : _ ∧ k_ ≠ gb219))) (fun _ hk => hk.2) (.int .i64 a0_0)) (fun _ hk => hk.2) (.string a0_1)) (fun _ hk => hk.2) (.slice A0_2 l0_2.length c0_2)) (fun _ hk => hk.2) (.slice none 0 0)) (fun _ hk => ⟨hk.1.1.1.1, ⟨(by simp [Value.ownBlock]), ⟨hk.1.1.1.2, ⟨hk.1.1.2, hk.1.2⟩⟩⟩⟩)⟩, ⟨by (with_reducible repeat (first | apply Kd.V_alloc | apply Kd.V_drewN | apply Kd.V_drew)); exact Kd.V_mono (Kd.V_far (p := ⟨gb219, 3, none⟩) (Kd.V_far (p := ⟨gb219, 2, none⟩) (Kd.V_far (p := ⟨gb219, 1, none⟩) (Kd.V_far (p := ⟨gb219, 0, none⟩) (Kd.V_mono HO0_2.out (fun k_ hk => (⟨hk, hk.2⟩ : _ ∧ k_ ≠ gb219))) (fun _ hk => hk.2) (.int .i64 a0_0)) (fun _ hk => hk.2) (.string a0_1)) (fun _ hk => hk.2) (.slice A0_2 l0_2.length c0_2)) (fun _ hk => hk.2) (.slice none 0 0)) (fun _ hk => ⟨hk.1.1.1.1, ⟨(by simp [Value.ownBlock]), ⟨hk.1.1.1.2, ⟨hk.1.1.2, hk.1.2⟩⟩⟩⟩)⟩, ⟨by first | exact Kd.R_nil _ _ _ _ _ | exact Kd.N_nil _ _ _ _ _ | exact Kd.V_nil _ _ _ _ _ | exact Kd.Q_nil _ _ _ _ _ | exact Kd.S_nil _ _ _ _ _⟩, ⟨by (with_reducible repeat (first | refine blk_drewN ?_ _ | refine blk_drew ?_ | refine blk_alloc ?_ _)); refine blk_far ?_ NB217_219.out _; (with_reducible repeat (first | refine blk_drewN ?_ _ | refine blk_drew ?_ | refine blk_alloc ?_ _)); refine blk_far ?_ NB217_219.out _; (with_reducible repeat (first | refine blk_drewN ?_ _ | refine blk_drew ?_ | refine blk_alloc ?_ _)); refine blk_far ?_ NB217_219.out _; (with_reducible repeat (first | refine blk_drewN ?_ _ | refine blk_drew ?_ | refine blk_alloc ?_ _)); refine blk_far ?_ NB217_219.out _; (with_reducible repeat (first | refine blk_drewN ?_ _ | refine blk_drew ?_ | refine blk_alloc ?_ _)); exact BK217.out⟩, ⟨by (with_reducible repeat (first | refine blk_drewN ?_ _ | refine blk_drew ?_ | refine blk_alloc ?_ _)); refine blk_far ?_ NB218_219.out _; (with_reducible repeat (first | refine blk_drewN ?_ _ | refine blk_drew ?_ | refine blk_alloc ?_ _)); refine blk_far ?_ NB218_219.out _; (with_reducible repeat (first | refine blk_drewN ?_ _ | refine blk_drew ?_ | refine blk_alloc ?_ _)); refine blk_far ?_ NB218_219.out _; (with_reducible repeat (first | refine blk_drewN ?_ _ | refine blk_drew ?_ | refine blk_alloc ?_ _)); refine blk_far ?_ NB218_219.out _; (with_reducible repeat (first | refine blk_drewN ?_ _ | refine blk_drew ?_ | refine blk_alloc ?_ _)); exact BK218.out⟩, ⟨by (with_reducible repeat (first | refine blk_drewN ?_ _ | refine blk_drew ?_ | refine blk_alloc ?_ _)); refine blk_put (cs := #[.int .i64 a0_0, .string a0_1, .slice A0_2 l0_2.length c0_2, .slice none 0 0]) ?_ 3 _ rfl; (with_reducible repeat (first | refine blk_drewN ?_ _ | refine blk_drew ?_ | refine blk_alloc ?_ _)); refine blk_put (cs := #[.int .i64 a0_0, .string a0_1, .slice none 0 0, .slice none 0 0]) ?_ 2 _ rfl; (with_reducible repeat (first | refine blk_drewN ?_ _ | refine blk_drew ?_ | refine blk_alloc ?_ _)); refine blk_put (cs := #[.int .i64 a0_0, .string (⟨#[]⟩ : ByteArray), .slice none 0 0, .slice none 0 0]) ?_ 1 _ rfl; (with_reducible repeat (first | refine blk_drewN ?_ _ | refine blk_drew ?_ | refine blk_alloc ?_ _)); refine blk_put (cs := #[.int .i64 0, .string (⟨#[]⟩ : ByteArray), .slice none 0 0, .slice none 0 0]) ?_ 0 _ rfl; (with_reducible repeat (first | refine blk_drewN ?_ _ | refine blk_drew ?_ | refine blk_alloc ?_ _)); exact BK219.out⟩, ⟨by repeat (first | (with_reducible first | exact HB.out | apply below_alloc | apply pw_below_drewN | apply below_drew1 | refine below_set ?_ GE217.out | refine below_set ?_ GE218.out | refine below_set ?_ GE219.out) | exact HB.out)⟩⟩
 case round =>
  clear H'
  try clear c1; try clear p2; try clear c4; try clear c7; try clear c8; try clear hcz5_0; try clear hcz5_1; try clear hcz5_2; try clear hcz5_3; try clear hcz9_0; try clear hcz9_1; try clear hcz9_2; try clear hcz9_3; try clear hfz5_0; try clear hfz5_1; try clear hfz5_2; try clear hfz5_3; try clear hfz9_0; try clear hfz9_1; try clear hfz9_2; try clear hfz9_3
  obtain ⟨x4_1, x220003_1, u220003, rfl, HA, HK1, HO_218002, HO_218003, HO_220002, HO_220003, BK217, BK218, BK219, HB⟩ := hrel
  cases gk with
  | zero => exact absurd HA.out (by simp [whetstonelaw04_to.l0])
  | succ k1 =>
   have H := HA.out
   clear HA
   simp only [whetstonelaw04_to.l0] at H
   by_cases c10 : x4_1 < (l0_3.length : Int)
   ·rw [if_pos c10] at H
    have c10b0 : decide (x4_1 < (l0_3.length : Int)) = true := decide_eq_true c10
    clear c10
    by_cases c11 : 0 ≤ x4_1
    ·rw [if_pos c11] at H
     have c11b0 : decide (0 ≤ x4_1) = true := decide_eq_true c11
     clear c11
     replace H := Option.bind_eq_some_iff.mp H
     obtain ⟨⟨t221, t222, t223, t226⟩, A120, H⟩ := H
     replace H : (if x220003_1.length < 1954687338268 then (whetstonelaw04_to.l0 k1 (wrap64 (x4_1 + 1)) a0_0 a0_1 l0_2 l0_3 a0_0 a0_1 l0_2 (x220003_1 ++ [(⟨t221, t222, t223, t226⟩ : S25)])) else (none)) = some (r1, r2, r3, r4) := H
     have A12 := Aside0.mk A120
     clear A120
     by_cases c13 : x220003_1.length < 1954687338268
     ·rw [if_pos c13] at H
      have LMc13 := Aside0.mk c13
      clear c13
      obtain ⟨y229, hy229⟩ : ∃ y_ : List (S25), y_ = (x220003_1 ++ [(⟨t221, t222, t223, t226⟩ : S25)]) := ⟨_, rfl⟩
      replace H : (whetstonelaw04_to.l0 k1 (wrap64 (x4_1 + 1)) a0_0 a0_1 l0_2 l0_3 a0_0 a0_1 l0_2 y229) = some (r1, r2, r3, r4) := by first | (rw [hy229]; with_reducible exact H) | (have H2_ := (Option.bind_some _ _).symm.trans H; rw [hy229]; with_reducible exact H2_) | (have H2_ := (Option.bind_some _ _).symm.trans H; with_reducible exact H2_) | with_reducible exact H | (rw [hy229]; exact H) | exact H
      have Ny229 := Aside0.mk hy229
      clear hy229
      have H' := Aside0.mk H
      clear H
      have hnb14 := NB217_218.out
      have hnc14 := NB218_217.out
      have hnb15 := NB217_219.out
      have hnc15 := NB219_217.out
      have hcz16_0 : wr.cell? ⟨gb217, 0, none⟩ = some (.int .i64 a0_0) := (blk_cell BK217.out 0).trans rfl
      have hcz16_1 : wr.cell? ⟨gb217, 1, none⟩ = some (.string a0_1) := (blk_cell BK217.out 1).trans rfl
      have hcz16_2 : wr.cell? ⟨gb217, 2, none⟩ = some (.slice A0_2 l0_2.length c0_2) := (blk_cell BK217.out 2).trans rfl
      have hcz16_3 : wr.cell? ⟨gb217, 3, none⟩ = some (.slice A0_3 l0_3.length c0_3) := (blk_cell BK217.out 3).trans rfl
      have hfz16_0 := blk_frozen BK217.out 0
      have hfz16_1 := blk_frozen BK217.out 1
      have hfz16_2 := blk_frozen BK217.out 2
      have hfz16_3 := blk_frozen BK217.out 3
      try go_wp2
      have n0_ := Aside0.mk (Kd.V_drew HO_218002.out)
      have n1_ := Aside0.mk (Kd.V_drew HO_218003.out)
      have n2_ := Aside0.mk (Kd.V_drew HO_220002.out)
      have n3_ := Aside0.mk (Kd.N_drew HO_220003.out)
      have n4_ := Aside0.mk (blk_drew BK217.out)
      have n5_ := Aside0.mk (blk_drew BK218.out)
      have n6_ := Aside0.mk (blk_drew BK219.out)
      have n7_ := Aside0.mk (below_drew1 HB.out)
      clear HO_218002
      clear HO_218003
      clear HO_220002
      clear HO_220003
      clear BK217
      clear BK218
      clear BK219
      clear HB
      have HO_218002 := n0_
      have HO_218003 := n1_
      have HO_220002 := n2_
      have HO_220003 := n3_
      have BK217 := n4_
      have BK218 := n5_
      have BK219 := n6_
      have HB := n7_
      clear n0_ n1_ n2_ n3_ n4_ n5_ n6_ n7_
      have p220 : 0 ≤ (x4_1 : Int) := of_decide_eq_true (by first | (with_reducible assumption) | assumption)
      have q220 : x4_1 < (l0_3.length : Int) := of_decide_eq_true (by first | (with_reducible assumption) | assumption)
      obtain ⟨ad220, A220_2, c220_2, A220_3, c220_3, e220, hx220_0, hx220_1, hx220_2, hx220_3, hl220_2, hi220_2, hl220_3, hi220_3⟩ := at_T41 (Kd.V_reads' HO_218003.out).2.2 x4_1 p220 q220
      cases e220
      obtain ⟨ce220, hce220, hMe220, hcc220⟩ := Kd.V_get HO_218003.out z41 x4_1 p220 (by first | exact q220 | exact of_decide_eq_true (by first | (with_reducible assumption) | assumption) | (have e_ := (Kd.V_reads' HO_218003.out).1; omega))
      obtain ⟨ua220_2, uc220_2, ua220_3, uc220_3, rfl, ul220_2, ge220_2, ul220_3, ge220_3⟩ := k41_openF hMe220
      have hv220_2 := hcc220 2 _ rfl
      rw [add_field _ _ 2 (by omega)] at hv220_2
      replace hv220_2 := Option.some.inj (hv220_2.symm.trans hx220_2)
      injection hv220_2 with hva_ hvn_ hvc_
      rw [hva_] at ge220_2
      rw [hvc_] at ul220_2
      have HL220_2 := Aside0.mk (show Kd.V Kd.string 9 _ w.heap.size _ _ ((rd_T41 l0_3 x4_1).f2) from Kd.V_mk ul220_2 ge220_2)
      clear hva_ hvn_ hvc_ ge220_2 ul220_2
      have hv220_3 := hcc220 3 _ rfl
      rw [add_field _ _ 3 (by omega)] at hv220_3
      replace hv220_3 := Option.some.inj (hv220_3.symm.trans hx220_3)
      injection hv220_3 with hva_ hvn_ hvc_
      rw [hva_] at ge220_3
      rw [hvc_] at ul220_3
      have HL220_3 := Aside0.mk (show Kd.V k41 41 _ w.heap.size _ _ ((rd_T41 l0_3 x4_1).f3) from Kd.V_mk ul220_3 ge220_3)
      clear hva_ hvn_ hvc_ ge220_3 ul220_3
      clear hcc220 hce220
      have HR220_2 := Aside0.mk hi220_2
      have HC220_2 := Aside0.mk hl220_2
      clear hi220_2 hl220_2
      have HR220_3 := Aside0.mk hi220_3
      have HC220_3 := Aside0.mk hl220_3
      clear hi220_3 hl220_3
      replace p220 := eq_true p220
      replace q220 := eq_true q220
      refine start_ (n := 12) (S := fun w' => w'.cell? ⟨gb219, 0, none⟩ = some (.int .i64 a0_0) ∧ w'.cell? ⟨gb219, 1, none⟩ = some (.string a0_1) ∧ w'.cell? ⟨gb219, 2, none⟩ = some (.slice A0_2 l0_2.length c0_2) ∧ w'.cell? ⟨gb219, 3, none⟩ = some (u220003) ∧ w'.cell? ⟨gb217, 0, none⟩ = some (.int .i64 a0_0) ∧ w'.cell? ⟨gb217, 1, none⟩ = some (.string a0_1) ∧ w'.cell? ⟨gb217, 2, none⟩ = some (.slice A0_2 l0_2.length c0_2) ∧ w'.cell? ⟨gb217, 3, none⟩ = some (.slice (some ad220) l0_3.length c0_3) ∧ w'.cell? (ad220.add ((x4_1).toNat * 4)) = some (.int .i64 ((rd_T41 l0_3 x4_1).f0)) ∧ w'.cell? ⟨(ad220.add ((x4_1).toNat * 4)).block, (ad220.add ((x4_1).toNat * 4)).off + 1, none⟩ = some (.string ((rd_T41 l0_3 x4_1).f1)) ∧ w'.cell? ⟨(ad220.add ((x4_1).toNat * 4)).block, (ad220.add ((x4_1).toNat * 4)).off + 2, none⟩ = some (.slice A220_2 ((rd_T41 l0_3 x4_1).f2).length c220_2) ∧ w'.cell? ⟨(ad220.add ((x4_1).toNat * 4)).block, (ad220.add ((x4_1).toNat * 4)).off + 3, none⟩ = some (.slice A220_3 ((rd_T41 l0_3 x4_1).f3).length c220_3)) (ds := [9, 11]) #[false, false, false, false, false, false, false, false, false, false, false, false] (by kernel_rfl) rfl rfl ⟨(blk_cell BK219.out 0).trans rfl, (blk_cell BK219.out 1).trans rfl, (blk_cell BK219.out 2).trans rfl, (blk_cell BK219.out 3).trans rfl, (blk_cell BK217.out 0).trans rfl, (blk_cell BK217.out 1).trans rfl, (blk_cell BK217.out 2).trans rfl, (blk_cell BK217.out 3).trans rfl, hx220_0, hx220_1, hx220_2, hx220_3⟩ (fun hHeld => ?_); refine with_tabW whetstonelaw04_to.tab5 whetstonelaw04_to.bits5 (fun HT_ HW_ => ?_)
      generalize wr.drew = w17 at HO_218002 HO_218003 HO_220002 HO_220003 BK217 BK218 BK219 HB HL220_2 HL220_3 HR220_2 HR220_3 hx220_0 hx220_1 hx220_2 hx220_3 hHeld ⊢
      refine pure_ (i := 0) (N := some 19) (v := ?_) (a' := ?_) #[true, false, false, false, false, false, false, false, false, false, false, false] rfl rfl (any_of HT_.out (by kernel_rfl)) (fun _ _ _ h => h) (Or.inl ⟨by rfl, ?_⟩) ?_ ?_
      rotate_left
      ·intro w'
       go_simp
       with_reducible rfl
      rotate_left
      ·simp only [Act.put, List.setIfInBounds_toArray, List.set_cons_zero, List.set_cons_succ, i64_w, i32_w]
       rfl
      refine pure_ (i := 2) (N := some 21) (v := ?_) (a' := ?_) #[true, false, true, false, false, false, false, false, false, false, false, false] rfl rfl (any_of HT_.out (by kernel_rfl)) (fun _ _ _ h => h) (Or.inl ⟨by rfl, ?_⟩) ?_ ?_
      rotate_left
      ·intro w'
       go_simp
       with_reducible rfl
      rotate_left
      ·simp only [Act.put, List.setIfInBounds_toArray, List.set_cons_zero, List.set_cons_succ, i64_w, i32_w]
       rfl
      refine pure_ (i := 4) (N := some 23) (v := ?_) (a' := ?_) #[true, false, true, false, true, false, false, false, false, false, false, false] rfl rfl (any_of HT_.out (by kernel_rfl)) (fun _ _ _ h => h) (Or.inl ⟨by rfl, ?_⟩) ?_ ?_
      rotate_left
      ·intro w'
       go_simp
       with_reducible rfl
      rotate_left
      ·simp only [Act.put, List.setIfInBounds_toArray, List.set_cons_zero, List.set_cons_succ, i64_w, i32_w]
       rfl
      refine take_ (i := 1) (N := some 20) (v := ?_) (a' := ?_) #[true, true, true, false, true, false, false, false, false, false, false, false] rfl rfl (take_ofW HT_.out HW_.out (by kernel_rfl)) (fun _ _ _ h => h) (Or.inl ⟨by rfl, ?_⟩) hHeld ?_ ?_
      rotate_left
      ·rintro w' ⟨s0, s1, s2, s3, s4, s5, s6, s7, s8, s9, s10, s11⟩
       go_simp
       with_reducible rfl
      rotate_left
      ·simp only [Act.put, List.setIfInBounds_toArray, List.set_cons_zero, List.set_cons_succ, i64_w, i32_w]
       rfl
      refine take_ (i := 3) (N := some 22) (v := ?_) (a' := ?_) #[true, true, true, true, true, false, false, false, false, false, false, false] rfl rfl (take_ofW HT_.out HW_.out (by kernel_rfl)) (fun _ _ _ h => h) (Or.inl ⟨by rfl, ?_⟩) hHeld ?_ ?_
      rotate_left
      ·rintro w' ⟨s0, s1, s2, s3, s4, s5, s6, s7, s8, s9, s10, s11⟩
       go_simp
       with_reducible rfl
      rotate_left
      ·simp only [Act.put, List.setIfInBounds_toArray, List.set_cons_zero, List.set_cons_succ, i64_w, i32_w]
       rfl
      refine pure_ (i := 5) (N := some 24) (v := ?_) (a' := ?_) #[true, true, true, true, true, true, false, false, false, false, false, false] rfl rfl (any_of HT_.out (by kernel_rfl)) (fun _ _ _ h => h) (Or.inl ⟨by rfl, ?_⟩) ?_ ?_
      rotate_left
      ·intro w'
       go_simp
       with_reducible rfl
      rotate_left
      ·simp only [Act.put, List.setIfInBounds_toArray, List.set_cons_zero, List.set_cons_succ, i64_w, i32_w]
       rfl
      refine take_ (i := 6) (N := some 25) (v := ?_) (a' := ?_) #[true, true, true, true, true, true, true, false, false, false, false, false] rfl rfl (take_ofW HT_.out HW_.out (by kernel_rfl)) (fun _ _ _ h => h) (Or.inl ⟨by rfl, ?_⟩) hHeld ?_ ?_
      rotate_left
      ·rintro w' ⟨s0, s1, s2, s3, s4, s5, s6, s7, s8, s9, s10, s11⟩
       go_simp
       with_reducible rfl
      rotate_left
      ·simp only [Act.put, List.setIfInBounds_toArray, List.set_cons_zero, List.set_cons_succ, i64_w, i32_w]
       rfl
      refine one_ (i := 7) (N := some 26) #[true, true, true, true, true, true, true, true, false, false, false, false] rfl rfl (one_of HT_.out (by kernel_rfl)) (by decide) (fun K hK => ?_)
      refine goes_ Try.func13 (by kernel_rfl) rfl #[.agg #[.int .i64 ((rd_T41 l0_3 x4_1).f0), .string ((rd_T41 l0_3 x4_1).f1), .slice A220_2 ((rd_T41 l0_3 x4_1).f2).length c220_2, .slice A220_3 ((rd_T41 l0_3 x4_1).f3).length c220_3]] (by rfl) rfl rfl (by (try simp only [List.map_toArray, List.map_cons, List.map_nil]); first | done | rfl | (simp only [List.length_drop, List.length_take]; rfl)) ?_
      with_reducible refine (ih k1 (by have := HK1.out; omega) ((rd_T41 l0_3 x4_1).f0) ((rd_T41 l0_3 x4_1).f1) (fun k_ => (((P0_2_ k_ ∨ P0_3_ k_) ∨ w.heap.size ≤ k_) ∧ (some k_ ≠ (u220003 : Value).ownBlock ∧ (k_ ≠ gb217 ∧ (k_ ≠ gb218 ∧ k_ ≠ gb219))))) _ _ ((rd_T41 l0_3 x4_1).f2) (fun k_ => (((P0_2_ k_ ∨ P0_3_ k_) ∨ w.heap.size ≤ k_) ∧ (some k_ ≠ (u220003 : Value).ownBlock ∧ (k_ ≠ gb217 ∧ (k_ ≠ gb218 ∧ k_ ≠ gb219))))) _ _ ((rd_T41 l0_3 x4_1).f3) t221 t222 t223 t226 _ ?side1 ?side2 A12.out).mono ?_
      (case side1 => exact HL220_2.out)
      (case side2 => exact HL220_3.out)
      rintro e w18 ⟨v224, v227, rfl, ho0, ho1, hb⟩
      have HS8_ := (hb.cell (World.block_lt_of_cell? _ _ (hHeld.2.2.2.2.2.2.2.2.1))).trans (hHeld.2.2.2.2.2.2.2.2.1)
      have HS9_ := (hb.cell (World.block_lt_of_cell? _ _ (hHeld.2.2.2.2.2.2.2.2.2.1))).trans (hHeld.2.2.2.2.2.2.2.2.2.1)
      have HS10_ := (hb.cell (World.block_lt_of_cell? _ _ (hHeld.2.2.2.2.2.2.2.2.2.2.1))).trans (hHeld.2.2.2.2.2.2.2.2.2.2.1)
      have HS11_ := (hb.cell (World.block_lt_of_cell? _ _ (hHeld.2.2.2.2.2.2.2.2.2.2.2))).trans (hHeld.2.2.2.2.2.2.2.2.2.2.2)
      refine ⟨_, rfl, ?_⟩
      have n0_ := Aside0.mk (Kd.V_elder' (by (with_reducible repeat (first | apply Kd.V_alloc | apply Kd.V_drewN | apply Kd.V_drew)); exact HO_218002.out) (Kd.N_base ho1) hb)
      have n1_ := Aside0.mk (Kd.V_elder' (by (with_reducible repeat (first | apply Kd.V_alloc | apply Kd.V_drewN | apply Kd.V_drew)); exact HO_218003.out) (Kd.N_base ho1) hb)
      have n2_ := Aside0.mk (Kd.V_elder' (by (with_reducible repeat (first | apply Kd.V_alloc | apply Kd.V_drewN | apply Kd.V_drew)); exact HO_220002.out) (Kd.N_base ho1) hb)
      have n3_ := Aside0.mk (Kd.N_elder' (by (with_reducible repeat (first | apply Kd.N_alloc | apply Kd.N_drewN | apply Kd.N_drew)); exact HO_220003.out) (Kd.N_base ho1) hb)
      have n4_ := Aside0.mk (Kd.V_elder' (by (with_reducible repeat (first | apply Kd.V_alloc | apply Kd.V_drewN | apply Kd.V_drew)); exact HL220_2.out) (Kd.N_base ho1) hb)
      have n5_ := Aside0.mk (Kd.V_elder' (by (with_reducible repeat (first | apply Kd.V_alloc | apply Kd.V_drewN | apply Kd.V_drew)); exact HL220_3.out) (Kd.N_base ho1) hb)
      have n6_ := Aside0.mk (Kd.V_lower (Kd.V_mono (ok' := fun k_ => ((P0_2_ k_ ∨ P0_3_ k_) ∨ w.heap.size ≤ k_) ∧ some k_ ≠ (v227 : Value).ownBlock ∧ some k_ ≠ (u220003 : Value).ownBlock ∧ k_ ≠ gb217 ∧ k_ ≠ gb218 ∧ k_ ≠ gb219) ho0 (fun k_ hk_ => ⟨Or.elim hk_.1 (fun hs_ => Or.elim hs_ (fun hs_ => hs_.1) (fun hs_ => hs_.1)) (fun hn_ => (.inr (Nat.le_trans (below_size (by repeat (first | (with_reducible first | exact HB.out | apply below_alloc | apply pw_below_drewN | apply below_drew1 | refine below_set ?_ GE217.out | refine below_set ?_ GE218.out | refine below_set ?_ GE219.out) | exact HB.out))) hn_))), hk_.2, Or.elim hk_.1 (fun hs_ => Or.elim hs_ (fun hs_ => hs_.2.1) (fun hs_ => hs_.2.1)) (fun hn_ => (Kd.fresh' (Kd.N_lt (by (with_reducible repeat (first | apply Kd.N_alloc | apply Kd.N_drewN | apply Kd.N_drew)); exact HO_220003.out)) k_ hn_)), Or.elim hk_.1 (fun hs_ => Or.elim hs_ (fun hs_ => hs_.2.2.1) (fun hs_ => hs_.2.2.1)) (fun hn_ => (Kd.freshB (g := gb217) (o := .cells #[.int .i64 a0_0, .string a0_1, .slice A0_2 l0_2.length c0_2, .slice (some ad220) l0_3.length c0_3] 41 (0, 0)) (by (with_reducible repeat (first | refine blk_drewN ?_ _ | refine blk_drew ?_ | refine blk_alloc ?_ _)); exact BK217.out) k_ hn_)), Or.elim hk_.1 (fun hs_ => Or.elim hs_ (fun hs_ => hs_.2.2.2.1) (fun hs_ => hs_.2.2.2.1)) (fun hn_ => (Kd.freshB (g := gb218) (o := .cells #[.int .i64 0, .string (⟨#[]⟩ : ByteArray), .slice none 0 0, .slice none 0 0] 25 (0, 0)) (by (with_reducible repeat (first | refine blk_drewN ?_ _ | refine blk_drew ?_ | refine blk_alloc ?_ _)); exact BK218.out) k_ hn_)), Or.elim hk_.1 (fun hs_ => Or.elim hs_ (fun hs_ => hs_.2.2.2.2) (fun hs_ => hs_.2.2.2.2)) (fun hn_ => (Kd.freshB (g := gb219) (o := .cells #[.int .i64 a0_0, .string a0_1, .slice A0_2 l0_2.length c0_2, u220003] 25 (0, 0)) (by (with_reducible repeat (first | refine blk_drewN ?_ _ | refine blk_drew ?_ | refine blk_alloc ?_ _)); exact BK219.out) k_ hn_))⟩)) (below_size (by repeat (first | (with_reducible first | exact HB.out | apply below_alloc | apply pw_below_drewN | apply below_drew1 | refine below_set ?_ GE217.out | refine below_set ?_ GE218.out | refine below_set ?_ GE219.out) | exact HB.out))))
      have n7_ := Aside0.mk (Kd.N_lower (Kd.N_mono (ok' := fun k_ => ((P0_2_ k_ ∨ P0_3_ k_) ∨ w.heap.size ≤ k_) ∧ some k_ ≠ (u220003 : Value).ownBlock ∧ k_ ≠ gb217 ∧ k_ ≠ gb218 ∧ k_ ≠ gb219) ho1 (fun k_ hk_ => ⟨Or.elim hk_ (fun hs_ => Or.elim hs_ (fun hs_ => hs_.1) (fun hs_ => hs_.1)) (fun hn_ => (.inr (Nat.le_trans (below_size (by repeat (first | (with_reducible first | exact HB.out | apply below_alloc | apply pw_below_drewN | apply below_drew1 | refine below_set ?_ GE217.out | refine below_set ?_ GE218.out | refine below_set ?_ GE219.out) | exact HB.out))) hn_))), Or.elim hk_ (fun hs_ => Or.elim hs_ (fun hs_ => hs_.2.1) (fun hs_ => hs_.2.1)) (fun hn_ => (Kd.fresh' (Kd.N_lt (by (with_reducible repeat (first | apply Kd.N_alloc | apply Kd.N_drewN | apply Kd.N_drew)); exact HO_220003.out)) k_ hn_)), Or.elim hk_ (fun hs_ => Or.elim hs_ (fun hs_ => hs_.2.2.1) (fun hs_ => hs_.2.2.1)) (fun hn_ => (Kd.freshB (g := gb217) (o := .cells #[.int .i64 a0_0, .string a0_1, .slice A0_2 l0_2.length c0_2, .slice (some ad220) l0_3.length c0_3] 41 (0, 0)) (by (with_reducible repeat (first | refine blk_drewN ?_ _ | refine blk_drew ?_ | refine blk_alloc ?_ _)); exact BK217.out) k_ hn_)), Or.elim hk_ (fun hs_ => Or.elim hs_ (fun hs_ => hs_.2.2.2.1) (fun hs_ => hs_.2.2.2.1)) (fun hn_ => (Kd.freshB (g := gb218) (o := .cells #[.int .i64 0, .string (⟨#[]⟩ : ByteArray), .slice none 0 0, .slice none 0 0] 25 (0, 0)) (by (with_reducible repeat (first | refine blk_drewN ?_ _ | refine blk_drew ?_ | refine blk_alloc ?_ _)); exact BK218.out) k_ hn_)), Or.elim hk_ (fun hs_ => Or.elim hs_ (fun hs_ => hs_.2.2.2.2) (fun hs_ => hs_.2.2.2.2)) (fun hn_ => (Kd.freshB (g := gb219) (o := .cells #[.int .i64 a0_0, .string a0_1, .slice A0_2 l0_2.length c0_2, u220003] 25 (0, 0)) (by (with_reducible repeat (first | refine blk_drewN ?_ _ | refine blk_drew ?_ | refine blk_alloc ?_ _)); exact BK219.out) k_ hn_))⟩)) (below_size (by repeat (first | (with_reducible first | exact HB.out | apply below_alloc | apply pw_below_drewN | apply below_drew1 | refine below_set ?_ GE217.out | refine below_set ?_ GE218.out | refine below_set ?_ GE219.out) | exact HB.out))))
      have n8_ := Aside0.mk (blk_below (g := gb217) (o := .cells #[.int .i64 a0_0, .string a0_1, .slice A0_2 l0_2.length c0_2, .slice (some ad220) l0_3.length c0_3] 41 (0, 0)) (by (with_reducible repeat (first | refine blk_drewN ?_ _ | refine blk_drew ?_ | refine blk_alloc ?_ _)); exact BK217.out) hb)
      have n9_ := Aside0.mk (blk_below (g := gb218) (o := .cells #[.int .i64 0, .string (⟨#[]⟩ : ByteArray), .slice none 0 0, .slice none 0 0] 25 (0, 0)) (by (with_reducible repeat (first | refine blk_drewN ?_ _ | refine blk_drew ?_ | refine blk_alloc ?_ _)); exact BK218.out) hb)
      have n10_ := Aside0.mk (blk_below (g := gb219) (o := .cells #[.int .i64 a0_0, .string a0_1, .slice A0_2 l0_2.length c0_2, u220003] 25 (0, 0)) (by (with_reducible repeat (first | refine blk_drewN ?_ _ | refine blk_drew ?_ | refine blk_alloc ?_ _)); exact BK219.out) hb)
      have n11_ := Aside0.mk (Kd.C_below (by repeat (first | (with_reducible exact HR220_2.out) | (with_reducible refine Kd.C_alloc ?_ _) | (with_reducible refine Kd.C_drewN ?_ _) | (with_reducible refine Kd.C_drew ?_) | exact HR220_2.out)) hb)
      have n12_ := Aside0.mk (Kd.C_below (by repeat (first | (with_reducible exact HR220_3.out) | (with_reducible refine Kd.C_alloc ?_ _) | (with_reducible refine Kd.C_drewN ?_ _) | (with_reducible refine Kd.C_drew ?_) | exact HR220_3.out)) hb)
      have n13_ := Aside0.mk (below_step (by repeat (first | (with_reducible first | exact HB.out | apply below_alloc | apply pw_below_drewN | apply below_drew1 | refine below_set ?_ GE217.out | refine below_set ?_ GE218.out | refine below_set ?_ GE219.out) | exact HB.out)) hb)
      clear HO_218002
      clear HO_218003
      clear HO_220002
      clear HO_220003
      clear HL220_2
      clear HL220_3
      clear BK217
      clear BK218
      clear BK219
      clear HR220_2
      clear HR220_3
      clear HB
      have HO_218002 := n0_
      have HO_218003 := n1_
      have HO_220002 := n2_
      have HO_220003 := n3_
      have HL220_2 := n4_
      have HL220_3 := n5_
      have HO225 := n6_
      have HO228 := n7_
      have BK217 := n8_
      have BK218 := n9_
      have BK219 := n10_
      have HR220_2 := n11_
      have HR220_3 := n12_
      have HB := n13_
      clear n0_ n1_ n2_ n3_ n4_ n5_ n6_ n7_ n8_ n9_ n10_ n11_ n12_ n13_
      (try clear hb)
      (try clear hb2)
      (try clear hk)
      (try clear hi)
      (try clear ho0)
      (try clear ho1)
      obtain ⟨Ao20, co20, eo20⟩ := Kd.V_slice HO225.out
      (first | subst eo20 | (injection eo20 with f1_ f2_ f3_; have f4_ := f1_.symm; have f5_ := f3_.symm; clear f1_ f2_ f3_; subst f4_; subst f5_))
      obtain ⟨Ao21, co21, eo21⟩ := Kd.N_slice HO228.out
      (first | subst eo21 | (injection eo21 with f1_ f2_ f3_; have f4_ := f1_.symm; have f5_ := f3_.symm; clear f1_ f2_ f3_; subst f4_; subst f5_))
      refine hK.out _ _ ⟨(blk_cell BK219.out 0).trans rfl, (blk_cell BK219.out 1).trans rfl, (blk_cell BK219.out 2).trans rfl, (blk_cell BK219.out 3).trans rfl, (blk_cell BK217.out 0).trans rfl, (blk_cell BK217.out 1).trans rfl, (blk_cell BK217.out 2).trans rfl, (blk_cell BK217.out 3).trans rfl, HS8_, HS9_, HS10_, HS11_⟩ (fun hHeld => ?_)
      clear hK K
      refine norm_ (a' := ?_) ?_ ?_
      rotate_left
      ·show Act.put _ (some 26) _ = _
       simp only [Act.put, List.setIfInBounds_toArray, List.set_cons_zero, List.set_cons_succ, i64_w, i32_w]
       rfl
      refine one_ (i := 8) (N := some 27) #[true, true, true, true, true, true, true, true, true, false, false, false] rfl rfl (one_of HT_.out (by kernel_rfl)) (by decide) (fun K hK => ?_)
      refine value_ (w1 := ?_) (v := ?_) (by rfl) rfl ?_ ?_
      rotate_left 2
      ·go_simp
       constructor
       ·rfl
       ·rfl
      refine hK.out _ _ ⟨(blk_cell (blk_alloc BK219.out _) 0).trans rfl, (blk_cell (blk_alloc BK219.out _) 1).trans rfl, (blk_cell (blk_alloc BK219.out _) 2).trans rfl, (blk_cell (blk_alloc BK219.out _) 3).trans rfl, (blk_cell (blk_alloc BK217.out _) 0).trans rfl, (blk_cell (blk_alloc BK217.out _) 1).trans rfl, (blk_cell (blk_alloc BK217.out _) 2).trans rfl, (blk_cell (blk_alloc BK217.out _) 3).trans rfl, (World.cell?_alloc_lt _ _ _ (World.block_lt_of_cell? _ _ (hHeld.2.2.2.2.2.2.2.2.1))).trans (hHeld.2.2.2.2.2.2.2.2.1), (World.cell?_alloc_lt _ _ _ (World.block_lt_of_cell? _ _ (hHeld.2.2.2.2.2.2.2.2.2.1))).trans (hHeld.2.2.2.2.2.2.2.2.2.1), (World.cell?_alloc_lt _ _ _ (World.block_lt_of_cell? _ _ (hHeld.2.2.2.2.2.2.2.2.2.2.1))).trans (hHeld.2.2.2.2.2.2.2.2.2.2.1), (World.cell?_alloc_lt _ _ _ (World.block_lt_of_cell? _ _ (hHeld.2.2.2.2.2.2.2.2.2.2.2))).trans (hHeld.2.2.2.2.2.2.2.2.2.2.2)⟩ (fun hHeld => ?_)
      clear hK K
      refine norm_ (a' := ?_) ?_ ?_
      rotate_left
      ·show Act.put _ (some 27) _ = _
       simp only [Act.put, List.setIfInBounds_toArray, List.set_cons_zero, List.set_cons_succ, i64_w, i32_w]
       rfl
      refine last_ (i := 9) (N := some 28) #[true, true, true, true, true, true, true, true, true, true, false, false] rfl rfl (one_of HT_.out (by kernel_rfl)) (by decide) (fun K hK => ?_)
      refine Kd.N_append_step k25 (w0 := w) w.heap.size (by rfl) (.tmp 20) (.tmp 27) 23 25 (.agg #[(.int .i64 0), (.string ⟨#[]⟩), (.slice none 0 0), (.slice none 0 0)]) 72 rfl Try.underlying23 info25 rfl (by decide) (by omega) u220003 x220003_1 (⟨t221, t222, t223, t226⟩ : S25) [.int .i64 t221, .string t222, .slice Ao20 t223.length co20, .slice Ao21 t226.length co21] (fun k_ => ((P0_2_ k_ ∨ P0_3_ k_) ∨ w.heap.size ≤ k_) ∧ k_ ≠ gb217 ∧ k_ ≠ gb218 ∧ k_ ≠ gb219) (fun k_ => ((fun k_ => ((P0_2_ k_ ∨ P0_3_ k_) ∨ w.heap.size ≤ k_) ∧ k_ ≠ gb217 ∧ k_ ≠ gb218 ∧ k_ ≠ gb219)) k_ ∧ some k_ ≠ (u220003 : Value).ownBlock) rfl rfl ?aP (fun _ hk => hk) ?aF ?aO ?aB ?aS ?aL ?_
      (case aP => exact (k25_mkF _ _ (⟨t221, t222, t223, t226⟩ : S25) (Kd.V_reads' (Kd.V_mono (ok' := (fun k_ => ((fun k_ => ((P0_2_ k_ ∨ P0_3_ k_) ∨ w.heap.size ≤ k_) ∧ k_ ≠ gb217 ∧ k_ ≠ gb218 ∧ k_ ≠ gb219)) k_ ∧ some k_ ≠ (u220003 : Value).ownBlock)) (HO225.out) (fun k_ hk => ⟨⟨hk.1, ⟨hk.2.2.2.1, ⟨hk.2.2.2.2.1, hk.2.2.2.2.2⟩⟩⟩, hk.2.2.1⟩))).2.1 (Kd.V_F (Kd.V_mono (ok' := (fun k_ => ((fun k_ => ((P0_2_ k_ ∨ P0_3_ k_) ∨ w.heap.size ≤ k_) ∧ k_ ≠ gb217 ∧ k_ ≠ gb218 ∧ k_ ≠ gb219)) k_ ∧ some k_ ≠ (u220003 : Value).ownBlock)) (HO225.out) (fun k_ hk => ⟨⟨hk.1, ⟨hk.2.2.2.1, ⟨hk.2.2.2.2.1, hk.2.2.2.2.2⟩⟩⟩, hk.2.2.1⟩))) (Kd.N_reads' (Kd.N_mono (ok' := (fun k_ => ((fun k_ => ((P0_2_ k_ ∨ P0_3_ k_) ∨ w.heap.size ≤ k_) ∧ k_ ≠ gb217 ∧ k_ ≠ gb218 ∧ k_ ≠ gb219)) k_ ∧ some k_ ≠ (u220003 : Value).ownBlock)) (HO228.out) (fun k_ hk => ⟨⟨hk.1, ⟨hk.2.2.1, ⟨hk.2.2.2.1, hk.2.2.2.2⟩⟩⟩, hk.2.1⟩))).2.1 (Kd.N_F (Kd.N_mono (ok' := (fun k_ => ((fun k_ => ((P0_2_ k_ ∨ P0_3_ k_) ∨ w.heap.size ≤ k_) ∧ k_ ≠ gb217 ∧ k_ ≠ gb218 ∧ k_ ≠ gb219)) k_ ∧ some k_ ≠ (u220003 : Value).ownBlock)) (HO228.out) (fun k_ hk => ⟨⟨hk.1, ⟨hk.2.2.1, ⟨hk.2.2.2.1, hk.2.2.2.2⟩⟩⟩, hk.2.1⟩)))))
      (case aB => exact (by repeat (first | (with_reducible first | exact HB.out | apply below_alloc | apply pw_below_drewN | apply below_drew1 | refine below_set ?_ GE217.out | refine below_set ?_ GE218.out | refine below_set ?_ GE219.out) | exact HB.out)))
      (case aF => exact (fun k_ hk => ⟨(.inr (Nat.le_trans (below_size (by repeat (first | (with_reducible first | exact HB.out | apply below_alloc | apply pw_below_drewN | apply below_drew1 | refine below_set ?_ GE217.out | refine below_set ?_ GE218.out | refine below_set ?_ GE219.out) | exact HB.out))) hk)), Kd.freshB (g := gb217) (o := .cells #[.int .i64 a0_0, .string a0_1, .slice A0_2 l0_2.length c0_2, .slice (some ad220) l0_3.length c0_3] 41 (0, 0)) (by (with_reducible repeat (first | refine blk_drewN ?_ _ | refine blk_drew ?_ | refine blk_alloc ?_ _)); exact BK217.out) k_ hk, Kd.freshB (g := gb218) (o := .cells #[.int .i64 0, .string (⟨#[]⟩ : ByteArray), .slice none 0 0, .slice none 0 0] 25 (0, 0)) (by (with_reducible repeat (first | refine blk_drewN ?_ _ | refine blk_drew ?_ | refine blk_alloc ?_ _)); exact BK218.out) k_ hk, Kd.freshB (g := gb219) (o := .cells #[.int .i64 a0_0, .string a0_1, .slice A0_2 l0_2.length c0_2, u220003] 25 (0, 0)) (by (with_reducible repeat (first | refine blk_drewN ?_ _ | refine blk_drew ?_ | refine blk_alloc ?_ _)); exact BK219.out) k_ hk⟩))
      (case aO => exact (by (with_reducible repeat (first | apply Kd.N_alloc | apply Kd.N_drewN | apply Kd.N_drew)); exact Kd.N_mono HO_220003.out (fun _ hk => ⟨hk.1.1, ⟨hk.1.2.1, ⟨hk.1.2.2.1, hk.1.2.2.2⟩⟩⟩)))
      (case aS => exact (below_size (by repeat (first | (with_reducible first | exact HB.out | apply below_alloc | apply pw_below_drewN | apply below_drew1 | refine below_set ?_ GE217.out | refine below_set ?_ GE218.out | refine below_set ?_ GE219.out) | exact HB.out))))
      (case aL => have := LMc13.out; omega)
      intro v230 w19 ho hb hg hat
      rw [← Ny229.out] at ho
      have n0_ := Aside0.mk (Kd.V_afterv (ok := (fun k_ => ((P0_2_ k_ ∨ P0_3_ k_) ∨ w.heap.size ≤ k_) ∧ some k_ ≠ (.slice Ao21 t226.length co21 : Value).ownBlock ∧ k_ ≠ gb217 ∧ k_ ≠ gb218 ∧ k_ ≠ gb219)) (by (with_reducible repeat (first | apply Kd.V_alloc | apply Kd.V_drewN | apply Kd.V_drew)); exact Kd.V_mono HO_218002.out (fun _ hk => ⟨⟨hk.1.1, ⟨hk.2, ⟨hk.1.2.2.1, ⟨hk.1.2.2.2.1, hk.1.2.2.2.2⟩⟩⟩⟩, hk.1.2.1⟩)) hg hat)
      have n1_ := Aside0.mk (Kd.V_afterv (ok := (fun k_ => ((P0_2_ k_ ∨ P0_3_ k_) ∨ w.heap.size ≤ k_) ∧ some k_ ≠ (.slice Ao21 t226.length co21 : Value).ownBlock ∧ k_ ≠ gb217 ∧ k_ ≠ gb218 ∧ k_ ≠ gb219)) (by (with_reducible repeat (first | apply Kd.V_alloc | apply Kd.V_drewN | apply Kd.V_drew)); exact Kd.V_mono HO_218003.out (fun _ hk => ⟨⟨hk.1.1, ⟨hk.2, ⟨hk.1.2.2.1, ⟨hk.1.2.2.2.1, hk.1.2.2.2.2⟩⟩⟩⟩, hk.1.2.1⟩)) hg hat)
      have n2_ := Aside0.mk (Kd.V_afterv (ok := (fun k_ => ((P0_2_ k_ ∨ P0_3_ k_) ∨ w.heap.size ≤ k_) ∧ some k_ ≠ (.slice Ao21 t226.length co21 : Value).ownBlock ∧ k_ ≠ gb217 ∧ k_ ≠ gb218 ∧ k_ ≠ gb219)) (by (with_reducible repeat (first | apply Kd.V_alloc | apply Kd.V_drewN | apply Kd.V_drew)); exact Kd.V_mono HO_220002.out (fun _ hk => ⟨⟨hk.1.1, ⟨hk.2, ⟨hk.1.2.2.1, ⟨hk.1.2.2.2.1, hk.1.2.2.2.2⟩⟩⟩⟩, hk.1.2.1⟩)) hg hat)
      have n3_ := Aside0.mk (blk_grown (g := gb217) (o := .cells #[.int .i64 a0_0, .string a0_1, .slice A0_2 l0_2.length c0_2, .slice (some ad220) l0_3.length c0_3] 41 (0, 0)) (by (with_reducible repeat (first | refine blk_drewN ?_ _ | refine blk_drew ?_ | refine blk_alloc ?_ _)); exact BK217.out) hg (Kd.N_ne HO_220003.out BK217.out (by decide)))
      have n4_ := Aside0.mk (blk_grown (g := gb218) (o := .cells #[.int .i64 0, .string (⟨#[]⟩ : ByteArray), .slice none 0 0, .slice none 0 0] 25 (0, 0)) (by (with_reducible repeat (first | refine blk_drewN ?_ _ | refine blk_drew ?_ | refine blk_alloc ?_ _)); exact BK218.out) hg (Kd.N_away HO_220003.out (fun _ hk => hk.1.2.2.1)))
      have n5_ := Aside0.mk (blk_grown (g := gb219) (o := .cells #[.int .i64 a0_0, .string a0_1, .slice A0_2 l0_2.length c0_2, u220003] 25 (0, 0)) (by (with_reducible repeat (first | refine blk_drewN ?_ _ | refine blk_drew ?_ | refine blk_alloc ?_ _)); exact BK219.out) hg (Kd.N_away HO_220003.out (fun _ hk => hk.1.2.2.2)))
      have n6_ := Aside0.mk (Kd.V_afterv (ok := (fun k_ => ((P0_2_ k_ ∨ P0_3_ k_) ∨ w.heap.size ≤ k_) ∧ some k_ ≠ (.slice Ao21 t226.length co21 : Value).ownBlock ∧ k_ ≠ gb217 ∧ k_ ≠ gb218 ∧ k_ ≠ gb219)) (by (with_reducible repeat (first | apply Kd.V_alloc | apply Kd.V_drewN | apply Kd.V_drew)); exact Kd.V_mono HL220_2.out (fun _ hk => ⟨⟨hk.1.1, ⟨hk.2, ⟨hk.1.2.2.1, ⟨hk.1.2.2.2.1, hk.1.2.2.2.2⟩⟩⟩⟩, hk.1.2.1⟩)) hg hat)
      have n7_ := Aside0.mk (Kd.V_afterv (ok := (fun k_ => ((P0_2_ k_ ∨ P0_3_ k_) ∨ w.heap.size ≤ k_) ∧ some k_ ≠ (.slice Ao21 t226.length co21 : Value).ownBlock ∧ k_ ≠ gb217 ∧ k_ ≠ gb218 ∧ k_ ≠ gb219)) (by (with_reducible repeat (first | apply Kd.V_alloc | apply Kd.V_drewN | apply Kd.V_drew)); exact Kd.V_mono HL220_3.out (fun _ hk => ⟨⟨hk.1.1, ⟨hk.2, ⟨hk.1.2.2.1, ⟨hk.1.2.2.2.1, hk.1.2.2.2.2⟩⟩⟩⟩, hk.1.2.1⟩)) hg hat)
      have n8_ := Aside0.mk (Kd.V_afterv (ok := (fun k_ => ((P0_2_ k_ ∨ P0_3_ k_) ∨ w.heap.size ≤ k_) ∧ some k_ ≠ (.slice Ao21 t226.length co21 : Value).ownBlock ∧ k_ ≠ gb217 ∧ k_ ≠ gb218 ∧ k_ ≠ gb219)) (by (with_reducible repeat (first | apply Kd.V_alloc | apply Kd.V_drewN | apply Kd.V_drew)); exact Kd.V_mono HO225.out (fun _ hk => ⟨⟨hk.1, ⟨hk.2.1, ⟨hk.2.2.2.1, ⟨hk.2.2.2.2.1, hk.2.2.2.2.2⟩⟩⟩⟩, hk.2.2.1⟩)) hg hat)
      have n9_ := Aside0.mk (hb)
      have n10_ := Aside0.mk (ho)
      clear HO_218002
      clear HO_218003
      clear HO_220002
      clear BK217
      clear BK218
      clear BK219
      clear HL220_2
      clear HL220_3
      clear HO225
      clear HB
      clear HO_220003
      clear HO228
      have HO_218002 := n0_
      have HO_218003 := n1_
      have HO_220002 := n2_
      have BK217 := n3_
      have BK218 := n4_
      have BK219 := n5_
      have HL220_2 := n6_
      have HL220_3 := n7_
      have HO225 := n8_
      have HB := n9_
      have HO231 := n10_
      clear n0_ n1_ n2_ n3_ n4_ n5_ n6_ n7_ n8_ n9_ n10_
      clear ho hb hg hat
      obtain ⟨Ao22, co22, eo22⟩ := Kd.N_slice HO231.out
      (first | subst eo22 | (injection eo22 with f1_ f2_ f3_; have f4_ := f1_.symm; have f5_ := f3_.symm; clear f1_ f2_ f3_; subst f4_; subst f5_))
      refine hK.out _ _ ?_
      clear hK K
      refine norm_ (a' := ?_) ?_ ?_
      rotate_left
      ·show Act.put _ (some 28) _ = _
       simp only [Act.put, List.setIfInBounds_toArray, List.set_cons_zero, List.set_cons_succ, i64_w, i32_w]
       rfl
      refine pure_ (i := 10) (N := some 29) (v := ?_) (a' := ?_) #[true, true, true, true, true, true, true, true, true, true, true, false] rfl rfl (any_of HT_.out (by kernel_rfl)) (fun _ _ _ h => h) (Or.inl ⟨by rfl, ?_⟩) ?_ ?_
      rotate_left
      ·intro w'
       go_simp
       with_reducible rfl
      rotate_left
      ·simp only [Act.put, List.setIfInBounds_toArray, List.set_cons_zero, List.set_cons_succ, i64_w, i32_w]
       rfl
      refine last_ (i := 11) (N := none) #[true, true, true, true, true, true, true, true, true, true, true, true] rfl rfl (one_of HT_.out (by kernel_rfl)) (by decide) (fun K hK => ?_)
      have hs23 : w19.cell? ⟨gb219, 3, none⟩ = some (u220003) := (blk_cell BK219.out 3).trans rfl
      have hfs23 := blk_frozen BK219.out 3
      have hns23_0 := NB217_219.out
      have hns23_1 := NB218_219.out
      have hms23_0 := NB219_217.out
      have hms23_1 := NB219_218.out
      refine skip_ (w1 := ?_) (by rfl) rfl ?_ ?_
      rotate_left
      ·go_simp
       rfl
      refine hK.out _ _ ?_
      clear hK K
      refine done_ (done_of HT_.out (by kernel_rfl)) ?_
      try go_wp2
      go_roundg k1
      case measure => have := HK1.out; omega
      case rel => exact ⟨(wrap64 (x4_1 + 1)), (y229), (.slice Ao22 y229.length co22), (by first | rfl | (simp; done) | (simp [*]; done)), H', ⟨by have := HK1.out; omega⟩, ⟨by (with_reducible repeat (first | apply Kd.V_alloc | apply Kd.V_drewN | apply Kd.V_drew)); exact Kd.V_mono (Kd.V_far (p := ⟨gb219, 3, none⟩) (Kd.V_mono HO_218002.out (fun k_ hk => (⟨hk, hk.1.2.2.2.2⟩ : _ ∧ k_ ≠ gb219))) (fun _ hk => hk.2) (.slice Ao22 y229.length co22)) (fun _ hk => ⟨hk.1.1.1, ⟨hk.1.2, ⟨hk.1.1.2.2.1, ⟨hk.1.1.2.2.2.1, hk.1.1.2.2.2.2⟩⟩⟩⟩)⟩, ⟨by (with_reducible repeat (first | apply Kd.V_alloc | apply Kd.V_drewN | apply Kd.V_drew)); exact Kd.V_mono (Kd.V_far (p := ⟨gb219, 3, none⟩) (Kd.V_mono HO_218003.out (fun k_ hk => (⟨hk, hk.1.2.2.2.2⟩ : _ ∧ k_ ≠ gb219))) (fun _ hk => hk.2) (.slice Ao22 y229.length co22)) (fun _ hk => ⟨hk.1.1.1, ⟨hk.1.2, ⟨hk.1.1.2.2.1, ⟨hk.1.1.2.2.2.1, hk.1.1.2.2.2.2⟩⟩⟩⟩)⟩, ⟨by (with_reducible repeat (first | apply Kd.V_alloc | apply Kd.V_drewN | apply Kd.V_drew)); exact Kd.V_mono (Kd.V_far (p := ⟨gb219, 3, none⟩) (Kd.V_mono HO_220002.out (fun k_ hk => (⟨hk, hk.1.2.2.2.2⟩ : _ ∧ k_ ≠ gb219))) (fun _ hk => hk.2) (.slice Ao22 y229.length co22)) (fun _ hk => ⟨hk.1.1.1, ⟨hk.1.2, ⟨hk.1.1.2.2.1, ⟨hk.1.1.2.2.2.1, hk.1.1.2.2.2.2⟩⟩⟩⟩)⟩, ⟨by (with_reducible repeat (first | apply Kd.N_alloc | apply Kd.N_drewN | apply Kd.N_drew)); exact Kd.N_mono (Kd.N_far (p := ⟨gb219, 3, none⟩) (Kd.N_mono HO231.out (fun k_ hk => (⟨hk, hk.2.2.2⟩ : _ ∧ k_ ≠ gb219))) (fun _ hk => hk.2) (.slice Ao22 y229.length co22)) (fun _ hk => ⟨hk.1.1, ⟨hk.1.2.1, ⟨hk.1.2.2.1, hk.1.2.2.2⟩⟩⟩)⟩, ⟨by (with_reducible repeat (first | refine blk_drewN ?_ _ | refine blk_drew ?_ | refine blk_alloc ?_ _)); refine blk_far ?_ NB217_219.out _; (with_reducible repeat (first | refine blk_drewN ?_ _ | refine blk_drew ?_ | refine blk_alloc ?_ _)); exact BK217.out⟩, ⟨by (with_reducible repeat (first | refine blk_drewN ?_ _ | refine blk_drew ?_ | refine blk_alloc ?_ _)); refine blk_far ?_ NB218_219.out _; (with_reducible repeat (first | refine blk_drewN ?_ _ | refine blk_drew ?_ | refine blk_alloc ?_ _)); exact BK218.out⟩, ⟨by (with_reducible repeat (first | refine blk_drewN ?_ _ | refine blk_drew ?_ | refine blk_alloc ?_ _)); refine blk_put (cs := #[.int .i64 a0_0, .string a0_1, .slice A0_2 l0_2.length c0_2, u220003]) ?_ 3 _ rfl; (with_reducible repeat (first | refine blk_drewN ?_ _ | refine blk_drew ?_ | refine blk_alloc ?_ _)); exact BK219.out⟩, ⟨by repeat (first | (with_reducible first | exact HB.out | apply below_alloc | apply pw_below_drewN | apply below_drew1 | refine below_set ?_ GE217.out | refine below_set ?_ GE218.out | refine below_set ?_ GE219.out) | exact HB.out)⟩⟩
     ·rw [if_neg c13] at H
      exact absurd H (by simp)
    ·rw [if_neg c11] at H
     exact absurd H (by simp)
   ·rw [if_neg c10] at H
    have c10b0 : decide (x4_1 < (l0_3.length : Int)) = false := decide_eq_false c10
    clear c10
    simp only [Option.some.injEq, Prod.mk.injEq] at H
    obtain ⟨rfl, rfl, rfl, rfl⟩ := H
    have hnb24 := NB217_218.out
    have hnc24 := NB218_217.out
    have hnb25 := NB217_219.out
    have hnc25 := NB219_217.out
    have hcz26_0 : wr.cell? ⟨gb217, 0, none⟩ = some (.int .i64 a0_0) := (blk_cell BK217.out 0).trans rfl
    have hcz26_1 : wr.cell? ⟨gb217, 1, none⟩ = some (.string a0_1) := (blk_cell BK217.out 1).trans rfl
    have hcz26_2 : wr.cell? ⟨gb217, 2, none⟩ = some (.slice A0_2 l0_2.length c0_2) := (blk_cell BK217.out 2).trans rfl
    have hcz26_3 : wr.cell? ⟨gb217, 3, none⟩ = some (.slice A0_3 l0_3.length c0_3) := (blk_cell BK217.out 3).trans rfl
    have hfz26_0 := blk_frozen BK217.out 0
    have hfz26_1 := blk_frozen BK217.out 1
    have hfz26_2 := blk_frozen BK217.out 2
    have hfz26_3 := blk_frozen BK217.out 3
    have hnb27 := NB219_218.out
    have hnc27 := NB218_219.out
    have hcz28_0 : wr.cell? ⟨gb219, 0, none⟩ = some (.int .i64 a0_0) := (blk_cell BK219.out 0).trans rfl
    have hcz28_1 : wr.cell? ⟨gb219, 1, none⟩ = some (.string a0_1) := (blk_cell BK219.out 1).trans rfl
    have hcz28_2 : wr.cell? ⟨gb219, 2, none⟩ = some (.slice A0_2 l0_2.length c0_2) := (blk_cell BK219.out 2).trans rfl
    have hcz28_3 : wr.cell? ⟨gb219, 3, none⟩ = some (u220003) := (blk_cell BK219.out 3).trans rfl
    have hfz28_0 := blk_frozen BK219.out 0
    have hfz28_1 := blk_frozen BK219.out 1
    have hfz28_2 := blk_frozen BK219.out 2
    have hfz28_3 := blk_frozen BK219.out 3
    have hcz29_0 : wr.cell? ⟨gb218, 0, none⟩ = some (.int .i64 0) := (blk_cell BK218.out 0).trans rfl
    have hcz29_1 : wr.cell? ⟨gb218, 1, none⟩ = some (.string (⟨#[]⟩ : ByteArray)) := (blk_cell BK218.out 1).trans rfl
    have hcz29_2 : wr.cell? ⟨gb218, 2, none⟩ = some (.slice none 0 0) := (blk_cell BK218.out 2).trans rfl
    have hcz29_3 : wr.cell? ⟨gb218, 3, none⟩ = some (.slice none 0 0) := (blk_cell BK218.out 3).trans rfl
    have hfz29_0 := blk_frozen BK218.out 0
    have hfz29_1 := blk_frozen BK218.out 1
    have hfz29_2 := blk_frozen BK218.out 2
    have hfz29_3 := blk_frozen BK218.out 3
    obtain ⟨Ao30, co30, eo30⟩ := Kd.N_slice HO_220003.out
    subst eo30
    go_wp2
    refine bodyPost_ret (results_cell_row rfl _ _ gb218 25 #[.int .i64 a0_0, .string a0_1, .slice A0_2 l0_2.length c0_2, .slice Ao30 x220003_1.length co30] (0, 0) _ rfl (by (with_reducible repeat (first | refine blk_drewN ?_ _ | refine blk_drew ?_ | refine blk_alloc ?_ _)); refine blk_put (cs := #[.int .i64 a0_0, .string a0_1, .slice A0_2 l0_2.length c0_2, .slice none 0 0]) ?_ 3 _ rfl; (with_reducible repeat (first | refine blk_drewN ?_ _ | refine blk_drew ?_ | refine blk_alloc ?_ _)); refine blk_put (cs := #[.int .i64 a0_0, .string a0_1, .slice none 0 0, .slice none 0 0]) ?_ 2 _ rfl; (with_reducible repeat (first | refine blk_drewN ?_ _ | refine blk_drew ?_ | refine blk_alloc ?_ _)); refine blk_put (cs := #[.int .i64 a0_0, .string (⟨#[]⟩ : ByteArray), .slice none 0 0, .slice none 0 0]) ?_ 1 _ rfl; (with_reducible repeat (first | refine blk_drewN ?_ _ | refine blk_drew ?_ | refine blk_alloc ?_ _)); refine blk_put (cs := #[.int .i64 0, .string (⟨#[]⟩ : ByteArray), .slice none 0 0, .slice none 0 0]) ?_ 0 _ rfl; (with_reducible repeat (first | refine blk_drewN ?_ _ | refine blk_drew ?_ | refine blk_alloc ?_ _)); exact BK218.out) Try.underlying25 rfl (by kernel_rfl)) rfl ?_
    exact ⟨_, _, by first | rfl | (simp [errW_none, errW_some] <;> rfl) | (simp [*, errW_none, errW_some] <;> rfl), by (with_reducible repeat (first | apply Kd.V_alloc | apply Kd.V_drewN | apply Kd.V_drew)); exact Kd.V_mono (Kd.V_far (p := ⟨gb218, 3, none⟩) (Kd.V_far (p := ⟨gb218, 2, none⟩) (Kd.V_far (p := ⟨gb218, 1, none⟩) (Kd.V_far (p := ⟨gb218, 0, none⟩) (Kd.V_mono HO_220002.out (fun k_ hk => (⟨hk, hk.2.2.2.1⟩ : _ ∧ k_ ≠ gb218))) (fun _ hk => hk.2) (.int .i64 a0_0)) (fun _ hk => hk.2) (.string a0_1)) (fun _ hk => hk.2) (.slice A0_2 l0_2.length c0_2)) (fun _ hk => hk.2) (.slice Ao30 x220003_1.length co30)) (fun _ hk => ⟨hk.1.1, hk.1.2.1⟩), by (with_reducible repeat (first | apply Kd.N_alloc | apply Kd.N_drewN | apply Kd.N_drew)); exact Kd.N_mono (Kd.N_far (p := ⟨gb218, 3, none⟩) (Kd.N_far (p := ⟨gb218, 2, none⟩) (Kd.N_far (p := ⟨gb218, 1, none⟩) (Kd.N_far (p := ⟨gb218, 0, none⟩) (Kd.N_mono HO_220003.out (fun k_ hk => (⟨hk, hk.2.2.1⟩ : _ ∧ k_ ≠ gb218))) (fun _ hk => hk.2) (.int .i64 a0_0)) (fun _ hk => hk.2) (.string a0_1)) (fun _ hk => hk.2) (.slice A0_2 l0_2.length c0_2)) (fun _ hk => hk.2) (.slice Ao30 x220003_1.length co30)) (fun _ hk => hk.1.1), by repeat (first | (with_reducible first | exact HB.out | apply below_alloc | apply pw_below_drewN | apply below_drew1 | refine below_set ?_ GE217.out | refine below_set ?_ GE218.out | refine below_set ?_ GE219.out) | exact HB.out)⟩
end Go.Proofs.Yteighppcdpaekaa.P
end
section
namespace Go.Proofs.Yteighppcdpaekaa.Eq4
open Go.RowKit Go.Proofs.YteighppcdpaekaaW.PrintWords Go.Proofs.Yteighppcdpaekaa.P
section
variable {α β : Type} {r : α}
theorem Evpos {c : Prop} [Decidable c] {A B : Nat → Option α} (hc : c) (h : Ev A r) : Ev (fun k => if c then A k else B k) r := by simpa only [if_pos hc] using h
theorem Evneg {c : Prop} [Decidable c] {A B : Nat → Option α} (hc : ¬ c) (h : Ev B r) : Ev (fun k => if c then A k else B k) r := by simpa only [if_neg hc] using h
end
theorem w64 {i : Nat} (h : i < 1000000000000) : wrap64 ((i : Int) + 1) = ((i + 1 : Nat) : Int) := by unfold wrap64; omega
mutual
def szS : S25 → Nat
 | ⟨_, _, _, l⟩ => szL l + 1
def szL : List S25 → Nat
 | [] => 0
 | x :: r => szS x + szL r
end
mutual
def ofS : S25 → S41
 | ⟨a, b, c, l⟩ => ⟨a, b, c, ofL l⟩
def ofL : List S25 → List S41
 | [] => []
 | x :: r => ofS x :: ofL r
end
theorem S25_eta (v : S25) : (⟨v.f0, v.f1, v.f2, v.f3⟩ : S25) = v := by cases v; rfl
theorem szS_eq (v : S25) : szS v = szL v.f3 + 1 := by cases v; simp [szS]
theorem ofS_eq (v : S25) : ofS v = ⟨v.f0, v.f1, v.f2, ofL v.f3⟩ := by cases v; simp [ofS]
theorem ofL_map (l : List S25) : ofL l = l.map ofS := by
 induction l with
 | nil => simp [ofL]
 | cons x r ih => simp [ofL, ih]
theorem szL_mem {x : S25} {l : List S25} (h : x ∈ l) : szS x ≤ szL l := by
 induction l with
 | nil => cases h
 | cons y r ih =>
  simp only [szL]
  rcases List.mem_cons.1 h with rfl | h
  ·omega
  ·have := ih h; omega
theorem rd25 {l : List S25} {i : Nat} (h : i < l.length) : rd_T25 l (i : Int) = l[i] := by
 unfold rd_T25
 rw [Int.toNat_natCast, List.getD_eq_getElem?_getD, List.getElem?_eq_getElem h]
 rfl
theorem rd41 {l : List S41} {i : Nat} (h : i < l.length) : rd_T41 l (i : Int) = l[i] := by
 unfold rd_T41
 rw [Int.toNat_natCast, List.getD_eq_getElem?_getD, List.getElem?_eq_getElem h]
 rfl
theorem rdB {l : List ByteArray} {i : Nat} (h : i < l.length) : rdOf ByteArray.empty l (i : Int) = l[i] := by
 unfold rdOf
 rw [Int.toNat_natCast, List.getD_eq_getElem?_getD, List.getElem?_eq_getElem h]
 rfl
inductive Light : S25 → Prop where
 | mk {v : S25} (h3 : v.f3.length ≤ 100) (h2 : v.f2.length ≤ 100) (h1 : v.f1.size ≤ 1000) (hk : ∀ (i : Nat) (h : i < v.f2.length), (v.f2[i]).size ≤ 200) (hl : ∀ x ∈ v.f3, Light x) : Light v
theorem Light.out {v : S25} (h : Light v) : v.f3.length ≤ 100 ∧ v.f2.length ≤ 100 ∧ v.f1.size ≤ 1000 ∧ (∀ (i : Nat) (h : i < v.f2.length), (v.f2[i]).size ≤ 200) ∧ ∀ x ∈ v.f3, Light x := by
 cases h with
 | mk h3 h2 h1 hk hl => exact ⟨h3, h2, h1, hk, hl⟩
theorem light_l1 {n : Nat} (ih : ∀ v d, szS v ≤ n → 0 ≤ d → d ≤ 91 → ∃ b, Ev (fun k => whetstonelaw04_light.f k v.f0 v.f1 v.f2 v.f3 d) b ∧ (b = true → Light v)) {v : S25} {d : Int} (hn : szL v.f3 ≤ n) (hd0 : 0 ≤ d) (hd1 : d ≤ 90) (h3 : v.f3.length ≤ 100) :
  ∀ m i : Nat, v.f3.length - i = m → i ≤ v.f3.length → ∃ b, Ev (fun k => whetstonelaw04_light.l1 k d (i : Int) v.f0 v.f1 v.f2 v.f3) b ∧ (b = true → ∀ j, i ≤ j → (h : j < v.f3.length) → Light v.f3[j]) := by
 intro m
 induction m with
 | zero =>
  intro i hm hi
  refine ⟨true, Ev.step (fun k => rfl) ?_, fun _ j h1 h2 => by omega⟩
  simp only [whetstonelaw04_light.l1]
  exact Evneg (by omega) (Ev.now _)
 | succ m im =>
  intro i hm hi
  have hlt : i < v.f3.length := by omega
  obtain ⟨b, hb, hL⟩ := ih v.f3[i] (d + 1) (Nat.le_trans (szL_mem (List.getElem_mem hlt)) hn) (by omega) (by omega)
  have hw : wrap64 (d + 1) = d + 1 := by unfold wrap64; omega
  cases b with
  | false =>
   refine ⟨false, Ev.step (fun k => rfl) ?_, fun h => by cases h⟩
   simp only [whetstonelaw04_light.l1, rd25 hlt, hw]
   exact Evpos (by omega) (Evpos (by omega) (Ev.bind hb (Evneg (by simp) (Ev.now _))))
  | true =>
   obtain ⟨b2, hb2, hL2⟩ := im (i + 1) (by omega) (by omega)
   refine ⟨b2, Ev.step (fun k => rfl) ?_, fun h j h1 h2 => ?_⟩
   ·simp only [whetstonelaw04_light.l1, rd25 hlt, hw]
    refine Evpos (by omega) (Evpos (by omega) (Ev.bind hb (Evpos rfl ?_)))
    rw [w64 (by omega)]
    exact hb2
   ·by_cases hj : j = i
    ·subst hj; exact hL rfl
    ·exact hL2 h j (by omega) h2
theorem light_l0 {v : S25} {d : Int} {b1 : Bool} (h1 : Ev (fun k => whetstonelaw04_light.l1 k d 0 v.f0 v.f1 v.f2 v.f3) b1) (h2 : v.f2.length ≤ 100) :
  ∀ m i : Nat, v.f2.length - i = m → i ≤ v.f2.length → ∃ b, Ev (fun k => whetstonelaw04_light.l0 k d (i : Int) v.f0 v.f1 v.f2 v.f3) b ∧ (b = true → b1 = true ∧ ∀ j, i ≤ j → (h : j < v.f2.length) → (v.f2[j]).size ≤ 200) := by
 intro m
 induction m with
 | zero =>
  intro i hm hi
  refine ⟨b1, Ev.step (fun k => rfl) ?_, fun h => ⟨h, fun j h1 h2 => by omega⟩⟩
  simp only [whetstonelaw04_light.l0]
  exact Evneg (by omega) h1
 | succ m im =>
  intro i hm hi
  have hlt : i < v.f2.length := by omega
  by_cases hs : ((v.f2[i]).size : Int) > 200
  ·refine ⟨false, Ev.step (fun k => rfl) ?_, fun h => by cases h⟩
   simp only [whetstonelaw04_light.l0, rdB hlt]
   exact Evpos (by omega) (Evpos (by omega) (Evpos hs (Ev.now _)))
  ·obtain ⟨b2, hb2, hL2⟩ := im (i + 1) (by omega) (by omega)
   refine ⟨b2, Ev.step (fun k => rfl) ?_, fun h => ⟨(hL2 h).1, fun j h1 h2 => ?_⟩⟩
   ·simp only [whetstonelaw04_light.l0, rdB hlt]
    refine Evpos (by omega) (Evpos (by omega) (Evneg hs ?_))
    rw [w64 (by omega)]
    exact hb2
   ·by_cases hj : j = i
    ·subst hj; omega
    ·exact (hL2 h).2 j (by omega) h2
theorem light_val : ∀ n v d, szS v ≤ n → 0 ≤ d → d ≤ 91 → ∃ b, Ev (fun k => whetstonelaw04_light.f k v.f0 v.f1 v.f2 v.f3 d) b ∧ (b = true → Light v) := by
 intro n
 induction n with
 | zero => intro v d h; rw [szS_eq] at h; omega
 | succ n ih =>
  intro v d h hd0 hd1
  rw [szS_eq] at h
  have no : Ev (fun k => whetstonelaw04_light.j0 k d true v.f0 v.f1 v.f2 v.f3) false := Ev.step (fun k => rfl) (by simp only [whetstonelaw04_light.j0]; exact Evpos (by trivial) (Ev.now _))
  by_cases h3 : (v.f3.length : Int) > 100
  ·exact ⟨false, Ev.step (fun k => rfl) (by simp only [whetstonelaw04_light.f]; exact Evpos h3 no), fun h => by cases h⟩
  by_cases h2 : (v.f2.length : Int) > 100
  ·exact ⟨false, Ev.step (fun k => rfl) (by simp only [whetstonelaw04_light.f]; exact Evneg h3 (Evpos h2 no)), fun h => by cases h⟩
  by_cases h1 : (v.f1.size : Int) > 1000
  ·exact ⟨false, Ev.step (fun k => rfl) (by simp only [whetstonelaw04_light.f]; exact Evneg h3 (Evneg h2 (Evpos h1 no))), fun h => by cases h⟩
  by_cases hd : d > 90
  ·refine ⟨false, Ev.step (fun k => rfl) ?_, fun h => by cases h⟩
   simp only [whetstonelaw04_light.f, hd, decide_true]
   exact Evneg h3 (Evneg h2 (Evneg h1 no))
  obtain ⟨b1, hb1, hL1⟩ := light_l1 ih (v := v) (d := d) (by omega) hd0 (by omega) (by omega) _ 0 rfl (by omega)
  obtain ⟨b0, hb0, hL0⟩ := light_l0 hb1 (by omega) _ 0 rfl (by omega)
  refine ⟨b0, Ev.step (fun k => rfl) ?_, fun h => ?_⟩
  ·simp only [whetstonelaw04_light.f, hd, decide_false]
   refine Evneg h3 (Evneg h2 (Evneg h1 (Ev.step (fun k => rfl) ?_)))
   simp only [whetstonelaw04_light.j0]
   exact Evneg (by simp) hb0
  ·obtain ⟨e1, e2⟩ := hL0 h
   refine Light.mk (by omega) (by omega) (by omega) (fun i hi => e2 i (by omega) hi) fun x hx => ?_
   obtain ⟨j, hj, rfl⟩ := List.mem_iff_getElem.1 hx
   exact hL1 e1 j (by omega) hj
theorem of_l0 {n : Nat} (ih : ∀ v, szS v ≤ n → Light v → Ev (fun k => whetstonelaw04_of.f k v.f0 v.f1 v.f2 v.f3) (v.f0, v.f1, v.f2, ofL v.f3)) {v : S25} (hn : szL v.f3 ≤ n) (hL : Light v) {a : Int} {b : ByteArray} {c : List ByteArray} :
  ∀ m i : Nat, v.f3.length - i = m → i ≤ v.f3.length → Ev (fun k => whetstonelaw04_of.l0 k (i : Int) v.f0 v.f1 v.f2 v.f3 a b c (ofL (v.f3.take i))) (a, b, c, ofL v.f3) := by
 obtain ⟨h3, _, _, _, hl⟩ := hL.out
 intro m
 induction m with
 | zero =>
  intro i hm hi
  refine Ev.step (fun k => rfl) ?_
  simp only [whetstonelaw04_of.l0]
  rw [List.take_of_length_le (by omega)]
  exact Evneg (by omega) (Ev.now _)
 | succ m im =>
  intro i hm hi
  have hlt : i < v.f3.length := by omega
  have hb := ih v.f3[i] (Nat.le_trans (szL_mem (List.getElem_mem hlt)) hn) (hl _ (List.getElem_mem hlt))
  refine Ev.step (fun k => rfl) ?_
  simp only [whetstonelaw04_of.l0, rd25 hlt]
  refine Evpos (by omega) (Evpos (by omega) (Ev.bind hb (Evpos (by rw [ofL_map, List.length_map, List.length_take]; omega) ?_)))
  rw [w64 (by omega)]
  have := im (i + 1) (by omega) (by omega)
  rw [List.take_succ_eq_append_getElem hlt, ofL_map, List.map_append, ← ofL_map, List.map_cons, List.map_nil, ofS_eq] at this
  exact this
theorem of_val : ∀ n v, szS v ≤ n → Light v → Ev (fun k => whetstonelaw04_of.f k v.f0 v.f1 v.f2 v.f3) (v.f0, v.f1, v.f2, ofL v.f3) := by
 intro n
 induction n with
 | zero => intro v h; rw [szS_eq] at h; omega
 | succ n ih =>
  intro v h hL
  rw [szS_eq] at h
  refine Ev.step (fun k => rfl) ?_
  simp only [whetstonelaw04_of.f]
  exact of_l0 ih (by omega) hL _ 0 rfl (by omega)
theorem to_l0 {n : Nat} (ih : ∀ v, szS v ≤ n → Light v → Ev (fun k => whetstonelaw04_to.f k v.f0 v.f1 v.f2 (ofL v.f3)) (v.f0, v.f1, v.f2, v.f3)) {v : S25} (hn : szL v.f3 ≤ n) (hL : Light v) {a : Int} {b : ByteArray} {c : List ByteArray} :
  ∀ m i : Nat, v.f3.length - i = m → i ≤ v.f3.length → Ev (fun k => whetstonelaw04_to.l0 k (i : Int) v.f0 v.f1 v.f2 (ofL v.f3) a b c (v.f3.take i)) (a, b, c, v.f3) := by
 obtain ⟨h3, _, _, _, hl⟩ := hL.out
 have hll : (ofL v.f3).length = v.f3.length := by rw [ofL_map, List.length_map]
 intro m
 induction m with
 | zero =>
  intro i hm hi
  refine Ev.step (fun k => rfl) ?_
  simp only [whetstonelaw04_to.l0]
  rw [List.take_of_length_le (by omega)]
  exact Evneg (by omega) (Ev.now _)
 | succ m im =>
  intro i hm hi
  have hlt : i < v.f3.length := by omega
  have hb := ih v.f3[i] (Nat.le_trans (szL_mem (List.getElem_mem hlt)) hn) (hl _ (List.getElem_mem hlt))
  have hr : rd_T41 (ofL v.f3) (i : Int) = ⟨v.f3[i].f0, v.f3[i].f1, v.f3[i].f2, ofL v.f3[i].f3⟩ := by
   rw [rd41 (by omega), ← ofS_eq]
   simp only [ofL_map, List.getElem_map]
  refine Ev.step (fun k => rfl) ?_
  simp only [whetstonelaw04_to.l0, hr]
  refine Evpos (by omega) (Evpos (by omega) (Ev.bind hb (Evpos (by rw [List.length_take]; omega) ?_)))
  rw [w64 (by omega)]
  have := im (i + 1) (by omega) (by omega)
  rw [List.take_succ_eq_append_getElem hlt, ← S25_eta v.f3[i]] at this
  exact this
theorem to_val : ∀ n v, szS v ≤ n → Light v → Ev (fun k => whetstonelaw04_to.f k v.f0 v.f1 v.f2 (ofL v.f3)) (v.f0, v.f1, v.f2, v.f3) := by
 intro n
 induction n with
 | zero => intro v h; rw [szS_eq] at h; omega
 | succ n ih =>
  intro v h hL
  rw [szS_eq] at h
  refine Ev.step (fun k => rfl) ?_
  simp only [whetstonelaw04_to.f]
  exact to_l0 ih (by omega) hL _ 0 rfl (by omega)
theorem count_l0 {n : Nat} (ih : ∀ v, szS v ≤ n → Light v → ∃ r, Ev (fun k => whetstoneref04_Count.f k v.f0 v.f1 v.f2 (ofL v.f3)) r) {v : S25} (hn : szL v.f3 ≤ n) (hL : Light v) :
  ∀ m i : Nat, ∀ x y : Int, v.f3.length - i = m → i ≤ v.f3.length → ∃ r, Ev (fun k => whetstoneref04_Count.l0 k x y (i : Int) v.f0 v.f1 v.f2 (ofL v.f3)) r := by
 obtain ⟨h3, _, _, _, hl⟩ := hL.out
 have hll : (ofL v.f3).length = v.f3.length := by rw [ofL_map, List.length_map]
 intro m
 induction m with
 | zero =>
  intro i x y hm hi
  refine ⟨(x, wrap64 (y + 1)), Ev.step (fun k => rfl) ?_⟩
  simp only [whetstoneref04_Count.l0]
  exact Evneg (by omega) (Ev.now _)
 | succ m im =>
  intro i x y hm hi
  have hlt : i < v.f3.length := by omega
  obtain ⟨⟨r1, r2⟩, hb⟩ := ih v.f3[i] (Nat.le_trans (szL_mem (List.getElem_mem hlt)) hn) (hl _ (List.getElem_mem hlt))
  have hr : rd_T41 (ofL v.f3) (i : Int) = ⟨v.f3[i].f0, v.f3[i].f1, v.f3[i].f2, ofL v.f3[i].f3⟩ := by
   rw [rd41 (by omega), ← ofS_eq]
   simp only [ofL_map, List.getElem_map]
  by_cases hc : r2 > y
  ·obtain ⟨r, hr2⟩ := im (i + 1) (wrap64 (x + r1)) r2 (by omega) (by omega)
   refine ⟨r, Ev.step (fun k => rfl) ?_⟩
   simp only [whetstoneref04_Count.l0, hr]
   refine Evpos (by omega) (Evpos (by omega) (Ev.bind hb (Evpos hc ?_)))
   rw [w64 (by omega)]
   exact hr2
  ·obtain ⟨r, hr2⟩ := im (i + 1) (wrap64 (x + r1)) y (by omega) (by omega)
   refine ⟨r, Ev.step (fun k => rfl) ?_⟩
   simp only [whetstoneref04_Count.l0, hr]
   refine Evpos (by omega) (Evpos (by omega) (Ev.bind hb (Evneg hc ?_)))
   rw [w64 (by omega)]
   exact hr2
theorem count_val : ∀ n v, szS v ≤ n → Light v → ∃ r, Ev (fun k => whetstoneref04_Count.f k v.f0 v.f1 v.f2 (ofL v.f3)) r := by
 intro n
 induction n with
 | zero => intro v h; rw [szS_eq] at h; omega
 | succ n ih =>
  intro v h hL
  rw [szS_eq] at h
  obtain ⟨r, hr⟩ := count_l0 ih (v := v) (by omega) hL _ 0 1 0 rfl (by omega)
  refine ⟨r, Ev.step (fun k => rfl) ?_⟩
  simp only [whetstoneref04_Count.f]
  exact hr
theorem few_val (v : S25) : ∃ b, Ev (fun k => whetstonelaw04_few.f k v.f0 v.f1 v.f2 v.f3) b ∧ (b = true → Light v) := by
 obtain ⟨b, hb, hL⟩ := light_val _ v 0 (Nat.le_refl _) (by omega) (by omega)
 cases b with
 | false => exact ⟨false, Ev.bind hb (Evneg (by simp) (Ev.now _)), fun h => by cases h⟩
 | true =>
  have hL' := hL rfl
  obtain ⟨r, hr⟩ := count_val _ v (Nat.le_refl _) hL'
  exact ⟨_, Ev.bind hb (Evpos rfl (Ev.bind (of_val _ v (Nat.le_refl _) hL') (Ev.bind hr (Ev.now _)))), fun _ => hL'⟩
end Go.Proofs.Yteighppcdpaekaa.Eq4
end
section
namespace Go.Proofs.Yteighppcdpaekaa.Eq4
open Go.RowKit Go.Proofs.YteighppcdpaekaaW.PrintWords Go.Proofs.Yteighppcdpaekaa.P
def eqK : List ByteArray → List ByteArray → Bool
 | a :: r, b :: s => (a.toList == b.toList) && eqK r s
 | _, _ => true
mutual
def eqS : S25 → S25 → Bool
 | ⟨k1, t1, ks1, l1⟩, ⟨k2, t2, ks2, l2⟩ =>
  if k1 = k2 then (if k1 = 3 ∨ k1 = 4 then t1.toList == t2.toList
   else if k1 = 5 ∨ k1 = 6 then (decide (l1.length = l2.length) && ((if k1 = 6 then decide (ks1.length = ks2.length) && eqK ks1 ks2 else true) && eqL l1 l2)) else true) else false
def eqL : List S25 → List S25 → Bool
 | a :: r, b :: s => eqS a b && eqL r s
 | _, _ => true
end
theorem eqS_eq (a b : S25) : eqS a b = if a.f0 = b.f0 then (if a.f0 = 3 ∨ a.f0 = 4 then a.f1.toList == b.f1.toList
      else if a.f0 = 5 ∨ a.f0 = 6 then (decide (a.f3.length = b.f3.length) && ((if a.f0 = 6 then decide (a.f2.length = b.f2.length) && eqK a.f2 b.f2 else true) && eqL a.f3 b.f3)) else true) else false := by
  cases a; cases b; simp only [eqS]
theorem drop_get {α : Type} {l : List α} {i : Nat} (h : i < l.length) : l.drop i = l[i] :: l.drop (i + 1) := List.drop_eq_getElem_cons h
theorem eqK_refl (l : List ByteArray) : eqK l l = true := by
 induction l with
 | nil => rfl
 | cons a r ih => simp [eqK, ih]
theorem eqS_refl : ∀ n v, szS v ≤ n → eqS v v = true := by
 intro n
 induction n with
 | zero => intro v h; rw [szS_eq] at h; omega
 | succ n ih =>
  intro v h
  rw [szS_eq] at h
  have hl : ∀ l : List S25, szL l ≤ n → eqL l l = true := by
   intro l hl
   induction l with
   | nil => simp [eqL]
   | cons a r ir =>
    simp only [szL] at hl
    simp only [eqL]
    rw [ih a (by omega), ir (by omega)]
    rfl
  rw [eqS_eq, if_pos rfl, eqK_refl, hl _ (by omega)]
  split
  ·simp
  ·split
   ·simp
   ·rfl
theorem equal_l1 {a b : S25} (hk : a.f2.length ≤ 100) (hlen : a.f0 = 6 → a.f2.length = b.f2.length) :
  ∀ m i : Nat, a.f2.length - i = m → i ≤ a.f2.length → Ev (fun k => json_Equal.l1 k (a.f2.length : Int) (i : Int) a.f0 a.f1 a.f2 a.f3 b.f0 b.f1 b.f2 b.f3) (if a.f0 = 6 then eqK (a.f2.drop i) (b.f2.drop i) else true) := by
 intro m
 induction m with
 | zero =>
  intro i hm hi
  refine Ev.step (fun k => rfl) ?_
  simp only [json_Equal.l1]
  rw [List.drop_eq_nil_of_le (by omega)]
  refine Evneg (by omega) ?_
  simp only [eqK]
  rw [show (if a.f0 = 6 then true else true) = true by split <;> rfl]
  exact Ev.now _
 | succ m im =>
  intro i hm hi
  have hlt : i < a.f2.length := by omega
  have hn := im (i + 1) (by omega) (by omega)
  refine Ev.step (fun k => rfl) ?_
  by_cases h6 : a.f0 = 6
  ·have hlt2 : i < b.f2.length := by have := hlen h6; omega
   simp only [json_Equal.l1, rdB hlt, rdB hlt2]
   rw [if_pos h6] at hn ⊢
   rw [drop_get hlt, drop_get hlt2]
   simp only [eqK]
   refine Evpos (by omega) (Evpos h6 (Evpos (by omega) (Evpos (by omega) (Evpos (by omega) ?_))))
   by_cases he : (a.f2[i]).toList = (b.f2[i]).toList
   ·rw [w64 (by omega), show ((a.f2[i]).toList == (b.f2[i]).toList) = true by simpa using he, Bool.true_and]
    exact Evpos he hn
   ·rw [show ((a.f2[i]).toList == (b.f2[i]).toList) = false by simpa using he, Bool.false_and]
    exact Evneg he (Ev.now _)
  ·simp only [json_Equal.l1]
   rw [if_neg h6] at hn ⊢
   refine Evpos (by omega) (Evneg h6 ?_)
   rw [w64 (by omega)]
   exact hn
theorem equal_l0 {n : Nat} (ih : ∀ a b, szS a ≤ n → Light a → Ev (fun k => json_Equal.f k a.f0 a.f1 a.f2 a.f3 b.f0 b.f1 b.f2 b.f3) (eqS a b)) {a b : S25} (hn : szL a.f3 ≤ n) (hL : Light a) (hlen3 : a.f3.length = b.f3.length) (hlen : a.f0 = 6 → a.f2.length = b.f2.length) :
  ∀ m i : Nat, a.f3.length - i = m → i ≤ a.f3.length → Ev (fun k => json_Equal.l0 k (a.f3.length : Int) (i : Int) a.f0 a.f1 a.f2 a.f3 b.f0 b.f1 b.f2 b.f3) (eqL (a.f3.drop i) (b.f3.drop i) && (if a.f0 = 6 then eqK a.f2 b.f2 else true)) := by
 obtain ⟨h3, h2, _, _, hl⟩ := hL.out
 intro m
 induction m with
 | zero =>
  intro i hm hi
  refine Ev.step (fun k => rfl) ?_
  simp only [json_Equal.l0]
  rw [List.drop_eq_nil_of_le (by omega)]
  simp only [eqL, Bool.true_and]
  exact Evneg (by omega) (equal_l1 h2 hlen _ 0 rfl (by omega))
 | succ m im =>
  intro i hm hi
  have hlt : i < a.f3.length := by omega
  have hlt2 : i < b.f3.length := by omega
  have hb := ih a.f3[i] b.f3[i] (Nat.le_trans (szL_mem (List.getElem_mem hlt)) hn) (hl _ (List.getElem_mem hlt))
  have hn := im (i + 1) (by omega) (by omega)
  refine Ev.step (fun k => rfl) ?_
  simp only [json_Equal.l0, rd25 hlt, rd25 hlt2]
  rw [drop_get hlt, drop_get hlt2]
  simp only [eqL]
  refine Evpos (by omega) (Evpos (by omega) (Evpos (by omega) (Evpos (by omega) (Ev.bind hb ?_))))
  cases he : eqS a.f3[i] b.f3[i] with
  | true =>
   rw [w64 (by omega), Bool.true_and]
   exact Evpos rfl hn
  | false => simp only [Bool.false_and]; exact Evneg (by simp) (Ev.now _)
theorem equal_val : ∀ n a b, szS a ≤ n → Light a → Ev (fun k => json_Equal.f k a.f0 a.f1 a.f2 a.f3 b.f0 b.f1 b.f2 b.f3) (eqS a b) := by
 intro n
 induction n with
 | zero => intro v b h; rw [szS_eq] at h; omega
 | succ n ih =>
  intro a b h hL
  rw [szS_eq] at h
  have j0no : Ev (fun k => json_Equal.j0 k true a.f0 a.f1 a.f2 a.f3 b.f0 b.f1 b.f2 b.f3) false := Ev.step (fun k => rfl) (by simp only [json_Equal.j0]; exact Evpos (by trivial) (Ev.now _))
  have j1yes : Ev (fun k => json_Equal.j1 k true a.f0 a.f1 a.f2 a.f3 b.f0 b.f1 b.f2 b.f3) true := Ev.step (fun k => rfl) (by simp only [json_Equal.j1]; exact Evpos (by trivial) (Ev.now _))
  have j2no : Ev (fun k => json_Equal.j2 k true a.f0 a.f1 a.f2 a.f3 b.f0 b.f1 b.f2 b.f3) false := Ev.step (fun k => rfl) (by simp only [json_Equal.j2]; exact Evpos (by trivial) (Ev.now _))
  rw [eqS_eq]
  by_cases hk : a.f0 = b.f0
  rotate_left
  ·rw [if_neg hk]
   refine Ev.step (fun k => rfl) ?_
   simp only [json_Equal.f]
   exact Evneg hk j0no
  rw [if_pos hk]
  have j1 : ∀ (h56 : a.f0 = 5 ∨ a.f0 = 6), Ev (fun k => json_Equal.j1 k false a.f0 a.f1 a.f2 a.f3 b.f0 b.f1 b.f2 b.f3) (decide (a.f3.length = b.f3.length) && ((if a.f0 = 6 then decide (a.f2.length = b.f2.length) && eqK a.f2 b.f2 else true) && eqL a.f3 b.f3)) := by
   intro h56
   refine Ev.step (fun k => rfl) ?_
   simp only [json_Equal.j1]
   refine Evneg (by simp) ?_
   by_cases h3 : a.f3.length = b.f3.length
   rotate_left
   ·rw [show decide (a.f3.length = b.f3.length) = false by simpa using h3, Bool.false_and]
    exact Evneg (by omega) j2no
   rw [show decide (a.f3.length = b.f3.length) = true by simpa using h3, Bool.true_and]
   refine Evpos (by omega) ?_
   have go : (a.f0 = 6 → a.f2.length = b.f2.length) → Ev (fun k => json_Equal.j2 k false a.f0 a.f1 a.f2 a.f3 b.f0 b.f1 b.f2 b.f3) (eqL a.f3 b.f3 && (if a.f0 = 6 then eqK a.f2 b.f2 else true)) := by
    intro hlen
    refine Ev.step (fun k => rfl) ?_
    simp only [json_Equal.j2]
    exact Evneg (by simp) (equal_l0 ih (by omega) hL h3 hlen _ 0 rfl (by omega))
   by_cases h6 : a.f0 = 6
   ·rw [if_pos h6]
    refine Evpos h6 ?_
    by_cases h2 : a.f2.length = b.f2.length
    ·rw [show ((a.f2.length : Int) != (b.f2.length : Int)) = false by simp [h2], show decide (a.f2.length = b.f2.length) = true by simpa using h2, Bool.true_and, Bool.and_comm]
     have := go fun _ => h2
     rw [if_pos h6] at this
     exact this
    ·rw [show ((a.f2.length : Int) != (b.f2.length : Int)) = true by simp; omega, show decide (a.f2.length = b.f2.length) = false by simpa using h2, Bool.false_and, Bool.false_and]
     exact j2no
   ·rw [if_neg h6, Bool.true_and]
    refine Evneg h6 ?_
    have := go fun h => absurd h h6
    rw [if_neg h6, Bool.and_true] at this
    exact this
  have j0 : Ev (fun k => json_Equal.j0 k false a.f0 a.f1 a.f2 a.f3 b.f0 b.f1 b.f2 b.f3) (if a.f0 = 5 ∨ a.f0 = 6 then (decide (a.f3.length = b.f3.length) && ((if a.f0 = 6 then decide (a.f2.length = b.f2.length) && eqK a.f2 b.f2 else true) && eqL a.f3 b.f3)) else true) := by
   refine Ev.step (fun k => rfl) ?_
   simp only [json_Equal.j0]
   refine Evneg (by simp) ?_
   by_cases h5 : a.f0 = 5
   ·rw [if_pos (.inl h5)]
    exact Evpos h5 (j1 (.inl h5))
   refine Evneg h5 ?_
   by_cases h6 : a.f0 = 6
   ·rw [if_pos (.inr h6), show (a.f0 != 6) = false by simp [h6]]
    exact j1 (.inr h6)
   ·rw [if_neg (by omega), show (a.f0 != 6) = true by simp [h6]]
    exact j1yes
  refine Ev.step (fun k => rfl) ?_
  simp only [json_Equal.f]
  refine Evpos hk ?_
  have txt : (a.f0 = 3 ∨ a.f0 = 4) → Ev (fun k => json_Equal.j0 k (a.f1.toList != b.f1.toList) a.f0 a.f1 a.f2 a.f3 b.f0 b.f1 b.f2 b.f3) (a.f1.toList == b.f1.toList) := by
   intro h34
   by_cases he : a.f1.toList = b.f1.toList
   ·rw [show (a.f1.toList != b.f1.toList) = false by simp [he], show (a.f1.toList == b.f1.toList) = true by simp [he]]
    rw [if_neg (by omega)] at j0
    exact j0
   ·rw [show (a.f1.toList != b.f1.toList) = true by simp [he], show (a.f1.toList == b.f1.toList) = false by simp [he]]
    exact j0no
  by_cases h3 : a.f0 = 3
  ·rw [if_pos (.inl h3)]
   exact Evpos h3 (txt (.inl h3))
  refine Evneg h3 ?_
  by_cases h4 : a.f0 = 4
  ·rw [if_pos (.inr h4)]
   exact Evpos h4 (txt (.inr h4))
  ·rw [if_neg (by omega)]
   exact Evneg h4 j0
theorem ref_l1 {n : Nat} (ih : ∀ a b, szS a ≤ n → Light a → Ev (fun k => whetstoneref04_Equal.f k a.f0 a.f1 a.f2 (ofL a.f3) b.f0 b.f1 b.f2 (ofL b.f3)) (eqS a b)) {a b : S25} (hn : szL a.f3 ≤ n) (hL : Light a) (hlen3 : a.f3.length = b.f3.length) :
  ∀ m i : Nat, a.f3.length - i = m → i ≤ a.f3.length → Ev (fun k => whetstoneref04_Equal.l1 k (i : Int) a.f0 a.f1 a.f2 (ofL a.f3) b.f0 b.f1 b.f2 (ofL b.f3)) (eqL (a.f3.drop i) (b.f3.drop i)) := by
 obtain ⟨h3, h2, _, _, hl⟩ := hL.out
 have hla : (ofL a.f3).length = a.f3.length := by rw [ofL_map, List.length_map]
 have hlb : (ofL b.f3).length = b.f3.length := by rw [ofL_map, List.length_map]
 intro m
 induction m with
 | zero =>
  intro i hm hi
  refine Ev.step (fun k => rfl) ?_
  simp only [whetstoneref04_Equal.l1]
  rw [List.drop_eq_nil_of_le (by omega)]
  simp only [eqL]
  exact Evneg (by omega) (Ev.now _)
 | succ m im =>
  intro i hm hi
  have hlt : i < a.f3.length := by omega
  have hlt2 : i < b.f3.length := by omega
  have hb := ih a.f3[i] b.f3[i] (Nat.le_trans (szL_mem (List.getElem_mem hlt)) hn) (hl _ (List.getElem_mem hlt))
  have hn := im (i + 1) (by omega) (by omega)
  have hra : rd_T41 (ofL a.f3) (i : Int) = ⟨a.f3[i].f0, a.f3[i].f1, a.f3[i].f2, ofL a.f3[i].f3⟩ := by
   rw [rd41 (by omega), ← ofS_eq]
   simp only [ofL_map, List.getElem_map]
  have hrb : rd_T41 (ofL b.f3) (i : Int) = ⟨b.f3[i].f0, b.f3[i].f1, b.f3[i].f2, ofL b.f3[i].f3⟩ := by
   rw [rd41 (by omega), ← ofS_eq]
   simp only [ofL_map, List.getElem_map]
  refine Ev.step (fun k => rfl) ?_
  simp only [whetstoneref04_Equal.l1, hra, hrb]
  rw [drop_get hlt, drop_get hlt2]
  simp only [eqL]
  refine Evpos (by omega) (Evpos (by omega) (Evpos (by omega) (Ev.bind hb ?_)))
  cases he : eqS a.f3[i] b.f3[i] with
  | true =>
   rw [w64 (by omega), Bool.true_and]
   exact Evpos rfl hn
  | false => simp only [Bool.false_and]; exact Evneg (by simp) (Ev.now _)
theorem ref_l0 {a b : S25} {x : Bool} (h1 : Ev (fun k => whetstoneref04_Equal.l1 k 0 a.f0 a.f1 a.f2 (ofL a.f3) b.f0 b.f1 b.f2 (ofL b.f3)) x) (hk : a.f2.length ≤ 100) (hlen : a.f0 = 6 → a.f2.length = b.f2.length) :
  ∀ m i : Nat, a.f2.length - i = m → i ≤ a.f2.length → Ev (fun k => whetstoneref04_Equal.l0 k (i : Int) a.f0 a.f1 a.f2 (ofL a.f3) b.f0 b.f1 b.f2 (ofL b.f3)) ((if a.f0 = 6 then eqK (a.f2.drop i) (b.f2.drop i) else true) && x) := by
 have j4no : ∀ i : Int, Ev (fun k => whetstoneref04_Equal.j4 k i false a.f0 a.f1 a.f2 (ofL a.f3) b.f0 b.f1 b.f2 (ofL b.f3)) x := fun i => Ev.step (fun k => rfl) (by simp only [whetstoneref04_Equal.j4]; exact Evneg (by simp) h1)
 intro m
 induction m with
 | zero =>
  intro i hm hi
  refine Ev.step (fun k => rfl) ?_
  simp only [whetstoneref04_Equal.l0]
  rw [List.drop_eq_nil_of_le (by omega)]
  refine Evneg (by omega) ?_
  simp only [eqK]
  rw [show (if a.f0 = 6 then true else true) = true by split <;> rfl, Bool.true_and]
  exact j4no _
 | succ m im =>
  intro i hm hi
  have hlt : i < a.f2.length := by omega
  have hn := im (i + 1) (by omega) (by omega)
  refine Ev.step (fun k => rfl) ?_
  simp only [whetstoneref04_Equal.l0]
  refine Evpos (by omega) ?_
  by_cases h6 : a.f0 = 6
  ·have hlt2 : i < b.f2.length := by have := hlen h6; omega
   rw [if_pos h6] at hn ⊢
   rw [show (a.f0 == 6) = true by simp [h6], drop_get hlt, drop_get hlt2]
   simp only [eqK]
   refine Ev.step (fun k => rfl) ?_
   simp only [whetstoneref04_Equal.j4, rdB hlt, rdB hlt2]
   refine Evpos (by trivial) (Evpos (by omega) (Evpos (by omega) (Evpos (by omega) ?_)))
   by_cases he : (a.f2[i]).toList = (b.f2[i]).toList
   ·rw [w64 (by omega), show ((a.f2[i]).toList == (b.f2[i]).toList) = true by simpa using he, Bool.true_and]
    exact Evpos he hn
   ·rw [show ((a.f2[i]).toList == (b.f2[i]).toList) = false by simpa using he, Bool.false_and, Bool.false_and]
    exact Evneg he (Ev.now _)
  ·rw [if_neg h6, show (a.f0 == 6) = false by simp [h6], Bool.true_and]
   exact j4no _
theorem ref_val : ∀ n a b, szS a ≤ n → Light a → Ev (fun k => whetstoneref04_Equal.f k a.f0 a.f1 a.f2 (ofL a.f3) b.f0 b.f1 b.f2 (ofL b.f3)) (eqS a b) := by
 intro n
 induction n with
 | zero => intro v b h; rw [szS_eq] at h; omega
 | succ n ih =>
  intro a b h hL
  rw [szS_eq] at h
  have hla : (ofL a.f3).length = a.f3.length := by rw [ofL_map, List.length_map]
  have hlb : (ofL b.f3).length = b.f3.length := by rw [ofL_map, List.length_map]
  rw [eqS_eq]
  refine Ev.step (fun k => rfl) ?_
  simp only [whetstoneref04_Equal.f]
  by_cases hk : a.f0 = b.f0
  rotate_left
  ·rw [if_neg hk]
   exact Evneg hk (Ev.now _)
  rw [if_pos hk]
  refine Evpos hk ?_
  have txt : Ev (fun k => whetstoneref04_Equal.j0 k true a.f0 a.f1 a.f2 (ofL a.f3) b.f0 b.f1 b.f2 (ofL b.f3)) (a.f1.toList == b.f1.toList) := Ev.step (fun k => rfl) (by simp only [whetstoneref04_Equal.j0]; exact Evpos (by trivial) (Ev.now _))
  by_cases h3 : a.f0 = 3
  ·rw [if_pos (.inl h3)]
   exact Evpos h3 txt
  refine Evneg h3 ?_
  by_cases h4 : a.f0 = 4
  ·rw [if_pos (.inr h4), show (a.f0 == 4) = true by simp [h4]]
   exact txt
  rw [if_neg (by omega), show (a.f0 == 4) = false by simp [h4]]
  have j2no : Ev (fun k => whetstoneref04_Equal.j2 k true a.f0 a.f1 a.f2 (ofL a.f3) b.f0 b.f1 b.f2 (ofL b.f3)) false := Ev.step (fun k => rfl) (by simp only [whetstoneref04_Equal.j2]; exact Evpos (by trivial) (Ev.now _))
  have j1 : ∀ (h56 : a.f0 = 5 ∨ a.f0 = 6), Ev (fun k => whetstoneref04_Equal.j1 k false a.f0 a.f1 a.f2 (ofL a.f3) b.f0 b.f1 b.f2 (ofL b.f3)) (decide (a.f3.length = b.f3.length) && ((if a.f0 = 6 then decide (a.f2.length = b.f2.length) && eqK a.f2 b.f2 else true) && eqL a.f3 b.f3)) := by
   intro h56
   refine Ev.step (fun k => rfl) ?_
   simp only [whetstoneref04_Equal.j1]
   refine Evneg (by simp) ?_
   by_cases h3 : a.f3.length = b.f3.length
   rotate_left
   ·rw [show decide (a.f3.length = b.f3.length) = false by simpa using h3, Bool.false_and]
    exact Evneg (by omega) j2no
   rw [show decide (a.f3.length = b.f3.length) = true by simpa using h3, Bool.true_and]
   refine Evpos (by omega) ?_
   have go : (a.f0 = 6 → a.f2.length = b.f2.length) → Ev (fun k => whetstoneref04_Equal.j2 k false a.f0 a.f1 a.f2 (ofL a.f3) b.f0 b.f1 b.f2 (ofL b.f3)) ((if a.f0 = 6 then eqK a.f2 b.f2 else true) && eqL a.f3 b.f3) := by
    intro hlen
    refine Ev.step (fun k => rfl) ?_
    simp only [whetstoneref04_Equal.j2]
    exact Evneg (by simp) (ref_l0 (ref_l1 ih (by omega) hL h3 _ 0 rfl (by omega)) hL.out.2.1 hlen _ 0 rfl (by omega))
   by_cases h6 : a.f0 = 6
   ·rw [if_pos h6]
    refine Evpos h6 ?_
    by_cases h2 : a.f2.length = b.f2.length
    ·rw [show ((a.f2.length : Int) != (b.f2.length : Int)) = false by simp [h2], show decide (a.f2.length = b.f2.length) = true by simpa using h2, Bool.true_and]
     have := go fun _ => h2
     rw [if_pos h6] at this
     exact this
    ·rw [show ((a.f2.length : Int) != (b.f2.length : Int)) = true by simp; omega, show decide (a.f2.length = b.f2.length) = false by simpa using h2, Bool.false_and, Bool.false_and]
     exact j2no
   ·rw [if_neg h6, Bool.true_and]
    refine Evneg h6 ?_
    have := go fun h => absurd h h6
    rw [if_neg h6, Bool.true_and] at this
    exact this
  refine Ev.step (fun k => rfl) ?_
  simp only [whetstoneref04_Equal.j0]
  refine Evneg (by simp) ?_
  by_cases h5 : a.f0 = 5
  ·rw [if_pos (.inl h5)]
   exact Evpos h5 (j1 (.inl h5))
  refine Evneg h5 ?_
  by_cases h6 : a.f0 = 6
  ·rw [if_pos (.inr h6), show (a.f0 != 6) = false by simp [h6]]
   exact j1 (.inr h6)
  ·rw [if_neg (by omega), show (a.f0 != 6) = true by simp [h6]]
   exact Ev.step (fun k => rfl) (by simp only [whetstoneref04_Equal.j1]; exact Evpos (by trivial) (Ev.now _))
end Go.Proofs.Yteighppcdpaekaa.Eq4
end
