/- Walks and words of this session, put together by a program of this session (pack.py). Conditions: as each text says. -/
import Derived.Lib.AppendStr
import Derived.Lib.Hide
import Derived.Test.YteighppcdpaekaaDoorG2
import Derived.Test.YteighppcdpaekaaDoorG7
import Derived.Test.YteighppcdpaekaaDoorG8
import Derived.Test.YteighppcdpaekaaDoorG9
set_option linter.unusedVariables false
set_option linter.unusedSimpArgs false
section
namespace Go.Proofs.YteighppcdpaekaaDoor.P
open Go.RowKit Go.Proofs.YteighppcdpaekaaDoorW.PrintWords Go.Proofs.YteighppcdpaekaaDoorW.PrintLast Go.Proofs.YteighppcdpaekaaDoorW.PrintMore
attribute [local go_sem] max2_int min2_int max_two min_two max_three min_three max_four min_four
set_option linter.unusedVariables false
set_option linter.unusedSimpArgs false
def json_isNumber.f (k : Nat) (a0 : ByteArray) : Option Bool := if a0.size ≤ 100000000000 then (match json_Parse.f k (bytesOf a0) with
 | none => none
 | some t => some (decide (t.2.2.2.2.2 = 0) && (decide (t.1 = 3) && decide (t.2.1 = a0)))) else none
set_option maxRecDepth 100000 in
set_option maxHeartbeats 1600000 in
theorem json_isNumber.calls (k : Nat) (a0 : ByteArray) (r : Bool) (w : World) (h : json_isNumber.f k a0 = some r) :
  Calls Tryd.prog 80 #[.string a0] w fun e w' => e = .returned (.bool r) ∧ Below w.heap.size w w' := by
 unfold json_isNumber.f at h
 split at h
 ·rename_i hs
  cases hu : json_Parse.f k (bytesOf a0) with
  | none => simp [hu] at h
  | some t =>
   obtain ⟨r1, r2, r3, r4, r5, r6⟩ := t
   rw [hu] at h
   obtain rfl := Option.some.inj h
   have kb := fun W => print_bytes (P := Tryd.prog) 9 35 5 Tryd.underlying9 Tryd.underlying35 Tryd.underlying5 a0 W
   have hU := json_Parse.calls k _ (grownCap w a0.size 0 5) (bytesOf a0) r1 r2 r3 r4 r5 r6 _ (conv_C w a0 hs) (by rw [bytesOf_length]; exact grownCap_ge _ _ _ _) hu
   rw [bytesOf_length] at hU
   have hB := bytes_below (Below.refl w.heap.size w) (Nat.le_refl _) 5 a0
   clear hu h
   have hB2 : ∀ w1, Below (Lib.bytesWorld w 5 a0).heap.size (Lib.bytesWorld w 5 a0) w1 → Below w.heap.size w w1 := fun w1 h1 => hB.trans (h1.mono (by rw [Lib.bytesWorld_size]; omega))
   by_cases h6 : r6 = 0
   ·by_cases h1 : r1 = 3
    ·by_cases h2 : r2 = a0
     ·subst h6
      subst h1
      subst h2
      go_enter Tryd.func80, Tryd.ntmps80
      go_wp2_with (go_at_call 39; refine hU.mono ?_; rintro en w1 ⟨v2, v3, rfl, hR2, hR3, hB1⟩; obtain ⟨A2, c2, rfl⟩ := Kd.R_slice hR2; obtain ⟨A3, c3, rfl⟩ := Kd.R_slice hR3)
      go_ret
      exact ⟨by simp, hB2 _ (below_alloc hB1 _)⟩
     ·have h2' : (r2.toList == a0.toList) = false := by
       rw [beq_eq_false_iff_ne]
       intro e
       apply h2
       rw [ByteArray.toList_eq, ByteArray.toList_eq] at e
       exact ByteArray.ext (Array.toList_inj.1 e)
      subst h6
      subst h1
      go_enter Tryd.func80, Tryd.ntmps80
      go_wp2_with (go_at_call 39; refine hU.mono ?_; rintro en w1 ⟨v2, v3, rfl, hR2, hR3, hB1⟩; obtain ⟨A2, c2, rfl⟩ := Kd.R_slice hR2; obtain ⟨A3, c3, rfl⟩ := Kd.R_slice hR3)
      go_ret
      exact ⟨by simp [h2, h2'], hB2 _ (below_alloc hB1 _)⟩
    ·have h1' : (r1 == 3) = false := by simpa using h1
     subst h6
     go_enter Tryd.func80, Tryd.ntmps80
     go_wp2_with (go_at_call 39; refine hU.mono ?_; rintro en w1 ⟨v2, v3, rfl, hR2, hR3, hB1⟩; obtain ⟨A2, c2, rfl⟩ := Kd.R_slice hR2; obtain ⟨A3, c3, rfl⟩ := Kd.R_slice hR3)
     go_ret
     exact ⟨by simp [h1], hB2 _ (below_alloc hB1 _)⟩
   ·have h6' : (r6 == 0) = false := by simpa using h6
    go_enter Tryd.func80, Tryd.ntmps80
    go_wp2_with (go_at_call 39; refine hU.mono ?_; rintro en w1 ⟨v2, v3, rfl, hR2, hR3, hB1⟩; obtain ⟨A2, c2, rfl⟩ := Kd.R_slice hR2; obtain ⟨A3, c3, rfl⟩ := Kd.R_slice hR3)
    go_ret
    exact ⟨by simp [h6], hB2 _ (below_alloc hB1 _)⟩
 ·cases h
def json_plain.f (k : Nat) (a0 : ByteArray) : Option Bool := if a0.size ≤ 100000000000 then (match utf_Valid.f k (bytesOf a0) with
 | none => none
 | some t => some (decide (t.2 = 0))) else none
set_option maxRecDepth 100000 in
set_option maxHeartbeats 1600000 in
theorem json_plain.calls (k : Nat) (a0 : ByteArray) (r : Bool) (w : World) (h : json_plain.f k a0 = some r) :
    Calls Tryd.prog 81 #[.string a0] w fun e w' => e = .returned (.bool r) ∧ Below w.heap.size w w' := by
  unfold json_plain.f at h
  split at h
  · rename_i hs
    cases hu : utf_Valid.f k (bytesOf a0) with
    | none => simp [hu] at h
    | some t =>
      obtain ⟨t1, t2⟩ := t
      rw [hu] at h
      obtain rfl := Option.some.inj h
      have kb := fun W => print_bytes (P := Tryd.prog) 9 35 5 Tryd.underlying9 Tryd.underlying35 Tryd.underlying5 a0 W
      have hU := utf_Valid.calls k _ (grownCap w a0.size 0 5) (bytesOf a0) t1 t2 _ (conv_C w a0 hs) (by rw [bytesOf_length]; exact grownCap_ge _ _ _ _) hu
      rw [bytesOf_length] at hU
      have hB := bytes_below (Below.refl w.heap.size w) (Nat.le_refl _) 5 a0
      clear hu h
      go_enter Tryd.func81, Tryd.ntmps81
      go_wp2_with (go_at_call 56; refine hU.mono ?_; rintro en w1 ⟨rfl, ⟨m, rfl⟩⟩)
      go_ret
      exact ⟨by by_cases h0 : t2 = 0
                ·  simp [h0]
                ·  simp [h0, show (t2 == 0) = false by simpa using h0], pw_below_drewN hB m⟩
  · cases h
mutual
def json_quoted.l0 : Nat → List Int → ByteArray → Int → Int → Option (List Int)
 | 0, _, _, _, _ => none
 | k + 1, x0, x1, x11, x12 => if x12 < x11 then (if 0 ≤ x12 then (if x12 < (x1.size : Int) then (if (bt x1 x12) = 34 then (json_quoted.j1 k x0 x1 (bt x1 x12) x11 x12 (bt x1 x12) ((bt x1 x12) == 34)) else (json_quoted.j1 k x0 x1 (bt x1 x12) x11 x12 (bt x1 x12) ((bt x1 x12) == 92))) else (none)) else (none)) else (if x0.length < 140737488355328 then (some (x0 ++ [34])) else (none))
def json_quoted.j1 : Nat → List Int → ByteArray → Int → Int → Int → Int → Bool → Option (List Int)
 | 0, _, _, _, _, _, _, _ => none
 | k + 1, x0, x1, x6, x11, x12, x18, x34 => if x34 = true then ((some (([92, x6] : List Int) : List Int)).bind fun y123 => (if x0.length + y123.length < 140737488355328 then (json_quoted.l0 k (x0 ++ y123) x1 x11 (wrap64 (x12 + 1))) else (none))) else (if x18 = 8 then ((some (([92, 98] : List Int) : List Int)).bind fun y129 => (if x0.length + y129.length < 140737488355328 then (json_quoted.l0 k (x0 ++ y129) x1 x11 (wrap64 (x12 + 1))) else (none))) else (if x18 = 9 then ((some (([92, 116] : List Int) : List Int)).bind fun y135 => (if x0.length + y135.length < 140737488355328 then (json_quoted.l0 k (x0 ++ y135) x1 x11 (wrap64 (x12 + 1))) else (none))) else (if x18 = 10 then ((some (([92, 110] : List Int) : List Int)).bind fun y141 => (if x0.length + y141.length < 140737488355328 then (json_quoted.l0 k (x0 ++ y141) x1 x11 (wrap64 (x12 + 1))) else (none))) else (if x18 = 12 then ((some (([92, 102] : List Int) : List Int)).bind fun y147 => (if x0.length + y147.length < 140737488355328 then (json_quoted.l0 k (x0 ++ y147) x1 x11 (wrap64 (x12 + 1))) else (none))) else (if x18 = 13 then ((some (([92, 114] : List Int) : List Int)).bind fun y153 => (if x0.length + y153.length < 140737488355328 then (json_quoted.l0 k (x0 ++ y153) x1 x11 (wrap64 (x12 + 1))) else (none))) else (if x6 < 32 then (if 0 ≤ (x6 / 16) then (if (x6 / 16) < 16 then (if 0 ≤ (Go.bits .and .u8 x6 15) then (if (Go.bits .and .u8 x6 15) < 16 then ((some (([92, 117, 48, 48, bt (⟨#[48, 49, 50, 51, 52, 53, 54, 55, 56, 57, 97, 98, 99, 100, 101, 102]⟩ : ByteArray) (x6 / 16), bt (⟨#[48, 49, 50, 51, 52, 53, 54, 55, 56, 57, 97, 98, 99, 100, 101, 102]⟩ : ByteArray) (Go.bits .and .u8 x6 15)] : List Int) : List Int)).bind fun y159 => (if x0.length + y159.length < 140737488355328 then (json_quoted.l0 k (x0 ++ y159) x1 x11 (wrap64 (x12 + 1))) else (none))) else (none)) else (none)) else (none)) else (none)) else (if x0.length < 140737488355328 then (json_quoted.l0 k (x0 ++ [x6]) x1 x11 (wrap64 (x12 + 1))) else (none))))))))
end
def json_quoted.f (k : Nat) (l0 : List Int) (a1 : ByteArray) : Option (List Int) := if l0.length < 140737488355328 then (json_quoted.l0 k (l0 ++ [34]) a1 (a1.size : Int) 0) else (none)
def json_quoted.T8 : Bool × List (List Nat × List Nat) := (true, [([], []), ([], []), ([1], [1]), ([2], [2]), ([], []), ([4], [4]), ([5], [5]), ([3, 6], [3, 6]), ([0, 7], [0, 7]), ([8, 8, 0, 1, 2, 3, 4, 5, 6, 7, 8], [0, 8])])
def json_quoted.B8 : List Nat := [0, 0, 2, 6, 0, 16, 48, 126, 255, 511]
theorem json_quoted.tab8 : rtab .any (opsOf Tryd.f82 8) = json_quoted.T8 := by kernel_rfl
theorem json_quoted.bits8 : waitsOk json_quoted.T8.2 json_quoted.B8 = true := by kernel_rfl
set_option maxHeartbeats 8000000 in
set_option maxRecDepth 100000 in
theorem json_quoted.calls (k : Nat) (P0_ : Nat → Prop) (u9000_ : Value) (l0 : List Int) (a1 : ByteArray) (r : List Int) (w0 w : World) (hB : Below w0.heap.size w0 w) (ho0 : Kd.R (Kd.int .u8) 5 w w0.heap.size P0_ u9000_ l0) (h : json_quoted.f k l0 a1 = some r) :
  Calls Tryd.prog 82 #[u9000_, .string a1] w fun e w' => ∃ v0_ : Value, e = .returned (v0_) ∧ Kd.R (Kd.int .u8) 5 w' w0.heap.size (fun k_ => (P0_ k_ ∨ w.heap.size ≤ k_)) v0_ r ∧ Below w0.heap.size w0 w' ∧ Kept w w' (fun k_ => P0_ k_) := by
 have HO0 := Aside0.mk (show Kd.R (Kd.int .u8) 5 w w0.heap.size (fun k_ => (P0_ k_ ∨ w.heap.size ≤ k_)) u9000_ l0 from Kd.R_mono ho0 (fun k_ hk => (.inl hk)))
 have HK := Aside0.mk (Kept.refl w (fun k_ => P0_ k_))
 have HW0 := Aside0.mk hB.size
 have HB := Aside0.mk hB
 clear hB
 have H : (if l0.length < 140737488355328 then (json_quoted.l0 k (l0 ++ [34]) a1 (a1.size : Int) 0) else (none)) = some r := h
 clear h
 by_cases c3 : l0.length < 140737488355328
 ·rw [if_pos c3] at H
  have LMc3 := Aside0.mk c3
  clear c3
  obtain ⟨y117, hy117⟩ : ∃ y_ : List Int, y_ = (l0 ++ [34]) := ⟨_, rfl⟩
  replace H : (json_quoted.l0 k y117 a1 (a1.size : Int) 0) = some r := by first | (rw [hy117]; with_reducible exact H) | (have H2_ := (Option.bind_some _ _).symm.trans H; rw [hy117]; with_reducible exact H2_) | (have H2_ := (Option.bind_some _ _).symm.trans H; with_reducible exact H2_) | with_reducible exact H | (rw [hy117]; exact H) | exact H
  have Ny117 := Aside0.mk hy117
  clear hy117
  have H' := Aside0.mk H
  clear H
  go_enter Tryd.func82, Tryd.ntmps82
  go_wp2_with (first | ((with_reducible refine gate_builtin (b := .append) (xs := #[.tmp 7, .tmp 8]) rfl ?_); at_builtin; refine Kd.R_append (Kd.int .u8) (w0 := w0) w0.heap.size rfl (.tmp 7) (.tmp 8) 35 5 (.int .u8 0) 1 rfl Tryd.underlying35 info5 rfl (by decide) (by omega) u9000_ l0 34 [.int .u8 34] (fun k_ => (P0_ k_ ∨ w.heap.size ≤ k_)) (fun _ => False) rfl rfl ?aP (fun _ hk => hk.elim) ?aF ?aO ?aB ?aS ?aL ?_; (case aP => exact rfl); (case aB => exact (by repeat (first | (with_reducible first | exact HB.out | apply below_alloc | apply pw_below_drewN | apply below_drew1) | exact HB.out))); (case aF => exact (fun k_ hk => (.inr (Nat.le_trans (by first | exact HK.out.1 | exact (show Kept w _ (fun k_ => P0_ k_) from by repeat (first | (with_reducible first | exact HK.out | apply Kept.alloc | apply Kept.drewN | apply Kept.drew) | exact HK.out)).1) hk)))); (case aO => exact (by (with_reducible repeat (first | apply Kd.R_alloc | apply Kd.R_drewN | apply Kd.R_drew)); exact HO0.out)); (case aS => exact (below_size (by repeat (first | (with_reducible first | exact HB.out | apply below_alloc | apply pw_below_drewN | apply below_drew1) | exact HB.out)))); (case aL => have := LMc3.out; omega); intro v118 w4 ho hb hg hat; rw [← Ny117.out] at ho; have n0_ := Aside0.mk (hb); have n1_ := Aside0.mk (Kept.of_grown (S := (fun k_ => P0_ k_)) hg (by repeat (first | (with_reducible first | exact HK.out | apply Kept.alloc | apply Kept.drewN | apply Kept.drew) | exact HK.out)) (fun k_ e_ => (HO0.out.1 k_ e_))); have n2_ := Aside0.mk (ho); clear HB; clear HK; clear HO0; have HB := n0_; have HK := n1_; have HO119 := n2_; clear n0_ n1_ n2_; clear ho hb hg hat))
  go_loopg [0, 12] k (fun kq v0 v12 w' => ∃ (x0_1 : List Int) (x12_1 : Int), v12 = .int .i64 x12_1 ∧ Aside0 (json_quoted.l0 kq x0_1 a1 (a1.size : Int) x12_1 = some r) ∧ Aside0 (kq ≤ k) ∧ Aside0 (Kd.R (Kd.int .u8) 5 w' w0.heap.size (fun k_ => (P0_ k_ ∨ w.heap.size ≤ k_)) v0 x0_1) ∧ Aside0 (Kept w w' (fun k_ => P0_ k_)) ∧ Aside0 (Below w0.heap.size w0 w'))
  case atStart => exact ⟨(y117), (0), (by first | rfl | (simp; done) | (simp [*]; done)), H', ⟨Nat.le_refl _⟩, ⟨by (with_reducible repeat (first | apply Kd.R_alloc | apply Kd.R_drewN | apply Kd.R_drew)); exact HO119.out⟩, ⟨by repeat (first | (with_reducible first | exact HK.out | apply Kept.alloc | apply Kept.drewN | apply Kept.drew) | exact HK.out)⟩, ⟨by repeat (first | (with_reducible first | exact HB.out | apply below_alloc | apply pw_below_drewN | apply below_drew1) | exact HB.out)⟩⟩
  case round =>
   clear H'
   try clear p2; try clear c3
   obtain ⟨x0_1, x12_1, rfl, HA, HK1, HO_0, HK, HB⟩ := hrel
   cases gk with
   | zero => exact absurd HA.out (by simp [json_quoted.l0])
   | succ k1 =>
    have H := HA.out
    clear HA
    simp only [json_quoted.l0] at H
    by_cases c5 : x12_1 < (a1.size : Int)
    ·rw [if_pos c5] at H
     have c5b0 : decide (x12_1 < (a1.size : Int)) = true := decide_eq_true c5
     clear c5
     by_cases c6 : 0 ≤ x12_1
     ·rw [if_pos c6] at H
      have c6b0 : decide (0 ≤ x12_1) = true := decide_eq_true c6
      clear c6
      by_cases c7 : x12_1 < (a1.size : Int)
      ·rw [if_pos c7] at H
       have c7b0 : decide (x12_1 < (a1.size : Int)) = true := decide_eq_true c7
       clear c7
       have HC9 := Aside0.mk H
       clear H
       have p8 : 0 ≤ (x12_1 : Int) := of_decide_eq_true (by first | (with_reducible assumption) | assumption)
       have q8 : x12_1 < (a1.size : Int) := of_decide_eq_true (by first | (with_reducible assumption) | assumption)
       have hx8 := bt_at a1 x12_1
       replace p8 := eq_true p8
       replace q8 := eq_true q8
       go_upto_if 34 with (fail)
       go_cut [34] (fun v34 wc => ∃ (kq : Nat) (x34_8 : Bool), v34 = .bool x34_8 ∧ Aside0 (json_quoted.j1 kq x0_1 a1 (bt a1 x12_1) (a1.size : Int) x12_1 (bt a1 x12_1) x34_8 = some r) ∧ Aside0 (kq ≤ k1) ∧ Aside0 (Kd.R (Kd.int .u8) 5 wc w0.heap.size (fun k_ => (P0_ k_ ∨ w.heap.size ≤ k_)) u0 x0_1) ∧ Aside0 (Kept w wc (fun k_ => P0_ k_)) ∧ Aside0 (Below w0.heap.size w0 wc))
       case first =>
        have H := HC9.out
        clear HC9
        by_cases c10 : (bt a1 x12_1) = 34
        ·rw [if_pos c10] at H
         have c10b0 : ((bt a1 x12_1) == 34) = true := beq_iff_eq.mpr c10
         have c10b1 : ((bt a1 x12_1) != 34) = false := bne_eq_false_iff_eq.mpr c10
         clear c10
         (first | rw [c10b0] | (simp only [i64_w, i32_w]; rw [c10b0]) | skip)
         have H' := Aside0.mk H
         clear H
         go_wp2
         go_meet
         case rel => exact ⟨_, (((bt a1 x12_1) == 34)), (by first | rfl | (simp; done) | (simp [*]; done)), H', ⟨by have := HK1.out; first | omega | exact Nat.le_refl _⟩, ⟨by (with_reducible repeat (first | apply Kd.R_alloc | apply Kd.R_drewN | apply Kd.R_drew)); exact HO_0.out⟩, ⟨by repeat (first | (with_reducible first | exact HK.out | apply Kept.alloc | apply Kept.drewN | apply Kept.drew) | exact HK.out)⟩, ⟨by repeat (first | (with_reducible first | exact HB.out | apply below_alloc | apply pw_below_drewN | apply below_drew1) | exact HB.out)⟩⟩
        ·rw [if_neg c10] at H
         have c10b0 : ((bt a1 x12_1) == 34) = false := beq_eq_false_iff_ne.mpr c10
         have c10b1 : ((bt a1 x12_1) != 34) = true := bne_iff_ne.mpr c10
         (first | rw [c10b0] | (simp only [i64_w, i32_w]; rw [c10b0]) | skip)
         have H' := Aside0.mk H
         clear H
         go_wp2
         go_meet
         case rel => exact ⟨_, (((bt a1 x12_1) == 92)), (by first | rfl | (simp; done) | (simp [*]; done)), H', ⟨by have := HK1.out; first | omega | exact Nat.le_refl _⟩, ⟨by (with_reducible repeat (first | apply Kd.R_alloc | apply Kd.R_drewN | apply Kd.R_drew)); exact HO_0.out⟩, ⟨by repeat (first | (with_reducible first | exact HK.out | apply Kept.alloc | apply Kept.drewN | apply Kept.drew) | exact HK.out)⟩, ⟨by repeat (first | (with_reducible first | exact HB.out | apply below_alloc | apply pw_below_drewN | apply below_drew1) | exact HB.out)⟩⟩
       case rest =>
        clear HC9
        try clear c1; try clear p2; try clear c3; try clear c5; try clear c5b0; try clear c6; try clear c6b0; try clear c7; try clear c7b0; try clear c8; try clear p8; try clear q8; try clear hx8; try clear c10; try clear c10b0; try clear c10b1; try clear p2; try clear p8; try clear q8
        obtain ⟨kq, x34_8, rfl, HA, HJ8, HO_0, HK, HB⟩ := hcut
        cases kq with
        | zero => exact absurd HA.out (by simp [json_quoted.j1])
        | succ kj8 =>
         have H := HA.out
         clear HA
         simp only [json_quoted.j1] at H
         by_cases c11 : x34_8 = true
         ·subst c11
          have H1 : ((some (([92, (bt a1 x12_1)] : List Int) : List Int)).bind fun y123 => (if x0_1.length + y123.length < 140737488355328 then (json_quoted.l0 kj8 (x0_1 ++ y123) a1 (a1.size : Int) (wrap64 (x12_1 + 1))) else (none))) = some r := by rw [if_pos rfl] at H; exact H
          clear H
          have H := H1
          clear H1
          obtain ⟨y123, hy123⟩ : ∃ y_ : List Int, y_ = (([92, (bt a1 x12_1)] : List Int)) := ⟨_, rfl⟩
          replace H : (if x0_1.length + y123.length < 140737488355328 then (json_quoted.l0 kj8 (x0_1 ++ y123) a1 (a1.size : Int) (wrap64 (x12_1 + 1))) else (none)) = some r := by first | (rw [hy123]; with_reducible exact H) | (have H2_ := (Option.bind_some _ _).symm.trans H; rw [hy123]; with_reducible exact H2_) | (have H2_ := (Option.bind_some _ _).symm.trans H; with_reducible exact H2_) | with_reducible exact H | (rw [hy123]; exact H) | exact H
          have Ny123 := Aside0.mk hy123
          clear hy123
          by_cases c12 : x0_1.length + y123.length < 140737488355328
          ·rw [if_pos c12] at H
           have LMc12 := Aside0.mk c12
           clear c12
           obtain ⟨y126, hy126⟩ : ∃ y_ : List Int, y_ = (x0_1 ++ y123) := ⟨_, rfl⟩
           replace H : (json_quoted.l0 kj8 y126 a1 (a1.size : Int) (wrap64 (x12_1 + 1))) = some r := by first | (rw [hy126]; with_reducible exact H) | (have H2_ := (Option.bind_some _ _).symm.trans H; rw [hy126]; with_reducible exact H2_) | (have H2_ := (Option.bind_some _ _).symm.trans H; with_reducible exact H2_) | with_reducible exact H | (rw [hy126]; exact H) | exact H
           have Ny126 := Aside0.mk hy126
           clear hy126
           have H' := Aside0.mk H
           clear H
           go_wp2_with (first | ((with_reducible refine gate_dst (N := 39) rfl ?_); refine Kd.R_lit (Kd.int .u8) _ 5 ?hg (N := 39) ?hd (xs := ([92, (bt a1 x12_1)] : List Int)) (inner := [.int .u8 92, .int .u8 (bt a1 x12_1)]) (ok := fun _ => True) (okp := fun _ => True) ?hr ?hp (fun _ hk => hk) trivial (Below.refl _ _) (Nat.le_refl _) (by simp) ?_; (case hd => rfl); (case hg => rfl); (case hr => first | (go_simp; done) | (go_simp; rfl)); (case hp => exact (Reps.one (show Kd.M (Kd.int .u8) _ _ _ 92 [.int .u8 92] from rfl) (Reps.one (show Kd.M (Kd.int .u8) _ _ _ (bt a1 x12_1) [.int .u8 (bt a1 x12_1)] from rfl) (Reps.none _ _)))); intro v124 w13 ho14 hb hg_ hnew_; clear hg_ hnew_; (first | rw [← Ny123.out] at ho14 | (simp only [Int.reduceToNat] at ho14; rw [← Ny123.out] at ho14)); have n0_ := Aside0.mk (Kd.R_elder' (by (with_reducible repeat (first | apply Kd.R_alloc | apply Kd.R_drewN | apply Kd.R_drew)); exact HO_0.out) (Kd.R_base ho14) hb); have n1_ := Aside0.mk (Kd.R_lower (Kd.R_new' (Kd.R_newM (M := fun k_ => (P0_ k_ ∨ w.heap.size ≤ k_)) ho14 (by first | exact HK.out.1 | exact (show Kept w _ (fun k_ => P0_ k_) from by repeat (first | (with_reducible first | exact HK.out | apply Kept.alloc | apply Kept.drewN | apply Kept.drew) | exact HK.out)).1) (fun k_ h_ => .inr h_)) (Kd.R_lt (by (with_reducible repeat (first | apply Kd.R_alloc | apply Kd.R_drewN | apply Kd.R_drew)); exact HO_0.out))) (below_size (by repeat (first | (with_reducible first | exact HB.out | apply below_alloc | apply pw_below_drewN | apply below_drew1) | exact HB.out)))); have n2_ := Aside0.mk (Kept.below (S := (fun k_ => P0_ k_)) (by repeat (first | (with_reducible first | exact HK.out | apply Kept.alloc | apply Kept.drewN | apply Kept.drew) | exact HK.out)) hb); have n3_ := Aside0.mk (below_step (by repeat (first | (with_reducible first | exact HB.out | apply below_alloc | apply pw_below_drewN | apply below_drew1) | exact HB.out)) hb); clear HO_0; clear HK; clear HB; have HO_0 := n0_; have HO125 := n1_; have HK := n2_; have HB := n3_; clear n0_ n1_ n2_ n3_; clear hb ho14; obtain ⟨Ao16, co16, eo16⟩ := Kd.R_slice HO125.out; subst eo16) | ((with_reducible refine gate_builtin (b := .append) (xs := #[.tmp 37, .tmp 39]) rfl ?_); at_builtin; refine Kd.R_append_rows (Kd.int .u8) (w0 := w0) w0.heap.size rfl (.tmp 37) (.tmp 39) 35 5 (.int .u8 0) 1 rfl Tryd.underlying35 info5 rfl (by decide) (by omega) u0 x0_1 y123 _ _ _ (fun k_ => (P0_ k_ ∨ w.heap.size ≤ k_) ∧ some k_ ≠ (.slice Ao16 y123.length co16 : Value).ownBlock) (fun _ => False) rfl rfl ?aO ?aR (fun _ _ h => h) (fun _ h => h.elim) ?aF ?aB ?aS ?aL ?_; (case aR => repeat (first | exact (Kd.R_reads' HO125.out).2.2 | (with_reducible refine Kd.C_alloc ?_ _) | (with_reducible refine Kd.C_drewN ?_ _) | (with_reducible refine Kd.C_drew ?_))); (case aB => exact (by repeat (first | (with_reducible first | exact HB.out | apply below_alloc | apply pw_below_drewN | apply below_drew1) | exact HB.out))); (case aF => exact (fun k_ hk => ⟨(.inr (Nat.le_trans (by first | exact HK.out.1 | exact (show Kept w _ (fun k_ => P0_ k_) from by repeat (first | (with_reducible first | exact HK.out | apply Kept.alloc | apply Kept.drewN | apply Kept.drew) | exact HK.out)).1) hk)), Kd.fresh' (Kd.R_lt (by (with_reducible repeat (first | apply Kd.R_alloc | apply Kd.R_drewN | apply Kd.R_drew)); exact HO125.out)) k_ hk⟩)); (case aO => exact (by (with_reducible repeat (first | apply Kd.R_alloc | apply Kd.R_drewN | apply Kd.R_drew)); exact HO_0.out)); (case aS => exact (below_size (by repeat (first | (with_reducible first | exact HB.out | apply below_alloc | apply pw_below_drewN | apply below_drew1) | exact HB.out)))); (case aL => have := LMc12.out; omega); intro v127 w15 ho hb hg hat; rw [← Ny126.out] at ho; have n0_ := Aside0.mk (Kd.R_after (ok := (fun k_ => (P0_ k_ ∨ w.heap.size ≤ k_))) (by (with_reducible repeat (first | apply Kd.R_alloc | apply Kd.R_drewN | apply Kd.R_drew)); exact Kd.R_mono HO125.out (fun _ hk => ⟨hk.1.1, hk.2⟩)) hg hat); have n1_ := Aside0.mk (hb); have n2_ := Aside0.mk (Kept.of_grown (S := (fun k_ => P0_ k_)) hg (by repeat (first | (with_reducible first | exact HK.out | apply Kept.alloc | apply Kept.drewN | apply Kept.drew) | exact HK.out)) (fun k_ e_ => (HO_0.out.1 k_ e_).1)); have n3_ := Aside0.mk (ho); clear HO125; clear HB; clear HK; clear HO_0; have HO125 := n0_; have HB := n1_; have HK := n2_; have HO128 := n3_; clear n0_ n1_ n2_ n3_; clear ho hb hg hat))
           go_roundg kj8
           case measure => have := HK1.out; have := HJ8.out; omega
           case rel => exact ⟨(y126), (wrap64 (x12_1 + 1)), (by first | rfl | (simp; done) | (simp [*]; done)), H', ⟨by have := HK1.out; have := HJ8.out; omega⟩, ⟨by (with_reducible repeat (first | apply Kd.R_alloc | apply Kd.R_drewN | apply Kd.R_drew)); exact Kd.R_mono HO128.out (fun _ hk => hk.1)⟩, ⟨by repeat (first | (with_reducible first | exact HK.out | apply Kept.alloc | apply Kept.drewN | apply Kept.drew) | exact HK.out)⟩, ⟨by repeat (first | (with_reducible first | exact HB.out | apply below_alloc | apply pw_below_drewN | apply below_drew1) | exact HB.out)⟩⟩
          ·rw [if_neg c12] at H
           exact absurd H (by simp)
         ·replace c11 := Bool.eq_false_iff.mpr c11
          subst c11
          have H1 : (if (bt a1 x12_1) = 8 then ((some (([92, 98] : List Int) : List Int)).bind fun y129 => (if x0_1.length + y129.length < 140737488355328 then (json_quoted.l0 kj8 (x0_1 ++ y129) a1 (a1.size : Int) (wrap64 (x12_1 + 1))) else (none))) else (if (bt a1 x12_1) = 9 then ((some (([92, 116] : List Int) : List Int)).bind fun y135 => (if x0_1.length + y135.length < 140737488355328 then (json_quoted.l0 kj8 (x0_1 ++ y135) a1 (a1.size : Int) (wrap64 (x12_1 + 1))) else (none))) else (if (bt a1 x12_1) = 10 then ((some (([92, 110] : List Int) : List Int)).bind fun y141 => (if x0_1.length + y141.length < 140737488355328 then (json_quoted.l0 kj8 (x0_1 ++ y141) a1 (a1.size : Int) (wrap64 (x12_1 + 1))) else (none))) else (if (bt a1 x12_1) = 12 then ((some (([92, 102] : List Int) : List Int)).bind fun y147 => (if x0_1.length + y147.length < 140737488355328 then (json_quoted.l0 kj8 (x0_1 ++ y147) a1 (a1.size : Int) (wrap64 (x12_1 + 1))) else (none))) else (if (bt a1 x12_1) = 13 then ((some (([92, 114] : List Int) : List Int)).bind fun y153 => (if x0_1.length + y153.length < 140737488355328 then (json_quoted.l0 kj8 (x0_1 ++ y153) a1 (a1.size : Int) (wrap64 (x12_1 + 1))) else (none))) else (if (bt a1 x12_1) < 32 then (if 0 ≤ ((bt a1 x12_1) / 16) then (if ((bt a1 x12_1) / 16) < 16 then (if 0 ≤ (Go.bits .and .u8 (bt a1 x12_1) 15) then (if (Go.bits .and .u8 (bt a1 x12_1) 15) < 16 then ((some (([92, 117, 48, 48, bt (⟨#[48, 49, 50, 51, 52, 53, 54, 55, 56, 57, 97, 98, 99, 100, 101, 102]⟩ : ByteArray) ((bt a1 x12_1) / 16), bt (⟨#[48, 49, 50, 51, 52, 53, 54, 55, 56, 57, 97, 98, 99, 100, 101, 102]⟩ : ByteArray) (Go.bits .and .u8 (bt a1 x12_1) 15)] : List Int) : List Int)).bind fun y159 => (if x0_1.length + y159.length < 140737488355328 then (json_quoted.l0 kj8 (x0_1 ++ y159) a1 (a1.size : Int) (wrap64 (x12_1 + 1))) else (none))) else (none)) else (none)) else (none)) else (none)) else (if x0_1.length < 140737488355328 then (json_quoted.l0 kj8 (x0_1 ++ [(bt a1 x12_1)]) a1 (a1.size : Int) (wrap64 (x12_1 + 1))) else (none)))))))) = some r := by rw [if_neg (show ¬ (false = true) by decide)] at H; exact H
          clear H
          have H := H1
          clear H1
          by_cases c17 : (bt a1 x12_1) = 8
          ·rw [if_pos c17] at H
           have c17b0 : ((bt a1 x12_1) == 8) = true := beq_iff_eq.mpr c17
           have c17b1 : ((bt a1 x12_1) != 8) = false := bne_eq_false_iff_eq.mpr c17
           clear c17
           obtain ⟨y129, hy129⟩ : ∃ y_ : List Int, y_ = (([92, 98] : List Int)) := ⟨_, rfl⟩
           replace H : (if x0_1.length + y129.length < 140737488355328 then (json_quoted.l0 kj8 (x0_1 ++ y129) a1 (a1.size : Int) (wrap64 (x12_1 + 1))) else (none)) = some r := by first | (rw [hy129]; with_reducible exact H) | (have H2_ := (Option.bind_some _ _).symm.trans H; rw [hy129]; with_reducible exact H2_) | (have H2_ := (Option.bind_some _ _).symm.trans H; with_reducible exact H2_) | with_reducible exact H | (rw [hy129]; exact H) | exact H
           have Ny129 := Aside0.mk hy129
           clear hy129
           by_cases c18 : x0_1.length + y129.length < 140737488355328
           ·rw [if_pos c18] at H
            have LMc18 := Aside0.mk c18
            clear c18
            obtain ⟨y132, hy132⟩ : ∃ y_ : List Int, y_ = (x0_1 ++ y129) := ⟨_, rfl⟩
            replace H : (json_quoted.l0 kj8 y132 a1 (a1.size : Int) (wrap64 (x12_1 + 1))) = some r := by first | (rw [hy132]; with_reducible exact H) | (have H2_ := (Option.bind_some _ _).symm.trans H; rw [hy132]; with_reducible exact H2_) | (have H2_ := (Option.bind_some _ _).symm.trans H; with_reducible exact H2_) | with_reducible exact H | (rw [hy132]; exact H) | exact H
            have Ny132 := Aside0.mk hy132
            clear hy132
            have H' := Aside0.mk H
            clear H
            go_wp2_with (first | ((with_reducible refine gate_dst (N := 44) rfl ?_); refine Kd.R_lit (Kd.int .u8) _ 5 ?hg (N := 44) ?hd (xs := ([92, 98] : List Int)) (inner := [.int .u8 92, .int .u8 98]) (ok := fun _ => True) (okp := fun _ => True) ?hr ?hp (fun _ hk => hk) trivial (Below.refl _ _) (Nat.le_refl _) (by simp) ?_; (case hd => rfl); (case hg => rfl); (case hr => first | (go_simp; done) | (go_simp; rfl)); (case hp => exact (Reps.one (show Kd.M (Kd.int .u8) _ _ _ 92 [.int .u8 92] from rfl) (Reps.one (show Kd.M (Kd.int .u8) _ _ _ 98 [.int .u8 98] from rfl) (Reps.none _ _)))); intro v130 w19 ho20 hb hg_ hnew_; clear hg_ hnew_; (first | rw [← Ny129.out] at ho20 | (simp only [Int.reduceToNat] at ho20; rw [← Ny129.out] at ho20)); have n0_ := Aside0.mk (Kd.R_elder' (by (with_reducible repeat (first | apply Kd.R_alloc | apply Kd.R_drewN | apply Kd.R_drew)); exact HO_0.out) (Kd.R_base ho20) hb); have n1_ := Aside0.mk (Kd.R_lower (Kd.R_new' (Kd.R_newM (M := fun k_ => (P0_ k_ ∨ w.heap.size ≤ k_)) ho20 (by first | exact HK.out.1 | exact (show Kept w _ (fun k_ => P0_ k_) from by repeat (first | (with_reducible first | exact HK.out | apply Kept.alloc | apply Kept.drewN | apply Kept.drew) | exact HK.out)).1) (fun k_ h_ => .inr h_)) (Kd.R_lt (by (with_reducible repeat (first | apply Kd.R_alloc | apply Kd.R_drewN | apply Kd.R_drew)); exact HO_0.out))) (below_size (by repeat (first | (with_reducible first | exact HB.out | apply below_alloc | apply pw_below_drewN | apply below_drew1) | exact HB.out)))); have n2_ := Aside0.mk (Kept.below (S := (fun k_ => P0_ k_)) (by repeat (first | (with_reducible first | exact HK.out | apply Kept.alloc | apply Kept.drewN | apply Kept.drew) | exact HK.out)) hb); have n3_ := Aside0.mk (below_step (by repeat (first | (with_reducible first | exact HB.out | apply below_alloc | apply pw_below_drewN | apply below_drew1) | exact HB.out)) hb); clear HO_0; clear HK; clear HB; have HO_0 := n0_; have HO131 := n1_; have HK := n2_; have HB := n3_; clear n0_ n1_ n2_ n3_; clear hb ho20; obtain ⟨Ao22, co22, eo22⟩ := Kd.R_slice HO131.out; subst eo22) | ((with_reducible refine gate_builtin (b := .append) (xs := #[.tmp 43, .tmp 44]) rfl ?_); at_builtin; refine Kd.R_append_rows (Kd.int .u8) (w0 := w0) w0.heap.size rfl (.tmp 43) (.tmp 44) 35 5 (.int .u8 0) 1 rfl Tryd.underlying35 info5 rfl (by decide) (by omega) u0 x0_1 y129 _ _ _ (fun k_ => (P0_ k_ ∨ w.heap.size ≤ k_) ∧ some k_ ≠ (.slice Ao22 y129.length co22 : Value).ownBlock) (fun _ => False) rfl rfl ?aO ?aR (fun _ _ h => h) (fun _ h => h.elim) ?aF ?aB ?aS ?aL ?_; (case aR => repeat (first | exact (Kd.R_reads' HO131.out).2.2 | (with_reducible refine Kd.C_alloc ?_ _) | (with_reducible refine Kd.C_drewN ?_ _) | (with_reducible refine Kd.C_drew ?_))); (case aB => exact (by repeat (first | (with_reducible first | exact HB.out | apply below_alloc | apply pw_below_drewN | apply below_drew1) | exact HB.out))); (case aF => exact (fun k_ hk => ⟨(.inr (Nat.le_trans (by first | exact HK.out.1 | exact (show Kept w _ (fun k_ => P0_ k_) from by repeat (first | (with_reducible first | exact HK.out | apply Kept.alloc | apply Kept.drewN | apply Kept.drew) | exact HK.out)).1) hk)), Kd.fresh' (Kd.R_lt (by (with_reducible repeat (first | apply Kd.R_alloc | apply Kd.R_drewN | apply Kd.R_drew)); exact HO131.out)) k_ hk⟩)); (case aO => exact (by (with_reducible repeat (first | apply Kd.R_alloc | apply Kd.R_drewN | apply Kd.R_drew)); exact HO_0.out)); (case aS => exact (below_size (by repeat (first | (with_reducible first | exact HB.out | apply below_alloc | apply pw_below_drewN | apply below_drew1) | exact HB.out)))); (case aL => have := LMc18.out; omega); intro v133 w21 ho hb hg hat; rw [← Ny132.out] at ho; have n0_ := Aside0.mk (Kd.R_after (ok := (fun k_ => (P0_ k_ ∨ w.heap.size ≤ k_))) (by (with_reducible repeat (first | apply Kd.R_alloc | apply Kd.R_drewN | apply Kd.R_drew)); exact Kd.R_mono HO131.out (fun _ hk => ⟨hk.1.1, hk.2⟩)) hg hat); have n1_ := Aside0.mk (hb); have n2_ := Aside0.mk (Kept.of_grown (S := (fun k_ => P0_ k_)) hg (by repeat (first | (with_reducible first | exact HK.out | apply Kept.alloc | apply Kept.drewN | apply Kept.drew) | exact HK.out)) (fun k_ e_ => (HO_0.out.1 k_ e_).1)); have n3_ := Aside0.mk (ho); clear HO131; clear HB; clear HK; clear HO_0; have HO131 := n0_; have HB := n1_; have HK := n2_; have HO134 := n3_; clear n0_ n1_ n2_ n3_; clear ho hb hg hat))
            go_roundg kj8
            case measure => have := HK1.out; have := HJ8.out; omega
            case rel => exact ⟨(y132), (wrap64 (x12_1 + 1)), (by first | rfl | (simp; done) | (simp [*]; done)), H', ⟨by have := HK1.out; have := HJ8.out; omega⟩, ⟨by (with_reducible repeat (first | apply Kd.R_alloc | apply Kd.R_drewN | apply Kd.R_drew)); exact Kd.R_mono HO134.out (fun _ hk => hk.1)⟩, ⟨by repeat (first | (with_reducible first | exact HK.out | apply Kept.alloc | apply Kept.drewN | apply Kept.drew) | exact HK.out)⟩, ⟨by repeat (first | (with_reducible first | exact HB.out | apply below_alloc | apply pw_below_drewN | apply below_drew1) | exact HB.out)⟩⟩
           ·rw [if_neg c18] at H
            exact absurd H (by simp)
          ·rw [if_neg c17] at H
           have c17b0 : ((bt a1 x12_1) == 8) = false := beq_eq_false_iff_ne.mpr c17
           have c17b1 : ((bt a1 x12_1) != 8) = true := bne_iff_ne.mpr c17
           by_cases c23 : (bt a1 x12_1) = 9
           ·rw [if_pos c23] at H
            have c23b0 : ((bt a1 x12_1) == 9) = true := beq_iff_eq.mpr c23
            have c23b1 : ((bt a1 x12_1) != 9) = false := bne_eq_false_iff_eq.mpr c23
            clear c23
            obtain ⟨y135, hy135⟩ : ∃ y_ : List Int, y_ = (([92, 116] : List Int)) := ⟨_, rfl⟩
            replace H : (if x0_1.length + y135.length < 140737488355328 then (json_quoted.l0 kj8 (x0_1 ++ y135) a1 (a1.size : Int) (wrap64 (x12_1 + 1))) else (none)) = some r := by first | (rw [hy135]; with_reducible exact H) | (have H2_ := (Option.bind_some _ _).symm.trans H; rw [hy135]; with_reducible exact H2_) | (have H2_ := (Option.bind_some _ _).symm.trans H; with_reducible exact H2_) | with_reducible exact H | (rw [hy135]; exact H) | exact H
            have Ny135 := Aside0.mk hy135
            clear hy135
            by_cases c24 : x0_1.length + y135.length < 140737488355328
            ·rw [if_pos c24] at H
             have LMc24 := Aside0.mk c24
             clear c24
             obtain ⟨y138, hy138⟩ : ∃ y_ : List Int, y_ = (x0_1 ++ y135) := ⟨_, rfl⟩
             replace H : (json_quoted.l0 kj8 y138 a1 (a1.size : Int) (wrap64 (x12_1 + 1))) = some r := by first | (rw [hy138]; with_reducible exact H) | (have H2_ := (Option.bind_some _ _).symm.trans H; rw [hy138]; with_reducible exact H2_) | (have H2_ := (Option.bind_some _ _).symm.trans H; with_reducible exact H2_) | with_reducible exact H | (rw [hy138]; exact H) | exact H
             have Ny138 := Aside0.mk hy138
             clear hy138
             have H' := Aside0.mk H
             clear H
             go_wp2_with (first | ((with_reducible refine gate_dst (N := 49) rfl ?_); refine Kd.R_lit (Kd.int .u8) _ 5 ?hg (N := 49) ?hd (xs := ([92, 116] : List Int)) (inner := [.int .u8 92, .int .u8 116]) (ok := fun _ => True) (okp := fun _ => True) ?hr ?hp (fun _ hk => hk) trivial (Below.refl _ _) (Nat.le_refl _) (by simp) ?_; (case hd => rfl); (case hg => rfl); (case hr => first | (go_simp; done) | (go_simp; rfl)); (case hp => exact (Reps.one (show Kd.M (Kd.int .u8) _ _ _ 92 [.int .u8 92] from rfl) (Reps.one (show Kd.M (Kd.int .u8) _ _ _ 116 [.int .u8 116] from rfl) (Reps.none _ _)))); intro v136 w25 ho26 hb hg_ hnew_; clear hg_ hnew_; (first | rw [← Ny135.out] at ho26 | (simp only [Int.reduceToNat] at ho26; rw [← Ny135.out] at ho26)); have n0_ := Aside0.mk (Kd.R_elder' (by (with_reducible repeat (first | apply Kd.R_alloc | apply Kd.R_drewN | apply Kd.R_drew)); exact HO_0.out) (Kd.R_base ho26) hb); have n1_ := Aside0.mk (Kd.R_lower (Kd.R_new' (Kd.R_newM (M := fun k_ => (P0_ k_ ∨ w.heap.size ≤ k_)) ho26 (by first | exact HK.out.1 | exact (show Kept w _ (fun k_ => P0_ k_) from by repeat (first | (with_reducible first | exact HK.out | apply Kept.alloc | apply Kept.drewN | apply Kept.drew) | exact HK.out)).1) (fun k_ h_ => .inr h_)) (Kd.R_lt (by (with_reducible repeat (first | apply Kd.R_alloc | apply Kd.R_drewN | apply Kd.R_drew)); exact HO_0.out))) (below_size (by repeat (first | (with_reducible first | exact HB.out | apply below_alloc | apply pw_below_drewN | apply below_drew1) | exact HB.out)))); have n2_ := Aside0.mk (Kept.below (S := (fun k_ => P0_ k_)) (by repeat (first | (with_reducible first | exact HK.out | apply Kept.alloc | apply Kept.drewN | apply Kept.drew) | exact HK.out)) hb); have n3_ := Aside0.mk (below_step (by repeat (first | (with_reducible first | exact HB.out | apply below_alloc | apply pw_below_drewN | apply below_drew1) | exact HB.out)) hb); clear HO_0; clear HK; clear HB; have HO_0 := n0_; have HO137 := n1_; have HK := n2_; have HB := n3_; clear n0_ n1_ n2_ n3_; clear hb ho26; obtain ⟨Ao28, co28, eo28⟩ := Kd.R_slice HO137.out; subst eo28) | ((with_reducible refine gate_builtin (b := .append) (xs := #[.tmp 48, .tmp 49]) rfl ?_); at_builtin; refine Kd.R_append_rows (Kd.int .u8) (w0 := w0) w0.heap.size rfl (.tmp 48) (.tmp 49) 35 5 (.int .u8 0) 1 rfl Tryd.underlying35 info5 rfl (by decide) (by omega) u0 x0_1 y135 _ _ _ (fun k_ => (P0_ k_ ∨ w.heap.size ≤ k_) ∧ some k_ ≠ (.slice Ao28 y135.length co28 : Value).ownBlock) (fun _ => False) rfl rfl ?aO ?aR (fun _ _ h => h) (fun _ h => h.elim) ?aF ?aB ?aS ?aL ?_; (case aR => repeat (first | exact (Kd.R_reads' HO137.out).2.2 | (with_reducible refine Kd.C_alloc ?_ _) | (with_reducible refine Kd.C_drewN ?_ _) | (with_reducible refine Kd.C_drew ?_))); (case aB => exact (by repeat (first | (with_reducible first | exact HB.out | apply below_alloc | apply pw_below_drewN | apply below_drew1) | exact HB.out))); (case aF => exact (fun k_ hk => ⟨(.inr (Nat.le_trans (by first | exact HK.out.1 | exact (show Kept w _ (fun k_ => P0_ k_) from by repeat (first | (with_reducible first | exact HK.out | apply Kept.alloc | apply Kept.drewN | apply Kept.drew) | exact HK.out)).1) hk)), Kd.fresh' (Kd.R_lt (by (with_reducible repeat (first | apply Kd.R_alloc | apply Kd.R_drewN | apply Kd.R_drew)); exact HO137.out)) k_ hk⟩)); (case aO => exact (by (with_reducible repeat (first | apply Kd.R_alloc | apply Kd.R_drewN | apply Kd.R_drew)); exact HO_0.out)); (case aS => exact (below_size (by repeat (first | (with_reducible first | exact HB.out | apply below_alloc | apply pw_below_drewN | apply below_drew1) | exact HB.out)))); (case aL => have := LMc24.out; omega); intro v139 w27 ho hb hg hat; rw [← Ny138.out] at ho; have n0_ := Aside0.mk (Kd.R_after (ok := (fun k_ => (P0_ k_ ∨ w.heap.size ≤ k_))) (by (with_reducible repeat (first | apply Kd.R_alloc | apply Kd.R_drewN | apply Kd.R_drew)); exact Kd.R_mono HO137.out (fun _ hk => ⟨hk.1.1, hk.2⟩)) hg hat); have n1_ := Aside0.mk (hb); have n2_ := Aside0.mk (Kept.of_grown (S := (fun k_ => P0_ k_)) hg (by repeat (first | (with_reducible first | exact HK.out | apply Kept.alloc | apply Kept.drewN | apply Kept.drew) | exact HK.out)) (fun k_ e_ => (HO_0.out.1 k_ e_).1)); have n3_ := Aside0.mk (ho); clear HO137; clear HB; clear HK; clear HO_0; have HO137 := n0_; have HB := n1_; have HK := n2_; have HO140 := n3_; clear n0_ n1_ n2_ n3_; clear ho hb hg hat))
             go_roundg kj8
             case measure => have := HK1.out; have := HJ8.out; omega
             case rel => exact ⟨(y138), (wrap64 (x12_1 + 1)), (by first | rfl | (simp; done) | (simp [*]; done)), H', ⟨by have := HK1.out; have := HJ8.out; omega⟩, ⟨by (with_reducible repeat (first | apply Kd.R_alloc | apply Kd.R_drewN | apply Kd.R_drew)); exact Kd.R_mono HO140.out (fun _ hk => hk.1)⟩, ⟨by repeat (first | (with_reducible first | exact HK.out | apply Kept.alloc | apply Kept.drewN | apply Kept.drew) | exact HK.out)⟩, ⟨by repeat (first | (with_reducible first | exact HB.out | apply below_alloc | apply pw_below_drewN | apply below_drew1) | exact HB.out)⟩⟩
            ·rw [if_neg c24] at H
             exact absurd H (by simp)
           ·rw [if_neg c23] at H
            have c23b0 : ((bt a1 x12_1) == 9) = false := beq_eq_false_iff_ne.mpr c23
            have c23b1 : ((bt a1 x12_1) != 9) = true := bne_iff_ne.mpr c23
            by_cases c29 : (bt a1 x12_1) = 10
            ·rw [if_pos c29] at H
             have c29b0 : ((bt a1 x12_1) == 10) = true := beq_iff_eq.mpr c29
             have c29b1 : ((bt a1 x12_1) != 10) = false := bne_eq_false_iff_eq.mpr c29
             clear c29
             obtain ⟨y141, hy141⟩ : ∃ y_ : List Int, y_ = (([92, 110] : List Int)) := ⟨_, rfl⟩
             replace H : (if x0_1.length + y141.length < 140737488355328 then (json_quoted.l0 kj8 (x0_1 ++ y141) a1 (a1.size : Int) (wrap64 (x12_1 + 1))) else (none)) = some r := by first | (rw [hy141]; with_reducible exact H) | (have H2_ := (Option.bind_some _ _).symm.trans H; rw [hy141]; with_reducible exact H2_) | (have H2_ := (Option.bind_some _ _).symm.trans H; with_reducible exact H2_) | with_reducible exact H | (rw [hy141]; exact H) | exact H
             have Ny141 := Aside0.mk hy141
             clear hy141
             by_cases c30 : x0_1.length + y141.length < 140737488355328
             ·rw [if_pos c30] at H
              have LMc30 := Aside0.mk c30
              clear c30
              obtain ⟨y144, hy144⟩ : ∃ y_ : List Int, y_ = (x0_1 ++ y141) := ⟨_, rfl⟩
              replace H : (json_quoted.l0 kj8 y144 a1 (a1.size : Int) (wrap64 (x12_1 + 1))) = some r := by first | (rw [hy144]; with_reducible exact H) | (have H2_ := (Option.bind_some _ _).symm.trans H; rw [hy144]; with_reducible exact H2_) | (have H2_ := (Option.bind_some _ _).symm.trans H; with_reducible exact H2_) | with_reducible exact H | (rw [hy144]; exact H) | exact H
              have Ny144 := Aside0.mk hy144
              clear hy144
              have H' := Aside0.mk H
              clear H
              go_wp2_with (first | ((with_reducible refine gate_dst (N := 54) rfl ?_); refine Kd.R_lit (Kd.int .u8) _ 5 ?hg (N := 54) ?hd (xs := ([92, 110] : List Int)) (inner := [.int .u8 92, .int .u8 110]) (ok := fun _ => True) (okp := fun _ => True) ?hr ?hp (fun _ hk => hk) trivial (Below.refl _ _) (Nat.le_refl _) (by simp) ?_; (case hd => rfl); (case hg => rfl); (case hr => first | (go_simp; done) | (go_simp; rfl)); (case hp => exact (Reps.one (show Kd.M (Kd.int .u8) _ _ _ 92 [.int .u8 92] from rfl) (Reps.one (show Kd.M (Kd.int .u8) _ _ _ 110 [.int .u8 110] from rfl) (Reps.none _ _)))); intro v142 w31 ho32 hb hg_ hnew_; clear hg_ hnew_; (first | rw [← Ny141.out] at ho32 | (simp only [Int.reduceToNat] at ho32; rw [← Ny141.out] at ho32)); have n0_ := Aside0.mk (Kd.R_elder' (by (with_reducible repeat (first | apply Kd.R_alloc | apply Kd.R_drewN | apply Kd.R_drew)); exact HO_0.out) (Kd.R_base ho32) hb); have n1_ := Aside0.mk (Kd.R_lower (Kd.R_new' (Kd.R_newM (M := fun k_ => (P0_ k_ ∨ w.heap.size ≤ k_)) ho32 (by first | exact HK.out.1 | exact (show Kept w _ (fun k_ => P0_ k_) from by repeat (first | (with_reducible first | exact HK.out | apply Kept.alloc | apply Kept.drewN | apply Kept.drew) | exact HK.out)).1) (fun k_ h_ => .inr h_)) (Kd.R_lt (by (with_reducible repeat (first | apply Kd.R_alloc | apply Kd.R_drewN | apply Kd.R_drew)); exact HO_0.out))) (below_size (by repeat (first | (with_reducible first | exact HB.out | apply below_alloc | apply pw_below_drewN | apply below_drew1) | exact HB.out)))); have n2_ := Aside0.mk (Kept.below (S := (fun k_ => P0_ k_)) (by repeat (first | (with_reducible first | exact HK.out | apply Kept.alloc | apply Kept.drewN | apply Kept.drew) | exact HK.out)) hb); have n3_ := Aside0.mk (below_step (by repeat (first | (with_reducible first | exact HB.out | apply below_alloc | apply pw_below_drewN | apply below_drew1) | exact HB.out)) hb); clear HO_0; clear HK; clear HB; have HO_0 := n0_; have HO143 := n1_; have HK := n2_; have HB := n3_; clear n0_ n1_ n2_ n3_; clear hb ho32; obtain ⟨Ao34, co34, eo34⟩ := Kd.R_slice HO143.out; subst eo34) | ((with_reducible refine gate_builtin (b := .append) (xs := #[.tmp 53, .tmp 54]) rfl ?_); at_builtin; refine Kd.R_append_rows (Kd.int .u8) (w0 := w0) w0.heap.size rfl (.tmp 53) (.tmp 54) 35 5 (.int .u8 0) 1 rfl Tryd.underlying35 info5 rfl (by decide) (by omega) u0 x0_1 y141 _ _ _ (fun k_ => (P0_ k_ ∨ w.heap.size ≤ k_) ∧ some k_ ≠ (.slice Ao34 y141.length co34 : Value).ownBlock) (fun _ => False) rfl rfl ?aO ?aR (fun _ _ h => h) (fun _ h => h.elim) ?aF ?aB ?aS ?aL ?_; (case aR => repeat (first | exact (Kd.R_reads' HO143.out).2.2 | (with_reducible refine Kd.C_alloc ?_ _) | (with_reducible refine Kd.C_drewN ?_ _) | (with_reducible refine Kd.C_drew ?_))); (case aB => exact (by repeat (first | (with_reducible first | exact HB.out | apply below_alloc | apply pw_below_drewN | apply below_drew1) | exact HB.out))); (case aF => exact (fun k_ hk => ⟨(.inr (Nat.le_trans (by first | exact HK.out.1 | exact (show Kept w _ (fun k_ => P0_ k_) from by repeat (first | (with_reducible first | exact HK.out | apply Kept.alloc | apply Kept.drewN | apply Kept.drew) | exact HK.out)).1) hk)), Kd.fresh' (Kd.R_lt (by (with_reducible repeat (first | apply Kd.R_alloc | apply Kd.R_drewN | apply Kd.R_drew)); exact HO143.out)) k_ hk⟩)); (case aO => exact (by (with_reducible repeat (first | apply Kd.R_alloc | apply Kd.R_drewN | apply Kd.R_drew)); exact HO_0.out)); (case aS => exact (below_size (by repeat (first | (with_reducible first | exact HB.out | apply below_alloc | apply pw_below_drewN | apply below_drew1) | exact HB.out)))); (case aL => have := LMc30.out; omega); intro v145 w33 ho hb hg hat; rw [← Ny144.out] at ho; have n0_ := Aside0.mk (Kd.R_after (ok := (fun k_ => (P0_ k_ ∨ w.heap.size ≤ k_))) (by (with_reducible repeat (first | apply Kd.R_alloc | apply Kd.R_drewN | apply Kd.R_drew)); exact Kd.R_mono HO143.out (fun _ hk => ⟨hk.1.1, hk.2⟩)) hg hat); have n1_ := Aside0.mk (hb); have n2_ := Aside0.mk (Kept.of_grown (S := (fun k_ => P0_ k_)) hg (by repeat (first | (with_reducible first | exact HK.out | apply Kept.alloc | apply Kept.drewN | apply Kept.drew) | exact HK.out)) (fun k_ e_ => (HO_0.out.1 k_ e_).1)); have n3_ := Aside0.mk (ho); clear HO143; clear HB; clear HK; clear HO_0; have HO143 := n0_; have HB := n1_; have HK := n2_; have HO146 := n3_; clear n0_ n1_ n2_ n3_; clear ho hb hg hat))
              go_roundg kj8
              case measure => have := HK1.out; have := HJ8.out; omega
              case rel => exact ⟨(y144), (wrap64 (x12_1 + 1)), (by first | rfl | (simp; done) | (simp [*]; done)), H', ⟨by have := HK1.out; have := HJ8.out; omega⟩, ⟨by (with_reducible repeat (first | apply Kd.R_alloc | apply Kd.R_drewN | apply Kd.R_drew)); exact Kd.R_mono HO146.out (fun _ hk => hk.1)⟩, ⟨by repeat (first | (with_reducible first | exact HK.out | apply Kept.alloc | apply Kept.drewN | apply Kept.drew) | exact HK.out)⟩, ⟨by repeat (first | (with_reducible first | exact HB.out | apply below_alloc | apply pw_below_drewN | apply below_drew1) | exact HB.out)⟩⟩
             ·rw [if_neg c30] at H
              exact absurd H (by simp)
            ·rw [if_neg c29] at H
             have c29b0 : ((bt a1 x12_1) == 10) = false := beq_eq_false_iff_ne.mpr c29
             have c29b1 : ((bt a1 x12_1) != 10) = true := bne_iff_ne.mpr c29
             by_cases c35 : (bt a1 x12_1) = 12
             ·rw [if_pos c35] at H
              have c35b0 : ((bt a1 x12_1) == 12) = true := beq_iff_eq.mpr c35
              have c35b1 : ((bt a1 x12_1) != 12) = false := bne_eq_false_iff_eq.mpr c35
              clear c35
              obtain ⟨y147, hy147⟩ : ∃ y_ : List Int, y_ = (([92, 102] : List Int)) := ⟨_, rfl⟩
              replace H : (if x0_1.length + y147.length < 140737488355328 then (json_quoted.l0 kj8 (x0_1 ++ y147) a1 (a1.size : Int) (wrap64 (x12_1 + 1))) else (none)) = some r := by first | (rw [hy147]; with_reducible exact H) | (have H2_ := (Option.bind_some _ _).symm.trans H; rw [hy147]; with_reducible exact H2_) | (have H2_ := (Option.bind_some _ _).symm.trans H; with_reducible exact H2_) | with_reducible exact H | (rw [hy147]; exact H) | exact H
              have Ny147 := Aside0.mk hy147
              clear hy147
              by_cases c36 : x0_1.length + y147.length < 140737488355328
              ·rw [if_pos c36] at H
               have LMc36 := Aside0.mk c36
               clear c36
               obtain ⟨y150, hy150⟩ : ∃ y_ : List Int, y_ = (x0_1 ++ y147) := ⟨_, rfl⟩
               replace H : (json_quoted.l0 kj8 y150 a1 (a1.size : Int) (wrap64 (x12_1 + 1))) = some r := by first | (rw [hy150]; with_reducible exact H) | (have H2_ := (Option.bind_some _ _).symm.trans H; rw [hy150]; with_reducible exact H2_) | (have H2_ := (Option.bind_some _ _).symm.trans H; with_reducible exact H2_) | with_reducible exact H | (rw [hy150]; exact H) | exact H
               have Ny150 := Aside0.mk hy150
               clear hy150
               have H' := Aside0.mk H
               clear H
               go_wp2_with (first | ((with_reducible refine gate_dst (N := 59) rfl ?_); refine Kd.R_lit (Kd.int .u8) _ 5 ?hg (N := 59) ?hd (xs := ([92, 102] : List Int)) (inner := [.int .u8 92, .int .u8 102]) (ok := fun _ => True) (okp := fun _ => True) ?hr ?hp (fun _ hk => hk) trivial (Below.refl _ _) (Nat.le_refl _) (by simp) ?_; (case hd => rfl); (case hg => rfl); (case hr => first | (go_simp; done) | (go_simp; rfl)); (case hp => exact (Reps.one (show Kd.M (Kd.int .u8) _ _ _ 92 [.int .u8 92] from rfl) (Reps.one (show Kd.M (Kd.int .u8) _ _ _ 102 [.int .u8 102] from rfl) (Reps.none _ _)))); intro v148 w37 ho38 hb hg_ hnew_; clear hg_ hnew_; (first | rw [← Ny147.out] at ho38 | (simp only [Int.reduceToNat] at ho38; rw [← Ny147.out] at ho38)); have n0_ := Aside0.mk (Kd.R_elder' (by (with_reducible repeat (first | apply Kd.R_alloc | apply Kd.R_drewN | apply Kd.R_drew)); exact HO_0.out) (Kd.R_base ho38) hb); have n1_ := Aside0.mk (Kd.R_lower (Kd.R_new' (Kd.R_newM (M := fun k_ => (P0_ k_ ∨ w.heap.size ≤ k_)) ho38 (by first | exact HK.out.1 | exact (show Kept w _ (fun k_ => P0_ k_) from by repeat (first | (with_reducible first | exact HK.out | apply Kept.alloc | apply Kept.drewN | apply Kept.drew) | exact HK.out)).1) (fun k_ h_ => .inr h_)) (Kd.R_lt (by (with_reducible repeat (first | apply Kd.R_alloc | apply Kd.R_drewN | apply Kd.R_drew)); exact HO_0.out))) (below_size (by repeat (first | (with_reducible first | exact HB.out | apply below_alloc | apply pw_below_drewN | apply below_drew1) | exact HB.out)))); have n2_ := Aside0.mk (Kept.below (S := (fun k_ => P0_ k_)) (by repeat (first | (with_reducible first | exact HK.out | apply Kept.alloc | apply Kept.drewN | apply Kept.drew) | exact HK.out)) hb); have n3_ := Aside0.mk (below_step (by repeat (first | (with_reducible first | exact HB.out | apply below_alloc | apply pw_below_drewN | apply below_drew1) | exact HB.out)) hb); clear HO_0; clear HK; clear HB; have HO_0 := n0_; have HO149 := n1_; have HK := n2_; have HB := n3_; clear n0_ n1_ n2_ n3_; clear hb ho38; obtain ⟨Ao40, co40, eo40⟩ := Kd.R_slice HO149.out; subst eo40) | ((with_reducible refine gate_builtin (b := .append) (xs := #[.tmp 58, .tmp 59]) rfl ?_); at_builtin; refine Kd.R_append_rows (Kd.int .u8) (w0 := w0) w0.heap.size rfl (.tmp 58) (.tmp 59) 35 5 (.int .u8 0) 1 rfl Tryd.underlying35 info5 rfl (by decide) (by omega) u0 x0_1 y147 _ _ _ (fun k_ => (P0_ k_ ∨ w.heap.size ≤ k_) ∧ some k_ ≠ (.slice Ao40 y147.length co40 : Value).ownBlock) (fun _ => False) rfl rfl ?aO ?aR (fun _ _ h => h) (fun _ h => h.elim) ?aF ?aB ?aS ?aL ?_; (case aR => repeat (first | exact (Kd.R_reads' HO149.out).2.2 | (with_reducible refine Kd.C_alloc ?_ _) | (with_reducible refine Kd.C_drewN ?_ _) | (with_reducible refine Kd.C_drew ?_))); (case aB => exact (by repeat (first | (with_reducible first | exact HB.out | apply below_alloc | apply pw_below_drewN | apply below_drew1) | exact HB.out))); (case aF => exact (fun k_ hk => ⟨(.inr (Nat.le_trans (by first | exact HK.out.1 | exact (show Kept w _ (fun k_ => P0_ k_) from by repeat (first | (with_reducible first | exact HK.out | apply Kept.alloc | apply Kept.drewN | apply Kept.drew) | exact HK.out)).1) hk)), Kd.fresh' (Kd.R_lt (by (with_reducible repeat (first | apply Kd.R_alloc | apply Kd.R_drewN | apply Kd.R_drew)); exact HO149.out)) k_ hk⟩)); (case aO => exact (by (with_reducible repeat (first | apply Kd.R_alloc | apply Kd.R_drewN | apply Kd.R_drew)); exact HO_0.out)); (case aS => exact (below_size (by repeat (first | (with_reducible first | exact HB.out | apply below_alloc | apply pw_below_drewN | apply below_drew1) | exact HB.out)))); (case aL => have := LMc36.out; omega); intro v151 w39 ho hb hg hat; rw [← Ny150.out] at ho; have n0_ := Aside0.mk (Kd.R_after (ok := (fun k_ => (P0_ k_ ∨ w.heap.size ≤ k_))) (by (with_reducible repeat (first | apply Kd.R_alloc | apply Kd.R_drewN | apply Kd.R_drew)); exact Kd.R_mono HO149.out (fun _ hk => ⟨hk.1.1, hk.2⟩)) hg hat); have n1_ := Aside0.mk (hb); have n2_ := Aside0.mk (Kept.of_grown (S := (fun k_ => P0_ k_)) hg (by repeat (first | (with_reducible first | exact HK.out | apply Kept.alloc | apply Kept.drewN | apply Kept.drew) | exact HK.out)) (fun k_ e_ => (HO_0.out.1 k_ e_).1)); have n3_ := Aside0.mk (ho); clear HO149; clear HB; clear HK; clear HO_0; have HO149 := n0_; have HB := n1_; have HK := n2_; have HO152 := n3_; clear n0_ n1_ n2_ n3_; clear ho hb hg hat))
               go_roundg kj8
               case measure => have := HK1.out; have := HJ8.out; omega
               case rel => exact ⟨(y150), (wrap64 (x12_1 + 1)), (by first | rfl | (simp; done) | (simp [*]; done)), H', ⟨by have := HK1.out; have := HJ8.out; omega⟩, ⟨by (with_reducible repeat (first | apply Kd.R_alloc | apply Kd.R_drewN | apply Kd.R_drew)); exact Kd.R_mono HO152.out (fun _ hk => hk.1)⟩, ⟨by repeat (first | (with_reducible first | exact HK.out | apply Kept.alloc | apply Kept.drewN | apply Kept.drew) | exact HK.out)⟩, ⟨by repeat (first | (with_reducible first | exact HB.out | apply below_alloc | apply pw_below_drewN | apply below_drew1) | exact HB.out)⟩⟩
              ·rw [if_neg c36] at H
               exact absurd H (by simp)
             ·rw [if_neg c35] at H
              have c35b0 : ((bt a1 x12_1) == 12) = false := beq_eq_false_iff_ne.mpr c35
              have c35b1 : ((bt a1 x12_1) != 12) = true := bne_iff_ne.mpr c35
              by_cases c41 : (bt a1 x12_1) = 13
              ·rw [if_pos c41] at H
               have c41b0 : ((bt a1 x12_1) == 13) = true := beq_iff_eq.mpr c41
               have c41b1 : ((bt a1 x12_1) != 13) = false := bne_eq_false_iff_eq.mpr c41
               clear c41
               obtain ⟨y153, hy153⟩ : ∃ y_ : List Int, y_ = (([92, 114] : List Int)) := ⟨_, rfl⟩
               replace H : (if x0_1.length + y153.length < 140737488355328 then (json_quoted.l0 kj8 (x0_1 ++ y153) a1 (a1.size : Int) (wrap64 (x12_1 + 1))) else (none)) = some r := by first | (rw [hy153]; with_reducible exact H) | (have H2_ := (Option.bind_some _ _).symm.trans H; rw [hy153]; with_reducible exact H2_) | (have H2_ := (Option.bind_some _ _).symm.trans H; with_reducible exact H2_) | with_reducible exact H | (rw [hy153]; exact H) | exact H
               have Ny153 := Aside0.mk hy153
               clear hy153
               by_cases c42 : x0_1.length + y153.length < 140737488355328
               ·rw [if_pos c42] at H
                have LMc42 := Aside0.mk c42
                clear c42
                obtain ⟨y156, hy156⟩ : ∃ y_ : List Int, y_ = (x0_1 ++ y153) := ⟨_, rfl⟩
                replace H : (json_quoted.l0 kj8 y156 a1 (a1.size : Int) (wrap64 (x12_1 + 1))) = some r := by first | (rw [hy156]; with_reducible exact H) | (have H2_ := (Option.bind_some _ _).symm.trans H; rw [hy156]; with_reducible exact H2_) | (have H2_ := (Option.bind_some _ _).symm.trans H; with_reducible exact H2_) | with_reducible exact H | (rw [hy156]; exact H) | exact H
                have Ny156 := Aside0.mk hy156
                clear hy156
                have H' := Aside0.mk H
                clear H
                go_wp2_with (first | ((with_reducible refine gate_dst (N := 64) rfl ?_); refine Kd.R_lit (Kd.int .u8) _ 5 ?hg (N := 64) ?hd (xs := ([92, 114] : List Int)) (inner := [.int .u8 92, .int .u8 114]) (ok := fun _ => True) (okp := fun _ => True) ?hr ?hp (fun _ hk => hk) trivial (Below.refl _ _) (Nat.le_refl _) (by simp) ?_; (case hd => rfl); (case hg => rfl); (case hr => first | (go_simp; done) | (go_simp; rfl)); (case hp => exact (Reps.one (show Kd.M (Kd.int .u8) _ _ _ 92 [.int .u8 92] from rfl) (Reps.one (show Kd.M (Kd.int .u8) _ _ _ 114 [.int .u8 114] from rfl) (Reps.none _ _)))); intro v154 w43 ho44 hb hg_ hnew_; clear hg_ hnew_; (first | rw [← Ny153.out] at ho44 | (simp only [Int.reduceToNat] at ho44; rw [← Ny153.out] at ho44)); have n0_ := Aside0.mk (Kd.R_elder' (by (with_reducible repeat (first | apply Kd.R_alloc | apply Kd.R_drewN | apply Kd.R_drew)); exact HO_0.out) (Kd.R_base ho44) hb); have n1_ := Aside0.mk (Kd.R_lower (Kd.R_new' (Kd.R_newM (M := fun k_ => (P0_ k_ ∨ w.heap.size ≤ k_)) ho44 (by first | exact HK.out.1 | exact (show Kept w _ (fun k_ => P0_ k_) from by repeat (first | (with_reducible first | exact HK.out | apply Kept.alloc | apply Kept.drewN | apply Kept.drew) | exact HK.out)).1) (fun k_ h_ => .inr h_)) (Kd.R_lt (by (with_reducible repeat (first | apply Kd.R_alloc | apply Kd.R_drewN | apply Kd.R_drew)); exact HO_0.out))) (below_size (by repeat (first | (with_reducible first | exact HB.out | apply below_alloc | apply pw_below_drewN | apply below_drew1) | exact HB.out)))); have n2_ := Aside0.mk (Kept.below (S := (fun k_ => P0_ k_)) (by repeat (first | (with_reducible first | exact HK.out | apply Kept.alloc | apply Kept.drewN | apply Kept.drew) | exact HK.out)) hb); have n3_ := Aside0.mk (below_step (by repeat (first | (with_reducible first | exact HB.out | apply below_alloc | apply pw_below_drewN | apply below_drew1) | exact HB.out)) hb); clear HO_0; clear HK; clear HB; have HO_0 := n0_; have HO155 := n1_; have HK := n2_; have HB := n3_; clear n0_ n1_ n2_ n3_; clear hb ho44; obtain ⟨Ao46, co46, eo46⟩ := Kd.R_slice HO155.out; subst eo46) | ((with_reducible refine gate_builtin (b := .append) (xs := #[.tmp 63, .tmp 64]) rfl ?_); at_builtin; refine Kd.R_append_rows (Kd.int .u8) (w0 := w0) w0.heap.size rfl (.tmp 63) (.tmp 64) 35 5 (.int .u8 0) 1 rfl Tryd.underlying35 info5 rfl (by decide) (by omega) u0 x0_1 y153 _ _ _ (fun k_ => (P0_ k_ ∨ w.heap.size ≤ k_) ∧ some k_ ≠ (.slice Ao46 y153.length co46 : Value).ownBlock) (fun _ => False) rfl rfl ?aO ?aR (fun _ _ h => h) (fun _ h => h.elim) ?aF ?aB ?aS ?aL ?_; (case aR => repeat (first | exact (Kd.R_reads' HO155.out).2.2 | (with_reducible refine Kd.C_alloc ?_ _) | (with_reducible refine Kd.C_drewN ?_ _) | (with_reducible refine Kd.C_drew ?_))); (case aB => exact (by repeat (first | (with_reducible first | exact HB.out | apply below_alloc | apply pw_below_drewN | apply below_drew1) | exact HB.out))); (case aF => exact (fun k_ hk => ⟨(.inr (Nat.le_trans (by first | exact HK.out.1 | exact (show Kept w _ (fun k_ => P0_ k_) from by repeat (first | (with_reducible first | exact HK.out | apply Kept.alloc | apply Kept.drewN | apply Kept.drew) | exact HK.out)).1) hk)), Kd.fresh' (Kd.R_lt (by (with_reducible repeat (first | apply Kd.R_alloc | apply Kd.R_drewN | apply Kd.R_drew)); exact HO155.out)) k_ hk⟩)); (case aO => exact (by (with_reducible repeat (first | apply Kd.R_alloc | apply Kd.R_drewN | apply Kd.R_drew)); exact HO_0.out)); (case aS => exact (below_size (by repeat (first | (with_reducible first | exact HB.out | apply below_alloc | apply pw_below_drewN | apply below_drew1) | exact HB.out)))); (case aL => have := LMc42.out; omega); intro v157 w45 ho hb hg hat; rw [← Ny156.out] at ho; have n0_ := Aside0.mk (Kd.R_after (ok := (fun k_ => (P0_ k_ ∨ w.heap.size ≤ k_))) (by (with_reducible repeat (first | apply Kd.R_alloc | apply Kd.R_drewN | apply Kd.R_drew)); exact Kd.R_mono HO155.out (fun _ hk => ⟨hk.1.1, hk.2⟩)) hg hat); have n1_ := Aside0.mk (hb); have n2_ := Aside0.mk (Kept.of_grown (S := (fun k_ => P0_ k_)) hg (by repeat (first | (with_reducible first | exact HK.out | apply Kept.alloc | apply Kept.drewN | apply Kept.drew) | exact HK.out)) (fun k_ e_ => (HO_0.out.1 k_ e_).1)); have n3_ := Aside0.mk (ho); clear HO155; clear HB; clear HK; clear HO_0; have HO155 := n0_; have HB := n1_; have HK := n2_; have HO158 := n3_; clear n0_ n1_ n2_ n3_; clear ho hb hg hat))
                go_roundg kj8
                case measure => have := HK1.out; have := HJ8.out; omega
                case rel => exact ⟨(y156), (wrap64 (x12_1 + 1)), (by first | rfl | (simp; done) | (simp [*]; done)), H', ⟨by have := HK1.out; have := HJ8.out; omega⟩, ⟨by (with_reducible repeat (first | apply Kd.R_alloc | apply Kd.R_drewN | apply Kd.R_drew)); exact Kd.R_mono HO158.out (fun _ hk => hk.1)⟩, ⟨by repeat (first | (with_reducible first | exact HK.out | apply Kept.alloc | apply Kept.drewN | apply Kept.drew) | exact HK.out)⟩, ⟨by repeat (first | (with_reducible first | exact HB.out | apply below_alloc | apply pw_below_drewN | apply below_drew1) | exact HB.out)⟩⟩
               ·rw [if_neg c42] at H
                exact absurd H (by simp)
              ·rw [if_neg c41] at H
               have c41b0 : ((bt a1 x12_1) == 13) = false := beq_eq_false_iff_ne.mpr c41
               have c41b1 : ((bt a1 x12_1) != 13) = true := bne_iff_ne.mpr c41
               by_cases c47 : (bt a1 x12_1) < 32
               ·rw [if_pos c47] at H
                have c47b0 : decide ((bt a1 x12_1) < 32) = true := decide_eq_true c47
                clear c47
                obtain ⟨ji48, hji48⟩ : ∃ j_ : Int, ((bt a1 x12_1) / 16) = j_ := ⟨_, rfl⟩
                replace H : (if 0 ≤ (ji48) then (if (ji48) < 16 then (if 0 ≤ (Go.bits .and .u8 (bt a1 x12_1) 15) then (if (Go.bits .and .u8 (bt a1 x12_1) 15) < 16 then ((some (([92, 117, 48, 48, bt (⟨#[48, 49, 50, 51, 52, 53, 54, 55, 56, 57, 97, 98, 99, 100, 101, 102]⟩ : ByteArray) (ji48), bt (⟨#[48, 49, 50, 51, 52, 53, 54, 55, 56, 57, 97, 98, 99, 100, 101, 102]⟩ : ByteArray) (Go.bits .and .u8 (bt a1 x12_1) 15)] : List Int) : List Int)).bind fun y159 => (if x0_1.length + y159.length < 140737488355328 then (json_quoted.l0 kj8 (x0_1 ++ y159) a1 (a1.size : Int) (wrap64 (x12_1 + 1))) else (none))) else (none)) else (none)) else (none)) else (none)) = some r := by first | (rw [hji48] at H; exact H) | (simp only [hji48] at H ⊢; exact H)
                by_cases c49 : 0 ≤ (ji48)
                ·rw [if_pos c49] at H
                 have c49b0 : decide (0 ≤ (ji48)) = true := decide_eq_true c49
                 clear c49
                 by_cases c50 : (ji48) < 16
                 ·rw [if_pos c50] at H
                  have c50b0 : decide ((ji48) < 16) = true := decide_eq_true c50
                  clear c50
                  by_cases c52 : 0 ≤ (Go.bits .and .u8 (bt a1 x12_1) 15)
                  ·rw [if_pos c52] at H
                   have c52b0 : decide (0 ≤ (Go.bits .and .u8 (bt a1 x12_1) 15)) = true := decide_eq_true c52
                   clear c52
                   by_cases c53 : (Go.bits .and .u8 (bt a1 x12_1) 15) < 16
                   ·rw [if_pos c53] at H
                    have c53b0 : decide ((Go.bits .and .u8 (bt a1 x12_1) 15) < 16) = true := decide_eq_true c53
                    clear c53
                    obtain ⟨y159, hy159⟩ : ∃ y_ : List Int, y_ = (([92, 117, 48, 48, bt (⟨#[48, 49, 50, 51, 52, 53, 54, 55, 56, 57, 97, 98, 99, 100, 101, 102]⟩ : ByteArray) (ji48), bt (⟨#[48, 49, 50, 51, 52, 53, 54, 55, 56, 57, 97, 98, 99, 100, 101, 102]⟩ : ByteArray) (Go.bits .and .u8 (bt a1 x12_1) 15)] : List Int)) := ⟨_, rfl⟩
                    replace H : (if x0_1.length + y159.length < 140737488355328 then (json_quoted.l0 kj8 (x0_1 ++ y159) a1 (a1.size : Int) (wrap64 (x12_1 + 1))) else (none)) = some r := by first | (rw [hy159]; with_reducible exact H) | (have H2_ := (Option.bind_some _ _).symm.trans H; rw [hy159]; with_reducible exact H2_) | (have H2_ := (Option.bind_some _ _).symm.trans H; with_reducible exact H2_) | with_reducible exact H | (rw [hy159]; exact H) | exact H
                    have Ny159 := Aside0.mk hy159
                    clear hy159
                    by_cases c55 : x0_1.length + y159.length < 140737488355328
                    ·rw [if_pos c55] at H
                     have LMc55 := Aside0.mk c55
                     clear c55
                     obtain ⟨y162, hy162⟩ : ∃ y_ : List Int, y_ = (x0_1 ++ y159) := ⟨_, rfl⟩
                     replace H : (json_quoted.l0 kj8 y162 a1 (a1.size : Int) (wrap64 (x12_1 + 1))) = some r := by first | (rw [hy162]; with_reducible exact H) | (have H2_ := (Option.bind_some _ _).symm.trans H; rw [hy162]; with_reducible exact H2_) | (have H2_ := (Option.bind_some _ _).symm.trans H; with_reducible exact H2_) | with_reducible exact H | (rw [hy162]; exact H) | exact H
                     have Ny162 := Aside0.mk hy162
                     clear hy162
                     have H' := Aside0.mk H
                     clear H
                     try go_wp2
                     have n0_ := Aside0.mk (Kd.R_drew HO_0.out)
                     have n1_ := Aside0.mk (Kept.drew HK.out)
                     have n2_ := Aside0.mk (below_drew1 HB.out)
                     clear HO_0
                     clear HK
                     clear HB
                     have HO_0 := n0_
                     have HK := n1_
                     have HB := n2_
                     clear n0_ n1_ n2_
                     have p51 : 0 ≤ ((ji48) : Int) := of_decide_eq_true (by first | (with_reducible assumption) | assumption)
                     have q51 : (ji48) < (16 : Int) := of_decide_eq_true (by first | (with_reducible assumption) | assumption)
                     have hx51 := bt_at (⟨#[48, 49, 50, 51, 52, 53, 54, 55, 56, 57, 97, 98, 99, 100, 101, 102]⟩ : ByteArray) (ji48)
                     replace p51 := eq_true p51
                     replace q51 := eq_true q51
                     have p54 : 0 ≤ ((Go.bits .and .u8 (bt a1 x12_1) 15) : Int) := of_decide_eq_true (by first | (with_reducible assumption) | assumption)
                     have q54 : (Go.bits .and .u8 (bt a1 x12_1) 15) < (16 : Int) := of_decide_eq_true (by first | (with_reducible assumption) | assumption)
                     have hx54 := bt_at (⟨#[48, 49, 50, 51, 52, 53, 54, 55, 56, 57, 97, 98, 99, 100, 101, 102]⟩ : ByteArray) (Go.bits .and .u8 (bt a1 x12_1) 15)
                     replace p54 := eq_true p54
                     replace q54 := eq_true q54
                     refine start_ (n := 10) (S := fun w' => True) (ds := []) #[false, false, false, false, false, false, false, false, false, false] (by kernel_rfl) rfl rfl trivial (fun hHeld => ?_); refine with_tabW json_quoted.tab8 json_quoted.bits8 (fun HT_ HW_ => ?_)
                     generalize wc.drew = w56 at HO_0 HK HB hHeld ⊢
                     refine pure_ (i := 0) (N := some 21) (v := ?_) (a' := ?_) #[true, false, false, false, false, false, false, false, false, false] rfl rfl (any_of HT_.out (by kernel_rfl)) (fun _ _ _ h => h) (Or.inl ⟨by rfl, ?_⟩) ?_ ?_
                     rotate_left
                     ·intro w'
                      go_simp
                      with_reducible rfl
                     rotate_left
                     ·simp only [Act.put, List.setIfInBounds_toArray, List.set_cons_zero, List.set_cons_succ, i64_w, i32_w]
                      rfl
                     refine pure_ (i := 1) (N := some 22) (v := ?_) (a' := ?_) #[true, true, false, false, false, false, false, false, false, false] rfl rfl (any_of HT_.out (by kernel_rfl)) (fun _ _ _ h => h) (Or.inl ⟨by rfl, ?_⟩) ?_ ?_
                     rotate_left
                     ·intro w'
                      go_simp
                      with_reducible rfl
                     rotate_left
                     ·simp only [Act.put, List.setIfInBounds_toArray, List.set_cons_zero, List.set_cons_succ, i64_w, i32_w]
                      rfl
                     refine pure_ (i := 2) (N := some 23) (v := ?_) (a' := ?_) #[true, true, true, false, false, false, false, false, false, false] rfl rfl (any_of HT_.out (by kernel_rfl)) (fun _ _ _ h => h) (Or.inl ⟨by rfl, ?_⟩) ?_ ?_
                     rotate_left
                     ·intro w'
                      go_simp
                      with_reducible rfl
                     rotate_left
                     ·simp only [Act.put, List.setIfInBounds_toArray, List.set_cons_zero, List.set_cons_succ, i64_w, i32_w]
                      rfl
                     refine pure_ (i := 4) (N := some 25) (v := ?_) (a' := ?_) #[true, true, true, false, true, false, false, false, false, false] rfl rfl (any_of HT_.out (by kernel_rfl)) (fun _ _ _ h => h) (Or.inl ⟨by rfl, ?_⟩) ?_ ?_
                     rotate_left
                     ·intro w'
                      go_simp
                      with_reducible rfl
                     rotate_left
                     ·simp only [Act.put, List.setIfInBounds_toArray, List.set_cons_zero, List.set_cons_succ, i64_w, i32_w]
                      rfl
                     refine pure_ (i := 5) (N := some 26) (v := ?_) (a' := ?_) #[true, true, true, false, true, true, false, false, false, false] rfl rfl (any_of HT_.out (by kernel_rfl)) (fun _ _ _ h => h) (Or.inl ⟨by rfl, ?_⟩) ?_ ?_
                     rotate_left
                     ·intro w'
                      go_simp
                      with_reducible rfl
                     rotate_left
                     ·simp only [Act.put, List.setIfInBounds_toArray, List.set_cons_zero, List.set_cons_succ, i64_w, i32_w]
                      rfl
                     refine take_ (i := 3) (N := some 24) (v := ?_) (a' := ?_) #[true, true, true, true, true, true, false, false, false, false] rfl rfl (take_ofW HT_.out HW_.out (by kernel_rfl)) (fun _ _ _ h => h) (Or.inl ⟨by rfl, ?_⟩) hHeld ?_ ?_
                     rotate_left
                     ·intro w' _
                      go_simp
                      with_reducible rfl
                     rotate_left
                     ·simp only [Act.put, List.setIfInBounds_toArray, List.set_cons_zero, List.set_cons_succ, i64_w, i32_w]
                      rfl
                     refine take_ (i := 6) (N := some 27) (v := ?_) (a' := ?_) #[true, true, true, true, true, true, true, false, false, false] rfl rfl (take_ofW HT_.out HW_.out (by kernel_rfl)) (fun _ _ _ h => h) (Or.inl ⟨by rfl, ?_⟩) hHeld ?_ ?_
                     rotate_left
                     ·intro w' _
                      go_simp
                      with_reducible rfl
                     rotate_left
                     ·simp only [Act.put, List.setIfInBounds_toArray, List.set_cons_zero, List.set_cons_succ, i64_w, i32_w]
                      rfl
                     refine one_ (i := 7) (N := some 28) #[true, true, true, true, true, true, true, true, false, false] rfl rfl (one_of HT_.out (by kernel_rfl)) (by decide) (fun K hK => ?_)
                     refine Kd.R_lit_step (Kd.int .u8) _ 5 ?hg (N := 28) ?hd (xs := ([92, 117, 48, 48, bt (⟨#[48, 49, 50, 51, 52, 53, 54, 55, 56, 57, 97, 98, 99, 100, 101, 102]⟩ : ByteArray) (ji48), bt (⟨#[48, 49, 50, 51, 52, 53, 54, 55, 56, 57, 97, 98, 99, 100, 101, 102]⟩ : ByteArray) (Go.bits .and .u8 (bt a1 x12_1) 15)] : List Int)) (inner := [.int .u8 92, .int .u8 117, .int .u8 48, .int .u8 48, .int .u8 (bt (⟨#[48, 49, 50, 51, 52, 53, 54, 55, 56, 57, 97, 98, 99, 100, 101, 102]⟩ : ByteArray) (ji48)), .int .u8 (bt (⟨#[48, 49, 50, 51, 52, 53, 54, 55, 56, 57, 97, 98, 99, 100, 101, 102]⟩ : ByteArray) (Go.bits .and .u8 (bt a1 x12_1) 15))]) (ok := fun _ => True) (okp := fun _ => True) ?hr ?hp (fun _ hk => hk) trivial (Below.refl _ _) (Nat.le_refl _) (by simp) ?_; (case hd => rfl); (case hg => rfl); (case hr => first | (go_simp; done) | (go_simp; rfl)); (case hp => exact (Reps.one (show Kd.M (Kd.int .u8) _ _ _ 92 [.int .u8 92] from rfl) (Reps.one (show Kd.M (Kd.int .u8) _ _ _ 117 [.int .u8 117] from rfl) (Reps.one (show Kd.M (Kd.int .u8) _ _ _ 48 [.int .u8 48] from rfl) (Reps.one (show Kd.M (Kd.int .u8) _ _ _ 48 [.int .u8 48] from rfl) (Reps.one (show Kd.M (Kd.int .u8) _ _ _ (bt (⟨#[48, 49, 50, 51, 52, 53, 54, 55, 56, 57, 97, 98, 99, 100, 101, 102]⟩ : ByteArray) (ji48)) [.int .u8 (bt (⟨#[48, 49, 50, 51, 52, 53, 54, 55, 56, 57, 97, 98, 99, 100, 101, 102]⟩ : ByteArray) (ji48))] from rfl) (Reps.one (show Kd.M (Kd.int .u8) _ _ _ (bt (⟨#[48, 49, 50, 51, 52, 53, 54, 55, 56, 57, 97, 98, 99, 100, 101, 102]⟩ : ByteArray) (Go.bits .and .u8 (bt a1 x12_1) 15)) [.int .u8 (bt (⟨#[48, 49, 50, 51, 52, 53, 54, 55, 56, 57, 97, 98, 99, 100, 101, 102]⟩ : ByteArray) (Go.bits .and .u8 (bt a1 x12_1) 15))] from rfl) (Reps.none _ _))))))))
                     intro v160 w57 ho58 hb hg_ hnew_
                     clear hg_ hnew_
                     (first | rw [← Ny159.out] at ho58 | (simp only [Int.reduceToNat] at ho58; rw [← Ny159.out] at ho58))
                     have n0_ := Aside0.mk (Kd.R_elder' (by (with_reducible repeat (first | apply Kd.R_alloc | apply Kd.R_drewN | apply Kd.R_drew)); exact HO_0.out) (Kd.R_base ho58) hb)
                     have n1_ := Aside0.mk (Kd.R_lower (Kd.R_new' (Kd.R_newM (M := fun k_ => (P0_ k_ ∨ w.heap.size ≤ k_)) ho58 (by first | exact HK.out.1 | exact (show Kept w _ (fun k_ => P0_ k_) from by repeat (first | (with_reducible first | exact HK.out | apply Kept.alloc | apply Kept.drewN | apply Kept.drew) | exact HK.out)).1) (fun k_ h_ => .inr h_)) (Kd.R_lt (by (with_reducible repeat (first | apply Kd.R_alloc | apply Kd.R_drewN | apply Kd.R_drew)); exact HO_0.out))) (below_size (by repeat (first | (with_reducible first | exact HB.out | apply below_alloc | apply pw_below_drewN | apply below_drew1) | exact HB.out))))
                     have n2_ := Aside0.mk (Kept.below (S := (fun k_ => P0_ k_)) (by repeat (first | (with_reducible first | exact HK.out | apply Kept.alloc | apply Kept.drewN | apply Kept.drew) | exact HK.out)) hb)
                     have n3_ := Aside0.mk (below_step (by repeat (first | (with_reducible first | exact HB.out | apply below_alloc | apply pw_below_drewN | apply below_drew1) | exact HB.out)) hb)
                     clear HO_0
                     clear HK
                     clear HB
                     have HO_0 := n0_
                     have HO161 := n1_
                     have HK := n2_
                     have HB := n3_
                     clear n0_ n1_ n2_ n3_
                     clear hb ho58
                     obtain ⟨Ao60, co60, eo60⟩ := Kd.R_slice HO161.out
                     (first | subst eo60 | (injection eo60 with f1_ f2_ f3_; have f4_ := f1_.symm; have f5_ := f3_.symm; clear f1_ f2_ f3_; subst f4_; subst f5_))
                     refine hK.out _ _ trivial (fun hHeld => ?_)
                     clear hK K
                     refine norm_ (a' := ?_) ?_ ?_
                     rotate_left
                     ·show Act.put _ (some 28) _ = _
                      simp only [Act.put, List.setIfInBounds_toArray, List.set_cons_zero, List.set_cons_succ, i64_w, i32_w]
                      rfl
                     refine one_ (i := 8) (N := some 29) #[true, true, true, true, true, true, true, true, true, false] rfl rfl (one_of HT_.out (by kernel_rfl)) (by decide) (fun K hK => ?_)
                     refine Kd.R_append_rows_step (Kd.int .u8) (w0 := w0) w0.heap.size (by rfl) (.tmp 21) (.tmp 28) 35 5 (.int .u8 0) 1 rfl Tryd.underlying35 info5 rfl (by decide) (by omega) u0 x0_1 y159 _ _ _ (fun k_ => (P0_ k_ ∨ w.heap.size ≤ k_) ∧ some k_ ≠ (.slice Ao60 y159.length co60 : Value).ownBlock) (fun _ => False) rfl rfl ?aO ?aR (fun _ _ h => h) (fun _ h => h.elim) ?aF ?aB ?aS ?aL ?_
                     (case aR => repeat (first | exact (Kd.R_reads' HO161.out).2.2 | (with_reducible refine Kd.C_alloc ?_ _) | (with_reducible refine Kd.C_drewN ?_ _) | (with_reducible refine Kd.C_drew ?_)))
                     (case aB => exact (by repeat (first | (with_reducible first | exact HB.out | apply below_alloc | apply pw_below_drewN | apply below_drew1) | exact HB.out)))
                     (case aF => exact (fun k_ hk => ⟨(.inr (Nat.le_trans (by first | exact HK.out.1 | exact (show Kept w _ (fun k_ => P0_ k_) from by repeat (first | (with_reducible first | exact HK.out | apply Kept.alloc | apply Kept.drewN | apply Kept.drew) | exact HK.out)).1) hk)), Kd.fresh' (Kd.R_lt (by (with_reducible repeat (first | apply Kd.R_alloc | apply Kd.R_drewN | apply Kd.R_drew)); exact HO161.out)) k_ hk⟩))
                     (case aO => exact (by (with_reducible repeat (first | apply Kd.R_alloc | apply Kd.R_drewN | apply Kd.R_drew)); exact HO_0.out))
                     (case aS => exact (below_size (by repeat (first | (with_reducible first | exact HB.out | apply below_alloc | apply pw_below_drewN | apply below_drew1) | exact HB.out))))
                     (case aL => have := LMc55.out; omega)
                     intro v163 w59 ho hb hg hat
                     rw [← Ny162.out] at ho
                     have n0_ := Aside0.mk (Kd.R_after (ok := (fun k_ => (P0_ k_ ∨ w.heap.size ≤ k_))) (by (with_reducible repeat (first | apply Kd.R_alloc | apply Kd.R_drewN | apply Kd.R_drew)); exact Kd.R_mono HO161.out (fun _ hk => ⟨hk.1.1, hk.2⟩)) hg hat)
                     have n1_ := Aside0.mk (hb)
                     have n2_ := Aside0.mk (Kept.of_grown (S := (fun k_ => P0_ k_)) hg (by repeat (first | (with_reducible first | exact HK.out | apply Kept.alloc | apply Kept.drewN | apply Kept.drew) | exact HK.out)) (fun k_ e_ => (HO_0.out.1 k_ e_).1))
                     have n3_ := Aside0.mk (ho)
                     clear HO161
                     clear HB
                     clear HK
                     clear HO_0
                     have HO161 := n0_
                     have HB := n1_
                     have HK := n2_
                     have HO164 := n3_
                     clear n0_ n1_ n2_ n3_
                     clear ho hb hg hat
                     refine hK.out _ _ trivial (fun hHeld => ?_)
                     clear hK K
                     refine norm_ (a' := ?_) ?_ ?_
                     rotate_left
                     ·show Act.put _ (some 29) _ = _
                      simp only [Act.put, List.setIfInBounds_toArray, List.set_cons_zero, List.set_cons_succ, i64_w, i32_w]
                      rfl
                     refine pure_ (i := 9) (N := some 0) (v := ?_) (a' := ?_) #[true, true, true, true, true, true, true, true, true, true] rfl rfl (any_of HT_.out (by kernel_rfl)) (fun _ _ _ h => h) (Or.inl ⟨by rfl, ?_⟩) ?_ ?_
                     rotate_left
                     ·intro w'
                      go_simp
                      with_reducible rfl
                     rotate_left
                     ·simp only [Act.put, List.setIfInBounds_toArray, List.set_cons_zero, List.set_cons_succ, i64_w, i32_w]
                      rfl
                     refine done_ (done_of HT_.out (by kernel_rfl)) ?_
                     try go_wp2
                     go_roundg kj8
                     case measure => have := HK1.out; have := HJ8.out; omega
                     case rel => exact ⟨(y162), (wrap64 (x12_1 + 1)), (by first | rfl | (simp; done) | (simp [*]; done)), H', ⟨by have := HK1.out; have := HJ8.out; omega⟩, ⟨by (with_reducible repeat (first | apply Kd.R_alloc | apply Kd.R_drewN | apply Kd.R_drew)); exact Kd.R_mono HO164.out (fun _ hk => hk.1)⟩, ⟨by repeat (first | (with_reducible first | exact HK.out | apply Kept.alloc | apply Kept.drewN | apply Kept.drew) | exact HK.out)⟩, ⟨by repeat (first | (with_reducible first | exact HB.out | apply below_alloc | apply pw_below_drewN | apply below_drew1) | exact HB.out)⟩⟩
                    ·rw [if_neg c55] at H
                     exact absurd H (by simp)
                   ·rw [if_neg c53] at H
                    exact absurd H (by simp)
                  ·rw [if_neg c52] at H
                   exact absurd H (by simp)
                 ·rw [if_neg c50] at H
                  exact absurd H (by simp)
                ·rw [if_neg c49] at H
                 exact absurd H (by simp)
               ·rw [if_neg c47] at H
                have c47b0 : decide ((bt a1 x12_1) < 32) = false := decide_eq_false c47
                clear c47
                by_cases c61 : x0_1.length < 140737488355328
                ·rw [if_pos c61] at H
                 have LMc61 := Aside0.mk c61
                 clear c61
                 obtain ⟨y165, hy165⟩ : ∃ y_ : List Int, y_ = (x0_1 ++ [(bt a1 x12_1)]) := ⟨_, rfl⟩
                 replace H : (json_quoted.l0 kj8 y165 a1 (a1.size : Int) (wrap64 (x12_1 + 1))) = some r := by first | (rw [hy165]; with_reducible exact H) | (have H2_ := (Option.bind_some _ _).symm.trans H; rw [hy165]; with_reducible exact H2_) | (have H2_ := (Option.bind_some _ _).symm.trans H; with_reducible exact H2_) | with_reducible exact H | (rw [hy165]; exact H) | exact H
                 have Ny165 := Aside0.mk hy165
                 clear hy165
                 have H' := Aside0.mk H
                 clear H
                 go_wp2_with (first | ((with_reducible refine gate_builtin (b := .append) (xs := #[.tmp 30, .tmp 32]) rfl ?_); at_builtin; refine Kd.R_append (Kd.int .u8) (w0 := w0) w0.heap.size rfl (.tmp 30) (.tmp 32) 35 5 (.int .u8 0) 1 rfl Tryd.underlying35 info5 rfl (by decide) (by omega) u0 x0_1 (bt a1 x12_1) [.int .u8 (bt a1 x12_1)] (fun k_ => (P0_ k_ ∨ w.heap.size ≤ k_)) (fun _ => False) rfl rfl ?aP (fun _ hk => hk.elim) ?aF ?aO ?aB ?aS ?aL ?_; (case aP => exact rfl); (case aB => exact (by repeat (first | (with_reducible first | exact HB.out | apply below_alloc | apply pw_below_drewN | apply below_drew1) | exact HB.out))); (case aF => exact (fun k_ hk => (.inr (Nat.le_trans (by first | exact HK.out.1 | exact (show Kept w _ (fun k_ => P0_ k_) from by repeat (first | (with_reducible first | exact HK.out | apply Kept.alloc | apply Kept.drewN | apply Kept.drew) | exact HK.out)).1) hk)))); (case aO => exact (by (with_reducible repeat (first | apply Kd.R_alloc | apply Kd.R_drewN | apply Kd.R_drew)); exact HO_0.out)); (case aS => exact (below_size (by repeat (first | (with_reducible first | exact HB.out | apply below_alloc | apply pw_below_drewN | apply below_drew1) | exact HB.out)))); (case aL => have := LMc61.out; omega); intro v166 w62 ho hb hg hat; rw [← Ny165.out] at ho; have n0_ := Aside0.mk (hb); have n1_ := Aside0.mk (Kept.of_grown (S := (fun k_ => P0_ k_)) hg (by repeat (first | (with_reducible first | exact HK.out | apply Kept.alloc | apply Kept.drewN | apply Kept.drew) | exact HK.out)) (fun k_ e_ => (HO_0.out.1 k_ e_))); have n2_ := Aside0.mk (ho); clear HB; clear HK; clear HO_0; have HB := n0_; have HK := n1_; have HO167 := n2_; clear n0_ n1_ n2_; clear ho hb hg hat))
                 go_roundg kj8
                 case measure => have := HK1.out; have := HJ8.out; omega
                 case rel => exact ⟨(y165), (wrap64 (x12_1 + 1)), (by first | rfl | (simp; done) | (simp [*]; done)), H', ⟨by have := HK1.out; have := HJ8.out; omega⟩, ⟨by (with_reducible repeat (first | apply Kd.R_alloc | apply Kd.R_drewN | apply Kd.R_drew)); exact HO167.out⟩, ⟨by repeat (first | (with_reducible first | exact HK.out | apply Kept.alloc | apply Kept.drewN | apply Kept.drew) | exact HK.out)⟩, ⟨by repeat (first | (with_reducible first | exact HB.out | apply below_alloc | apply pw_below_drewN | apply below_drew1) | exact HB.out)⟩⟩
                ·rw [if_neg c61] at H
                 exact absurd H (by simp)
      ·rw [if_neg c7] at H
       exact absurd H (by simp)
     ·rw [if_neg c6] at H
      exact absurd H (by simp)
    ·rw [if_neg c5] at H
     have c5b0 : decide (x12_1 < (a1.size : Int)) = false := decide_eq_false c5
     clear c5
     by_cases c63 : x0_1.length < 140737488355328
     ·rw [if_pos c63] at H
      have LMc63 := Aside0.mk c63
      clear c63
      obtain ⟨y120, hy120⟩ : ∃ y_ : List Int, y_ = (x0_1 ++ [34]) := ⟨_, rfl⟩
      replace H : (some y120) = some r := by first | (rw [hy120]; with_reducible exact H) | (have H2_ := (Option.bind_some _ _).symm.trans H; rw [hy120]; with_reducible exact H2_) | (have H2_ := (Option.bind_some _ _).symm.trans H; with_reducible exact H2_) | with_reducible exact H | (rw [hy120]; exact H) | exact H
      have Ny120 := Aside0.mk hy120
      clear hy120
      obtain rfl := Option.some.inj H
      go_wp2_with (first | ((with_reducible refine gate_builtin (b := .append) (xs := #[.tmp 67, .tmp 68]) rfl ?_); at_builtin; refine Kd.R_append (Kd.int .u8) (w0 := w0) w0.heap.size rfl (.tmp 67) (.tmp 68) 35 5 (.int .u8 0) 1 rfl Tryd.underlying35 info5 rfl (by decide) (by omega) u0 x0_1 34 [.int .u8 34] (fun k_ => (P0_ k_ ∨ w.heap.size ≤ k_)) (fun _ => False) rfl rfl ?aP (fun _ hk => hk.elim) ?aF ?aO ?aB ?aS ?aL ?_; (case aP => exact rfl); (case aB => exact (by repeat (first | (with_reducible first | exact HB.out | apply below_alloc | apply pw_below_drewN | apply below_drew1) | exact HB.out))); (case aF => exact (fun k_ hk => (.inr (Nat.le_trans (by first | exact HK.out.1 | exact (show Kept w _ (fun k_ => P0_ k_) from by repeat (first | (with_reducible first | exact HK.out | apply Kept.alloc | apply Kept.drewN | apply Kept.drew) | exact HK.out)).1) hk)))); (case aO => exact (by (with_reducible repeat (first | apply Kd.R_alloc | apply Kd.R_drewN | apply Kd.R_drew)); exact HO_0.out)); (case aS => exact (below_size (by repeat (first | (with_reducible first | exact HB.out | apply below_alloc | apply pw_below_drewN | apply below_drew1) | exact HB.out)))); (case aL => have := LMc63.out; omega); intro v121 w64 ho hb hg hat; rw [← Ny120.out] at ho; have n0_ := Aside0.mk (hb); have n1_ := Aside0.mk (Kept.of_grown (S := (fun k_ => P0_ k_)) hg (by repeat (first | (with_reducible first | exact HK.out | apply Kept.alloc | apply Kept.drewN | apply Kept.drew) | exact HK.out)) (fun k_ e_ => (HO_0.out.1 k_ e_))); have n2_ := Aside0.mk (ho); clear HB; clear HK; clear HO_0; have HB := n0_; have HK := n1_; have HO122 := n2_; clear n0_ n1_ n2_; clear ho hb hg hat))
      go_ret
      exact ⟨_, by first | rfl | (simp [errW_none, errW_some] <;> rfl) | (simp [*, errW_none, errW_some] <;> rfl), by (with_reducible repeat (first | apply Kd.R_alloc | apply Kd.R_drewN | apply Kd.R_drew)); exact HO122.out, by repeat (first | (with_reducible first | exact HB.out | apply below_alloc | apply pw_below_drewN | apply below_drew1) | exact HB.out), by repeat (first | (with_reducible first | exact HK.out | apply Kept.alloc | apply Kept.drewN | apply Kept.drew) | exact HK.out)⟩
     ·rw [if_neg c63] at H
      exact absurd H (by simp)
 ·rw [if_neg c3] at H
  exact absurd H (by simp)
end Go.Proofs.YteighppcdpaekaaDoor.P
end
section
namespace Go.Proofs.YteighppcdpaekaaDoor.Wr
open Go.RowKit Go.Proofs.YteighppcdpaekaaDoorW.PrintWords
open Go.Proofs.YteighppcdpaekaaDoor Go.Proofs.YteighppcdpaekaaDoor.P
def room (x y : List Int) : Option (List Int) := if x.length + y.length < 140737488355328 then some (x ++ y) else none
def head (k : Nat) (x : List Int) (v : S27) (i : Nat) (seen : List ByteArray) : Option (List Int × List ByteArray × Int) :=
 if v.f0 = 6 then match v.f2[i]? with
  | none => none
  | some key => match json_plain.f k key with
   | none => none
   | some false => some ([], [], 10)
   | some true => if (seen.any fun y => decide (y = key)) = true then some ([], [], 23) else match json_quoted.f k x key with
    | none => none
    | some z => match room z [58] with
     | none => none
     | some z2 => some (z2, seen ++ [key], 0)
 else some (x, seen, 0)
mutual
def wr : Nat → List Int → S27 → Int → Option (List Int × Int)
 | 0, _, _, _ => none
 | k + 1, x, v, deep =>
  if v.f0 = 0 then (room x [110, 117, 108, 108]).map fun y => (y, 0)
  else if v.f0 = 1 then (room x [102, 97, 108, 115, 101]).map fun y => (y, 0)
  else if v.f0 = 2 then (room x [116, 114, 117, 101]).map fun y => (y, 0)
  else if v.f0 = 3 then match json_isNumber.f k v.f1 with
   | none => none
   | some true => (room x (bytesOf v.f1)).map fun y => (y, 0)
   | some false => some ([], 6)
  else if v.f0 = 4 then match json_plain.f k v.f1 with
   | none => none
   | some true => (json_quoted.f k x v.f1).map fun y => (y, 0)
   | some false => some ([], 10)
  else if v.f0 = 5 ∨ v.f0 = 6 then (if 64 ≤ deep then some ([], 13) else pt k x v (deep + 1))
  else some ([], 6)
def pt : Nat → List Int → S27 → Int → Option (List Int × Int)
 | 0, _, _, _ => none
 | k + 1, x, v, deep =>
  if v.f0 = 6 ∧ ¬ v.f2.length = v.f3.length then some ([], 6)
  else if 100000000000 < v.f3.length ∨ ¬ (v.f0 = 5 ∨ v.f0 = 6) then none
  else match room x [if v.f0 = 6 then 123 else 91] with
   | none => none
   | some y => pl k y v deep 0 []
def pl : Nat → List Int → S27 → Int → Nat → List ByteArray → Option (List Int × Int)
 | 0, _, _, _, _, _ => none
 | k + 1, x, v, deep, i, seen => match v.f3[i]? with
  | none => (room x [if v.f0 = 6 then 125 else 93]).map fun y => (y, 0)
  | some u => match (if 0 < i then room x [44] else some x) with
   | none => none
   | some y => match head k y v i seen with
    | none => none
    | some (z, seen2, e) => if e = 0 then match wr k z u deep with
      | none => none
      | some (z2, e2) => if e2 = 0 then pl k z2 v deep (i + 1) seen2 else some ([], e2)
     else some ([], e)
end
end Go.Proofs.YteighppcdpaekaaDoor.Wr
end
section
namespace Go.Proofs.YteighppcdpaekaaDoor.Wr
open Go.RowKit Go.Proofs.YteighppcdpaekaaDoorW.PrintWords
open Go.Proofs.YteighppcdpaekaaDoor
theorem str_lies {P : Program} (w : World) (base : Nat) (t u ty e : TypeId) (i : TypeInfo) (ht : P.underlying t = some (.slice e)) (hu : P.underlying u = some .string) (hi : P.info? e = some i) (hz : i.zero = some (.int .u8 0))
  (hsize : i.size = 1) (hby : i.bytes = 1) (v : Value) (n : Nat) (xs : List Value) (hown : w.ownsRow base e 1 v n xs) (s : ByteArray) (h63 : n + s.size ≤ maxLen) (hbytes : n + s.size ≤ 140737488355328)
  {v' : Value} {w' : World} (h : (Builtin.append_ #[t, u] ty #[v, .string s]).run P w = .ok v' w') : v'.ownBlock = v.ownBlock ∨ ∃ b, v'.ownBlock = some b ∧ w.heap.size ≤ b := by
 have hsmall : n + s.size ≤ 9223372036854775807 := by simp only [maxLen] at h63; omega
 have hxl : xs.length = n := by simpa using hown.1
 rcases hown.2 with ⟨rfl, rfl⟩ | ⟨g, cap, cur, rfl, hbg, hg, hnc, hcm, hcs, htake⟩
 ·by_cases hm : s.size = 0
  ·have hf := Lib.run_firstCells_string (P := P) w 1 s
   rw [hm] at hf
   simp [Builtin.append_, run_underlying ht, run_underlying hu, sizeOf, typeInfo, hi, hsize, Builtin.lenOf, hm, hf] at h
   rw [← h.1]
   exact .inl rfl
  ·have hr := run_append_nil_string (P := P) w t u ty e i (.int .u8 0) ht hu hi hz s (by omega) (by omega) (by rw [hby]; omega)
   rw [hr] at h
   injection h with h1 h2
   rw [← h1]
   exact .inr ⟨w.heap.size, rfl, Nat.le_refl _⟩
 ·by_cases hroom : n + s.size ≤ cap
  ·have hcs' : cur.size = cap := by simpa using hcs
   have hr := Lib.run_append_room_string (P := P) w t u ty e i ht hu hi hsize g n cap cur hg s hroom (by omega)
   rw [hr] at h
   injection h with h1 h2
   rw [← h1]
   exact .inl rfl
  ·have holds : ∀ j u, xs[j]? = some u → w.cell? ((⟨g, 0, none⟩ : Addr).add j) = some u := hown.cells (g := g) rfl
   have hr := Lib.run_append_grow_string (P := P) w t u ty e i (.int .u8 0) ht hu hi hz ⟨g, 0, none⟩ n cap xs (by rw [hsize]; simpa using hxl) holds s (by omega) (by omega) (by rw [hby]; exact growslice_fits (by omega) (by omega))
   rw [hr] at h
   injection h with h1 h2
   rw [← h1]
   exact .inr ⟨w.heap.size, rfl, Nat.le_refl _⟩
section
variable {P : Program} {ops : Array Oper} {rest : List Oper} {o : Oper} {a : Act} {Q : Exit → Act → World → Prop}
theorem append_str_R {w0 W : World} (base : Nat) (hgd : o.guard = none) (s x : Operand) (t u e : TypeId)
  (ho : o.op = .call { callee := .builtin .append, args := #[s, x], argTypes := #[t, u] })
  (ht : P.underlying t = some (.slice e)) (hu : P.underlying u = some .string) (hinfo : (P.info? e).map (fun i => (i.zero, i.size, i.bytes)) = some (some (.int .u8 0), 1, 1))
  (v : Value) (xs : List Int) (y : ByteArray) (ok : Nat → Prop) (hs : a.eval s = v) (hx : a.eval x = .string y)
  (HO : (Kd.int .u8).R e W base ok v xs) (hfresh : ∀ k, W.heap.size ≤ k → ok k) (HB : Below base w0 W) (hbase : base ≤ W.heap.size) (hl : xs.length + y.size < 140737488355328)
  (h : ∀ v1 w1, (Kd.int .u8).R e w1 base ok v1 (xs ++ bytesOf y) → Below base w0 w1 → W.grownBy w1 v.ownBlock → wpList P ops Q rest (a.put o.dst v1) w1) :
  wpList P ops Q (o :: rest) a W := by
 obtain ⟨i0, hi, hzz⟩ := Option.map_eq_some_iff.1 hinfo
 simp only [Prod.mk.injEq] at hzz
 obtain ⟨hz0, hz1, hz2⟩ := hzz
 have hown := Kd.own_of_R HO
 refine wpList_plain hgd fun K hK => ?_
 obtain ⟨v', w', hr, h2, h3, h4⟩ := Lib.run_append_own_string (P := P) W base t u o.type e i0 ht hu hi hz0 hz1 hz2 v xs.length _ hown y (by simp only [maxLen]; omega) (by omega) hbase
 have hat := str_lies W base t u o.type e i0 ht hu hi hz0 hz1 hz2 v xs.length _ hown y (by simp only [maxLen]; omega) (by omega) hr
 unfold Oper.wp execOp
 simp only [ho, resolve, invoke, builtin, Sem.run_bind, Sem.run_pure, Result.andThen_ok, List.map_toArray, List.map_cons, List.map_nil, hs, hx, hr]
 have hl2 : (xs ++ bytesOf y).length = xs.length + y.size := by rw [List.length_append, bytesOf_length]
 refine hK _ _ (h v' w' (Kd.R_of_own ?_ ?_) (HB.grown h3 hbase (own_base hown)) h3)
 ·rw [hl2]
  have hc : encs (Value.int .u8) (xs ++ bytesOf y) = encs (Value.int .u8) xs ++ Lib.strCells y := by
   simp [encs, bytesOf, Lib.strCells]
  rw [hc]
  exact h2
 ·intro k hk
  rcases hat with e1 | ⟨b, e1, hb⟩
  ·exact HO.1 k (by rw [← e1]; exact hk)
  ·rw [e1] at hk
   cases hk
   exact hfresh _ hb
end
end Go.Proofs.YteighppcdpaekaaDoor.Wr
end
section
namespace Go.Proofs.YteighppcdpaekaaDoor.Wr
open Go.RowKit Go.Proofs.YteighppcdpaekaaDoorW.PrintWords
open Go.Proofs.YteighppcdpaekaaDoor Go.Proofs.YteighppcdpaekaaDoor.P
def WPost (w0 w : World) (P0 : Nat → Prop) (r : List Int) (e : Int) (en : Ending) (w' : World) : Prop := ∃ v0 : Value, en = .returned (.tuple #[v0, .int .i64 e]) ∧ (Kd.int .u8).R 5 w' w0.heap.size (fun k => P0 k ∨ w.heap.size ≤ k) v0 r ∧ Below w0.heap.size w0 w' ∧ Kept w w' P0
def OKs (f : FuncId) (m : List Int → S27 → Int → Option (List Int × Int)) : Prop := ∀ (w0 w : World) (P0 : Nat → Prop) (u : Value) (x : List Int) (v : S27) (A2 : Option Addr) (c2 : Nat) (A3 : Option Addr) (c3 : Nat) (deep : Int) (r : List Int) (e : Int), Below w0.heap.size w0 w →
 Kd.string.C w0 A2 v.f2.length v.f2 → v.f2.length ≤ c2 → k27.C w0 A3 v.f3.length v.f3 → v.f3.length ≤ c3 → (Kd.int .u8).R 5 w w0.heap.size P0 u x → 0 ≤ deep → deep ≤ 1000 → m x v deep = some (r, e) →
 Calls Tryd.prog f #[u, .agg #[.int .i64 v.f0, .string v.f1, .slice A2 v.f2.length c2, .slice A3 v.f3.length c3], .int .i64 deep] w (WPost w0 w P0 r e)
theorem room_some {x y r : List Int} (h : room x y = some r) : x.length + y.length < 140737488355328 ∧ r = x ++ y := by
 unfold room at h
 split at h
 ·rename_i h1; exact ⟨h1, (Option.some.inj h).symm⟩
 ·cases h
theorem info_5 : (Tryd.prog.info? 5).map (fun i => (i.zero, i.size, i.bytes)) = some (some (.int .u8 0), 1, 1) := by kernel_rfl
set_option maxRecDepth 100000 in
set_option maxHeartbeats 3200000 in
theorem written_null {w0 w : World} {P0 : Nat → Prop} {u : Value} {x : List Int} {v : S27} {A2 : Option Addr} {c2 : Nat} {A3 : Option Addr} {c3 : Nat} {deep : Int} {r : List Int} (hB : Below w0.heap.size w0 w) (hR : (Kd.int .u8).R 5 w w0.heap.size P0 u x) (h0 : v.f0 = 0) (h : room x [110, 117, 108, 108] = some r) :
  Calls Tryd.prog 61 #[u, .agg #[.int .i64 v.f0, .string v.f1, .slice A2 v.f2.length c2, .slice A3 v.f3.length c3], .int .i64 deep] w (WPost w0 w P0 r 0) := by
 obtain ⟨hl, rfl⟩ := room_some h
 rw [h0]
 generalize v.f1 = t1
 generalize v.f2.length = n2
 generalize v.f3.length = n3
 have hB1 : Below w0.heap.size w0 (w.alloc (.cells #[.int .i64 0, .string t1, .slice A2 n2 c2, .slice A3 n3 c3] 27 (0, 0))) := below_alloc hB _
 have hR1 : (Kd.int .u8).R 5 (w.alloc (.cells #[.int .i64 0, .string t1, .slice A2 n2 c2, .slice A3 n3 c3] 27 (0, 0))) w0.heap.size (fun k => P0 k ∨ w.heap.size ≤ k) u x := Kd.R_mono (Kd.R_alloc hR _) (fun k hk => .inl hk)
 have hsz := hB.size
 have hfin : ∀ v1 w1, (Kd.int .u8).R 5 w1 w0.heap.size (fun k => P0 k ∨ w.heap.size ≤ k) v1 (x ++ [110, 117, 108, 108]) → Below w0.heap.size w0 w1 → (w.alloc (.cells #[.int .i64 0, .string t1, .slice A2 n2 c2, .slice A3 n3 c3] 27 (0, 0))).grownBy w1 u.ownBlock → WPost w0 w P0 (x ++ [110, 117, 108, 108]) 0 (.returned (.tuple #[v1, .int .i64 0])) w1 := fun v1 w1 h1 h2 h3 =>
  ⟨v1, rfl, h1, h2, Kept.of_grown h3 ((Kept.refl w P0).alloc _) (fun k hk => .inl (hR.1 k hk))⟩
 have hfin' := Lib.hid hfin
 clear hfin
 go_enter Tryd.func61, Tryd.ntmps61
 go_wp2_with (at_builtin; refine append_str_R (w0 := w0) w0.heap.size rfl (.tmp 12) (.const (.string ⟨#[110, 117, 108, 108]⟩)) 35 9 5 rfl Tryd.underlying35 Tryd.underlying9 info_5 u x ⟨#[110, 117, 108, 108]⟩ (fun k => P0 k ∨ w.heap.size ≤ k) rfl rfl hR1 (fun k hk => .inr (by simp at hk; omega)) hB1 (by simp; omega) (by have h4 : (⟨#[110, 117, 108, 108]⟩ : ByteArray).size = 4 := rfl; rw [h4]; simp at hl; exact hl) ?_; intro v1 w1 hR2 hB2 hg2)
 refine bodyPost_ret (v := .tuple #[v1, .int .i64 0]) (by simp [results, Tryd.results61, go_sem]) rfl ?_
 exact hfin'.out _ _ hR2 hB2 hg2
set_option maxRecDepth 100000 in
set_option maxHeartbeats 3200000 in
theorem written_false {w0 w : World} {P0 : Nat → Prop} {u : Value} {x : List Int} {v : S27} {A2 : Option Addr} {c2 : Nat} {A3 : Option Addr} {c3 : Nat} {deep : Int} {r : List Int} (hB : Below w0.heap.size w0 w) (hR : (Kd.int .u8).R 5 w w0.heap.size P0 u x) (h0 : v.f0 = 1) (h : room x [102, 97, 108, 115, 101] = some r) :
  Calls Tryd.prog 61 #[u, .agg #[.int .i64 v.f0, .string v.f1, .slice A2 v.f2.length c2, .slice A3 v.f3.length c3], .int .i64 deep] w (WPost w0 w P0 r 0) := by
 obtain ⟨hl, rfl⟩ := room_some h
 rw [h0]
 generalize v.f1 = t1
 generalize v.f2.length = n2
 generalize v.f3.length = n3
 have hB1 : Below w0.heap.size w0 (w.alloc (.cells #[.int .i64 1, .string t1, .slice A2 n2 c2, .slice A3 n3 c3] 27 (0, 0))) := below_alloc hB _
 have hR1 : (Kd.int .u8).R 5 (w.alloc (.cells #[.int .i64 1, .string t1, .slice A2 n2 c2, .slice A3 n3 c3] 27 (0, 0))) w0.heap.size (fun k => P0 k ∨ w.heap.size ≤ k) u x := Kd.R_mono (Kd.R_alloc hR _) (fun k hk => .inl hk)
 have hsz := hB.size
 have hfin : ∀ v1 w1, (Kd.int .u8).R 5 w1 w0.heap.size (fun k => P0 k ∨ w.heap.size ≤ k) v1 (x ++ [102, 97, 108, 115, 101]) → Below w0.heap.size w0 w1 → (w.alloc (.cells #[.int .i64 1, .string t1, .slice A2 n2 c2, .slice A3 n3 c3] 27 (0, 0))).grownBy w1 u.ownBlock → WPost w0 w P0 (x ++ [102, 97, 108, 115, 101]) 0 (.returned (.tuple #[v1, .int .i64 0])) w1 := fun v1 w1 h1 h2 h3 =>
  ⟨v1, rfl, h1, h2, Kept.of_grown h3 ((Kept.refl w P0).alloc _) (fun k hk => .inl (hR.1 k hk))⟩
 have hfin' := Lib.hid hfin
 clear hfin
 go_enter Tryd.func61, Tryd.ntmps61
 go_wp2_with (at_builtin; refine append_str_R (w0 := w0) w0.heap.size rfl (.tmp 16) (.const (.string ⟨#[102, 97, 108, 115, 101]⟩)) 35 9 5 rfl Tryd.underlying35 Tryd.underlying9 info_5 u x ⟨#[102, 97, 108, 115, 101]⟩ (fun k => P0 k ∨ w.heap.size ≤ k) rfl rfl hR1 (fun k hk => .inr (by simp at hk; omega)) hB1 (by simp; omega) (by have h4 : (⟨#[102, 97, 108, 115, 101]⟩ : ByteArray).size = 5 := rfl; rw [h4]; simp at hl; exact hl) ?_; intro v1 w1 hR2 hB2 hg2)
 refine bodyPost_ret (v := .tuple #[v1, .int .i64 0]) (by simp [results, Tryd.results61, go_sem]) rfl ?_
 exact hfin'.out _ _ hR2 hB2 hg2
set_option maxRecDepth 100000 in
set_option maxHeartbeats 3200000 in
theorem written_true {w0 w : World} {P0 : Nat → Prop} {u : Value} {x : List Int} {v : S27} {A2 : Option Addr} {c2 : Nat} {A3 : Option Addr} {c3 : Nat} {deep : Int} {r : List Int} (hB : Below w0.heap.size w0 w) (hR : (Kd.int .u8).R 5 w w0.heap.size P0 u x) (h0 : v.f0 = 2) (h : room x [116, 114, 117, 101] = some r) :
  Calls Tryd.prog 61 #[u, .agg #[.int .i64 v.f0, .string v.f1, .slice A2 v.f2.length c2, .slice A3 v.f3.length c3], .int .i64 deep] w (WPost w0 w P0 r 0) := by
 obtain ⟨hl, rfl⟩ := room_some h
 rw [h0]
 generalize v.f1 = t1
 generalize v.f2.length = n2
 generalize v.f3.length = n3
 have hB1 : Below w0.heap.size w0 (w.alloc (.cells #[.int .i64 2, .string t1, .slice A2 n2 c2, .slice A3 n3 c3] 27 (0, 0))) := below_alloc hB _
 have hR1 : (Kd.int .u8).R 5 (w.alloc (.cells #[.int .i64 2, .string t1, .slice A2 n2 c2, .slice A3 n3 c3] 27 (0, 0))) w0.heap.size (fun k => P0 k ∨ w.heap.size ≤ k) u x := Kd.R_mono (Kd.R_alloc hR _) (fun k hk => .inl hk)
 have hsz := hB.size
 have hfin : ∀ v1 w1, (Kd.int .u8).R 5 w1 w0.heap.size (fun k => P0 k ∨ w.heap.size ≤ k) v1 (x ++ [116, 114, 117, 101]) → Below w0.heap.size w0 w1 → (w.alloc (.cells #[.int .i64 2, .string t1, .slice A2 n2 c2, .slice A3 n3 c3] 27 (0, 0))).grownBy w1 u.ownBlock → WPost w0 w P0 (x ++ [116, 114, 117, 101]) 0 (.returned (.tuple #[v1, .int .i64 0])) w1 := fun v1 w1 h1 h2 h3 =>
  ⟨v1, rfl, h1, h2, Kept.of_grown h3 ((Kept.refl w P0).alloc _) (fun k hk => .inl (hR.1 k hk))⟩
 have hfin' := Lib.hid hfin
 clear hfin
 go_enter Tryd.func61, Tryd.ntmps61
 go_wp2_with (at_builtin; refine append_str_R (w0 := w0) w0.heap.size rfl (.tmp 20) (.const (.string ⟨#[116, 114, 117, 101]⟩)) 35 9 5 rfl Tryd.underlying35 Tryd.underlying9 info_5 u x ⟨#[116, 114, 117, 101]⟩ (fun k => P0 k ∨ w.heap.size ≤ k) rfl rfl hR1 (fun k hk => .inr (by simp at hk; omega)) hB1 (by simp; omega) (by have h4 : (⟨#[116, 114, 117, 101]⟩ : ByteArray).size = 4 := rfl; rw [h4]; simp at hl; exact hl) ?_; intro v1 w1 hR2 hB2 hg2)
 refine bodyPost_ret (v := .tuple #[v1, .int .i64 0]) (by simp [results, Tryd.results61, go_sem]) rfl ?_
 exact hfin'.out _ _ hR2 hB2 hg2
set_option maxRecDepth 100000 in
set_option maxHeartbeats 3200000 in
theorem written_nonumber {w0 w : World} {P0 : Nat → Prop} {u : Value} {x : List Int} {v : S27} {A2 : Option Addr} {c2 : Nat} {A3 : Option Addr} {c3 : Nat} {deep : Int} {k : Nat} (hB : Below w0.heap.size w0 w) (hR : (Kd.int .u8).R 5 w w0.heap.size P0 u x) (h0 : v.f0 = 3) (hN : json_isNumber.f k v.f1 = some false) :
  Calls Tryd.prog 61 #[u, .agg #[.int .i64 v.f0, .string v.f1, .slice A2 v.f2.length c2, .slice A3 v.f3.length c3], .int .i64 deep] w (WPost w0 w P0 [] 6) := by
 rw [h0]
 generalize v.f1 = t1 at hN
 generalize v.f2.length = n2
 generalize v.f3.length = n3
 have hB1 : Below w0.heap.size w0 (w.alloc (.cells #[.int .i64 3, .string t1, .slice A2 n2 c2, .slice A3 n3 c3] 27 (0, 0))) := below_alloc hB _
 have hR1 : (Kd.int .u8).R 5 (w.alloc (.cells #[.int .i64 3, .string t1, .slice A2 n2 c2, .slice A3 n3 c3] 27 (0, 0))) w0.heap.size (fun k => P0 k ∨ w.heap.size ≤ k) u x := Kd.R_mono (Kd.R_alloc hR _) (fun k hk => .inl hk)
 have hK1 : Kept w (w.alloc (.cells #[.int .i64 3, .string t1, .slice A2 n2 c2, .slice A3 n3 c3] 27 (0, 0))) P0 := (Kept.refl w P0).alloc _
 have hb1 := blk_new w (.cells #[.int .i64 3, .string t1, .slice A2 n2 c2, .slice A3 n3 c3] 27 (0, 0))
 have hsz := hB.size
 have hcall := json_isNumber.calls k t1 false (w.alloc (.cells #[.int .i64 3, .string t1, .slice A2 n2 c2, .slice A3 n3 c3] 27 (0, 0))) hN
 have hge : w.heap.size < (w.alloc (.cells #[.int .i64 3, .string t1, .slice A2 n2 c2, .slice A3 n3 c3] 27 (0, 0))).heap.size := blk_lt hb1
 have q2 : ∀ w2, Below (w.alloc (.cells #[.int .i64 3, .string t1, .slice A2 n2 c2, .slice A3 n3 c3] 27 (0, 0))).heap.size (w.alloc (.cells #[.int .i64 3, .string t1, .slice A2 n2 c2, .slice A3 n3 c3] 27 (0, 0))) w2 → w2.cell? ⟨w.heap.size, 1, none⟩ = some (.string t1) := fun w2 h2 => (blk_cell ((h2.block _ hge).trans hb1) 1).trans rfl
 go_enter Tryd.func61, Tryd.ntmps61
 go_wp2_with (go_at_call 80; refine hcall.mono ?_; rintro e2 w2 ⟨rfl, hB2⟩)
 refine bodyPost_ret (v := .tuple #[.slice none 0 0, .int .i64 6]) (by simp [results, Tryd.results61, go_sem]) rfl ?_
 exact ⟨_, rfl, Kd.R_nil _ _ _ _ _, below_step hB1 hB2, hK1.below hB2⟩
set_option maxRecDepth 100000 in
set_option maxHeartbeats 3200000 in
theorem written_nostring {w0 w : World} {P0 : Nat → Prop} {u : Value} {x : List Int} {v : S27} {A2 : Option Addr} {c2 : Nat} {A3 : Option Addr} {c3 : Nat} {deep : Int} {k : Nat} (hB : Below w0.heap.size w0 w) (hR : (Kd.int .u8).R 5 w w0.heap.size P0 u x) (h0 : v.f0 = 4) (hN : json_plain.f k v.f1 = some false) :
  Calls Tryd.prog 61 #[u, .agg #[.int .i64 v.f0, .string v.f1, .slice A2 v.f2.length c2, .slice A3 v.f3.length c3], .int .i64 deep] w (WPost w0 w P0 [] 10) := by
 rw [h0]
 generalize v.f1 = t1 at hN
 generalize v.f2.length = n2
 generalize v.f3.length = n3
 have hB1 : Below w0.heap.size w0 (w.alloc (.cells #[.int .i64 4, .string t1, .slice A2 n2 c2, .slice A3 n3 c3] 27 (0, 0))) := below_alloc hB _
 have hR1 : (Kd.int .u8).R 5 (w.alloc (.cells #[.int .i64 4, .string t1, .slice A2 n2 c2, .slice A3 n3 c3] 27 (0, 0))) w0.heap.size (fun k => P0 k ∨ w.heap.size ≤ k) u x := Kd.R_mono (Kd.R_alloc hR _) (fun k hk => .inl hk)
 have hK1 : Kept w (w.alloc (.cells #[.int .i64 4, .string t1, .slice A2 n2 c2, .slice A3 n3 c3] 27 (0, 0))) P0 := (Kept.refl w P0).alloc _
 have hb1 := blk_new w (.cells #[.int .i64 4, .string t1, .slice A2 n2 c2, .slice A3 n3 c3] 27 (0, 0))
 have hsz := hB.size
 have hcall := json_plain.calls k t1 false (w.alloc (.cells #[.int .i64 4, .string t1, .slice A2 n2 c2, .slice A3 n3 c3] 27 (0, 0))) hN
 have hge : w.heap.size < (w.alloc (.cells #[.int .i64 4, .string t1, .slice A2 n2 c2, .slice A3 n3 c3] 27 (0, 0))).heap.size := blk_lt hb1
 have q2 : ∀ w2, Below (w.alloc (.cells #[.int .i64 4, .string t1, .slice A2 n2 c2, .slice A3 n3 c3] 27 (0, 0))).heap.size (w.alloc (.cells #[.int .i64 4, .string t1, .slice A2 n2 c2, .slice A3 n3 c3] 27 (0, 0))) w2 → w2.cell? ⟨w.heap.size, 1, none⟩ = some (.string t1) := fun w2 h2 => (blk_cell ((h2.block _ hge).trans hb1) 1).trans rfl
 go_enter Tryd.func61, Tryd.ntmps61
 go_wp2_with (go_at_call 81; refine hcall.mono ?_; rintro e2 w2 ⟨rfl, hB2⟩)
 refine bodyPost_ret (v := .tuple #[.slice none 0 0, .int .i64 10]) (by simp [results, Tryd.results61, go_sem]) rfl ?_
 exact ⟨_, rfl, Kd.R_nil _ _ _ _ _, below_step hB1 hB2, hK1.below hB2⟩
set_option maxRecDepth 100000 in
set_option maxHeartbeats 3200000 in
theorem written_number {w0 w : World} {P0 : Nat → Prop} {u : Value} {x : List Int} {v : S27} {A2 : Option Addr} {c2 : Nat} {A3 : Option Addr} {c3 : Nat} {deep : Int} {r : List Int} {k : Nat} (hB : Below w0.heap.size w0 w) (hR : (Kd.int .u8).R 5 w w0.heap.size P0 u x) (h0 : v.f0 = 3) (hN : json_isNumber.f k v.f1 = some true) (HX : room x (bytesOf v.f1) = some r) :
  Calls Tryd.prog 61 #[u, .agg #[.int .i64 v.f0, .string v.f1, .slice A2 v.f2.length c2, .slice A3 v.f3.length c3], .int .i64 deep] w (WPost w0 w P0 r 0) := by
 rw [h0]
 generalize v.f1 = t1 at hN HX
 generalize v.f2.length = n2
 generalize v.f3.length = n3
 have hB1 : Below w0.heap.size w0 (w.alloc (.cells #[.int .i64 3, .string t1, .slice A2 n2 c2, .slice A3 n3 c3] 27 (0, 0))) := below_alloc hB _
 have hR1 : (Kd.int .u8).R 5 (w.alloc (.cells #[.int .i64 3, .string t1, .slice A2 n2 c2, .slice A3 n3 c3] 27 (0, 0))) w0.heap.size (fun k => P0 k ∨ w.heap.size ≤ k) u x := Kd.R_mono (Kd.R_alloc hR _) (fun k hk => .inl hk)
 have hK1 : Kept w (w.alloc (.cells #[.int .i64 3, .string t1, .slice A2 n2 c2, .slice A3 n3 c3] 27 (0, 0))) P0 := (Kept.refl w P0).alloc _
 have hb1 := blk_new w (.cells #[.int .i64 3, .string t1, .slice A2 n2 c2, .slice A3 n3 c3] 27 (0, 0))
 have hsz := hB.size
 have hcall := json_isNumber.calls k t1 true (w.alloc (.cells #[.int .i64 3, .string t1, .slice A2 n2 c2, .slice A3 n3 c3] 27 (0, 0))) hN
 have hge : w.heap.size < (w.alloc (.cells #[.int .i64 3, .string t1, .slice A2 n2 c2, .slice A3 n3 c3] 27 (0, 0))).heap.size := blk_lt hb1
 have q2 : ∀ w2, Below (w.alloc (.cells #[.int .i64 3, .string t1, .slice A2 n2 c2, .slice A3 n3 c3] 27 (0, 0))).heap.size (w.alloc (.cells #[.int .i64 3, .string t1, .slice A2 n2 c2, .slice A3 n3 c3] 27 (0, 0))) w2 → w2.cell? ⟨w.heap.size, 1, none⟩ = some (.string t1) := fun w2 h2 => (blk_cell ((h2.block _ hge).trans hb1) 1).trans rfl
 obtain ⟨hl, rfl⟩ := room_some HX
 rw [bytesOf_length] at hl
 clear HX hN
 go_enter Tryd.func61, Tryd.ntmps61
 go_wp2_with (first | (go_at_call 80; refine hcall.mono ?_; rintro e2 w2 ⟨rfl, hB2⟩; have q3 := q2 w2 hB2) | (at_builtin; go_loud (refine append_str_R (w0 := w0) w0.heap.size rfl (.tmp 28) (.tmp 30) 35 9 5 rfl Tryd.underlying35 Tryd.underlying9 info_5 u x t1 (fun k => P0 k ∨ w.heap.size ≤ k) rfl rfl (Kd.R_below hR1 hB2) (fun k hk => .inr (by have := hB2.size; omega)) (below_step hB1 hB2) (by have := hB2.size; omega) hl ?_; intro v1 w3 hR3 hB3 hg3)))
 refine bodyPost_ret (v := .tuple #[v1, .int .i64 0]) (by simp [results, Tryd.results61, go_sem]) rfl ?_
 exact ⟨v1, rfl, hR3, hB3, Kept.of_grown hg3 (hK1.below hB2) (fun k hk => .inl (hR.1 k hk))⟩
set_option maxRecDepth 100000 in
set_option maxHeartbeats 3200000 in
theorem written_string {w0 w : World} {P0 : Nat → Prop} {u : Value} {x : List Int} {v : S27} {A2 : Option Addr} {c2 : Nat} {A3 : Option Addr} {c3 : Nat} {deep : Int} {r : List Int} {k : Nat} (hB : Below w0.heap.size w0 w) (hR : (Kd.int .u8).R 5 w w0.heap.size P0 u x) (h0 : v.f0 = 4) (hN : json_plain.f k v.f1 = some true) (HX : json_quoted.f k x v.f1 = some r) :
  Calls Tryd.prog 61 #[u, .agg #[.int .i64 v.f0, .string v.f1, .slice A2 v.f2.length c2, .slice A3 v.f3.length c3], .int .i64 deep] w (WPost w0 w P0 r 0) := by
 rw [h0]
 generalize v.f1 = t1 at hN HX
 generalize v.f2.length = n2
 generalize v.f3.length = n3
 have hB1 : Below w0.heap.size w0 (w.alloc (.cells #[.int .i64 4, .string t1, .slice A2 n2 c2, .slice A3 n3 c3] 27 (0, 0))) := below_alloc hB _
 have hR1 : (Kd.int .u8).R 5 (w.alloc (.cells #[.int .i64 4, .string t1, .slice A2 n2 c2, .slice A3 n3 c3] 27 (0, 0))) w0.heap.size (fun k => P0 k ∨ w.heap.size ≤ k) u x := Kd.R_mono (Kd.R_alloc hR _) (fun k hk => .inl hk)
 have hK1 : Kept w (w.alloc (.cells #[.int .i64 4, .string t1, .slice A2 n2 c2, .slice A3 n3 c3] 27 (0, 0))) P0 := (Kept.refl w P0).alloc _
 have hb1 := blk_new w (.cells #[.int .i64 4, .string t1, .slice A2 n2 c2, .slice A3 n3 c3] 27 (0, 0))
 have hsz := hB.size
 have hcall := json_plain.calls k t1 true (w.alloc (.cells #[.int .i64 4, .string t1, .slice A2 n2 c2, .slice A3 n3 c3] 27 (0, 0))) hN
 have hge : w.heap.size < (w.alloc (.cells #[.int .i64 4, .string t1, .slice A2 n2 c2, .slice A3 n3 c3] 27 (0, 0))).heap.size := blk_lt hb1
 have q2 : ∀ w2, Below (w.alloc (.cells #[.int .i64 4, .string t1, .slice A2 n2 c2, .slice A3 n3 c3] 27 (0, 0))).heap.size (w.alloc (.cells #[.int .i64 4, .string t1, .slice A2 n2 c2, .slice A3 n3 c3] 27 (0, 0))) w2 → w2.cell? ⟨w.heap.size, 1, none⟩ = some (.string t1) := fun w2 h2 => (blk_cell ((h2.block _ hge).trans hb1) 1).trans rfl
 clear hN
 go_enter Tryd.func61, Tryd.ntmps61
 go_wp2_with (first | (go_at_call 81; refine hcall.mono ?_; rintro e2 w2 ⟨rfl, hB2⟩; have q3 := q2 w2 hB2) | (go_at_call 82; refine (json_quoted.calls k P0 u x t1 r w0 w2 (below_step hB1 hB2) (Kd.R_below (Kd.R_alloc hR _) hB2) HX).mono ?_; rintro e3 w3 ⟨v1, rfl, hR3, hB3, hK3⟩))
 refine bodyPost_ret (v := .tuple #[v1, .int .i64 0]) (by simp [results, Tryd.results61, go_sem]) rfl ?_
 exact ⟨v1, rfl, Kd.R_mono hR3 (fun k hk => hk.imp id (fun h => Nat.le_trans (Nat.le_trans (Nat.le_of_lt hge) hB2.size) h)), hB3, (hK1.below hB2).then_ hK3 (fun k hk => .inl hk)⟩
set_option maxRecDepth 100000 in
set_option maxHeartbeats 3200000 in
theorem written_deep5 {w0 w : World} {P0 : Nat → Prop} {u : Value} {v : S27} {A2 : Option Addr} {c2 : Nat} {A3 : Option Addr} {c3 : Nat} {deep : Int} (hB : Below w0.heap.size w0 w) (h0 : v.f0 = 5) (hd : 64 ≤ deep) :
  Calls Tryd.prog 61 #[u, .agg #[.int .i64 v.f0, .string v.f1, .slice A2 v.f2.length c2, .slice A3 v.f3.length c3], .int .i64 deep] w (WPost w0 w P0 [] 13) := by
 have hB1 : Below w0.heap.size w0 (w.alloc (.cells #[.int .i64 v.f0, .string v.f1, .slice A2 v.f2.length c2, .slice A3 v.f3.length c3] 27 (0, 0))) := below_alloc hB _
 have hK1 : Kept w (w.alloc (.cells #[.int .i64 v.f0, .string v.f1, .slice A2 v.f2.length c2, .slice A3 v.f3.length c3] 27 (0, 0))) P0 := (Kept.refl w P0).alloc _
 rw [h0] at hB1 hK1 ⊢
 generalize v.f1 = t1 at hB1 hK1 ⊢
 generalize v.f2.length = n2 at hB1 hK1 ⊢
 generalize v.f3.length = n3 at hB1 hK1 ⊢
 go_enter Tryd.func61, Tryd.ntmps61
 go_wp2
 refine bodyPost_ret (v := .tuple #[.slice none 0 0, .int .i64 13]) (by simp [results, Tryd.results61, go_sem]) rfl ?_
 exact ⟨_, rfl, Kd.R_nil _ _ _ _ _, hB1, hK1⟩
set_option maxRecDepth 100000 in
set_option maxHeartbeats 3200000 in
theorem written_deep6 {w0 w : World} {P0 : Nat → Prop} {u : Value} {v : S27} {A2 : Option Addr} {c2 : Nat} {A3 : Option Addr} {c3 : Nat} {deep : Int} (hB : Below w0.heap.size w0 w) (h0 : v.f0 = 6) (hd : 64 ≤ deep) :
  Calls Tryd.prog 61 #[u, .agg #[.int .i64 v.f0, .string v.f1, .slice A2 v.f2.length c2, .slice A3 v.f3.length c3], .int .i64 deep] w (WPost w0 w P0 [] 13) := by
 have hB1 : Below w0.heap.size w0 (w.alloc (.cells #[.int .i64 v.f0, .string v.f1, .slice A2 v.f2.length c2, .slice A3 v.f3.length c3] 27 (0, 0))) := below_alloc hB _
 have hK1 : Kept w (w.alloc (.cells #[.int .i64 v.f0, .string v.f1, .slice A2 v.f2.length c2, .slice A3 v.f3.length c3] 27 (0, 0))) P0 := (Kept.refl w P0).alloc _
 rw [h0] at hB1 hK1 ⊢
 generalize v.f1 = t1 at hB1 hK1 ⊢
 generalize v.f2.length = n2 at hB1 hK1 ⊢
 generalize v.f3.length = n3 at hB1 hK1 ⊢
 go_enter Tryd.func61, Tryd.ntmps61
 go_wp2
 refine bodyPost_ret (v := .tuple #[.slice none 0 0, .int .i64 13]) (by simp [results, Tryd.results61, go_sem]) rfl ?_
 exact ⟨_, rfl, Kd.R_nil _ _ _ _ _, hB1, hK1⟩
set_option maxRecDepth 100000 in
set_option maxHeartbeats 3200000 in
theorem written_other {w0 w : World} {P0 : Nat → Prop} {u : Value} {v : S27} {A2 : Option Addr} {c2 : Nat} {A3 : Option Addr} {c3 : Nat} {deep : Int} (hB : Below w0.heap.size w0 w) (e0 : ¬ v.f0 = 0) (e1 : ¬ v.f0 = 1) (e2 : ¬ v.f0 = 2) (e3 : ¬ v.f0 = 3) (e4 : ¬ v.f0 = 4) (e5 : ¬ v.f0 = 5) (e6 : ¬ v.f0 = 6) :
  Calls Tryd.prog 61 #[u, .agg #[.int .i64 v.f0, .string v.f1, .slice A2 v.f2.length c2, .slice A3 v.f3.length c3], .int .i64 deep] w (WPost w0 w P0 [] 6) := by
 have hB1 : Below w0.heap.size w0 (w.alloc (.cells #[.int .i64 v.f0, .string v.f1, .slice A2 v.f2.length c2, .slice A3 v.f3.length c3] 27 (0, 0))) := below_alloc hB _
 have hK1 : Kept w (w.alloc (.cells #[.int .i64 v.f0, .string v.f1, .slice A2 v.f2.length c2, .slice A3 v.f3.length c3] 27 (0, 0))) P0 := (Kept.refl w P0).alloc _
 have b0 : (v.f0 == 0) = false := by simpa using e0
 clear e0
 have b1 : (v.f0 == 1) = false := by simpa using e1
 clear e1
 have b2 : (v.f0 == 2) = false := by simpa using e2
 clear e2
 have b3 : (v.f0 == 3) = false := by simpa using e3
 clear e3
 have b4 : (v.f0 == 4) = false := by simpa using e4
 clear e4
 have b5 : (v.f0 == 5) = false := by simpa using e5
 clear e5
 have b6 : (v.f0 == 6) = false := by simpa using e6
 clear e6
 generalize v.f0 = t0 at hB1 hK1 b0 b1 b2 b3 b4 b5 b6 ⊢
 generalize v.f1 = t1 at hB1 hK1 ⊢
 generalize v.f2.length = n2 at hB1 hK1 ⊢
 generalize v.f3.length = n3 at hB1 hK1 ⊢
 go_enter Tryd.func61, Tryd.ntmps61
 go_wp2
 refine bodyPost_ret (v := .tuple #[.slice none 0 0, .int .i64 6]) (by simp [results, Tryd.results61, go_sem]) rfl ?_
 exact ⟨_, rfl, Kd.R_nil _ _ _ _ _, hB1, hK1⟩
set_option maxRecDepth 100000 in
set_option maxHeartbeats 3200000 in
theorem written_parts5 {k : Nat} (hp : OKs 83 (pt k)) {w0 w : World} {P0 : Nat → Prop} {u : Value} {x : List Int} {v : S27} {A2 : Option Addr} {c2 : Nat} {A3 : Option Addr} {c3 : Nat} {deep : Int} {r : List Int} {e : Int} (hB : Below w0.heap.size w0 w) (h2 : Kd.string.C w0 A2 v.f2.length v.f2) (l2 : v.f2.length ≤ c2) (h3 : k27.C w0 A3 v.f3.length v.f3) (l3 : v.f3.length ≤ c3)
  (hR : (Kd.int .u8).R 5 w w0.heap.size P0 u x) (hd0 : 0 ≤ deep) (h0 : v.f0 = 5) (hd : ¬ 64 ≤ deep) (h : pt k x v (deep + 1) = some (r, e)) :
  Calls Tryd.prog 61 #[u, .agg #[.int .i64 v.f0, .string v.f1, .slice A2 v.f2.length c2, .slice A3 v.f3.length c3], .int .i64 deep] w (WPost w0 w P0 r e) := by
 have hB1 : Below w0.heap.size w0 (w.alloc (.cells #[.int .i64 5, .string v.f1, .slice A2 v.f2.length c2, .slice A3 v.f3.length c3] 27 (0, 0))) := below_alloc hB _
 have hK1 : Kept w (w.alloc (.cells #[.int .i64 5, .string v.f1, .slice A2 v.f2.length c2, .slice A3 v.f3.length c3] 27 (0, 0))) P0 := (Kept.refl w P0).alloc _
 have hge : w.heap.size ≤ (w.alloc (.cells #[.int .i64 5, .string v.f1, .slice A2 v.f2.length c2, .slice A3 v.f3.length c3] 27 (0, 0))).heap.size := Nat.le_of_lt (blk_lt (blk_new w (.cells #[.int .i64 5, .string v.f1, .slice A2 v.f2.length c2, .slice A3 v.f3.length c3] 27 (0, 0))))
 have hc := hp w0 (w.alloc (.cells #[.int .i64 5, .string v.f1, .slice A2 v.f2.length c2, .slice A3 v.f3.length c3] 27 (0, 0))) P0 u x v A2 c2 A3 c3 (deep + 1) r e hB1 h2 l2 h3 l3 (Kd.R_alloc hR _) (by omega) (by omega) h
 rw [h0] at hc ⊢
 have hd' : ¬ deep ≥ 64 := by omega
 have hwr : wrap64 (deep + 1) = deep + 1 := by unfold wrap64; omega
 clear h h2 h3
 generalize v.f1 = t1 at hB1 hK1 hc hge ⊢
 generalize v.f2.length = n2 at hB1 hK1 hc hge l2 ⊢
 generalize v.f3.length = n3 at hB1 hK1 hc hge l3 ⊢
 go_enter Tryd.func61, Tryd.ntmps61
 go_wp2_with (go_at_call 83; refine hc.mono ?_; rintro e2 w2 ⟨v1, rfl, hR3, hB3, hK3⟩)
 refine bodyPost_ret (v := .tuple #[v1, .int .i64 e]) (by simp [results, Tryd.results61, go_sem]) rfl ?_
 exact ⟨v1, rfl, Kd.R_mono hR3 (fun k hk => hk.imp id (fun h => Nat.le_trans hge h)), hB3, hK1.then_ hK3 (fun k hk => .inl hk)⟩
set_option maxRecDepth 100000 in
set_option maxHeartbeats 3200000 in
theorem written_parts6 {k : Nat} (hp : OKs 83 (pt k)) {w0 w : World} {P0 : Nat → Prop} {u : Value} {x : List Int} {v : S27} {A2 : Option Addr} {c2 : Nat} {A3 : Option Addr} {c3 : Nat} {deep : Int} {r : List Int} {e : Int} (hB : Below w0.heap.size w0 w) (h2 : Kd.string.C w0 A2 v.f2.length v.f2) (l2 : v.f2.length ≤ c2) (h3 : k27.C w0 A3 v.f3.length v.f3) (l3 : v.f3.length ≤ c3)
  (hR : (Kd.int .u8).R 5 w w0.heap.size P0 u x) (hd0 : 0 ≤ deep) (h0 : v.f0 = 6) (hd : ¬ 64 ≤ deep) (h : pt k x v (deep + 1) = some (r, e)) :
  Calls Tryd.prog 61 #[u, .agg #[.int .i64 v.f0, .string v.f1, .slice A2 v.f2.length c2, .slice A3 v.f3.length c3], .int .i64 deep] w (WPost w0 w P0 r e) := by
 have hB1 : Below w0.heap.size w0 (w.alloc (.cells #[.int .i64 6, .string v.f1, .slice A2 v.f2.length c2, .slice A3 v.f3.length c3] 27 (0, 0))) := below_alloc hB _
 have hK1 : Kept w (w.alloc (.cells #[.int .i64 6, .string v.f1, .slice A2 v.f2.length c2, .slice A3 v.f3.length c3] 27 (0, 0))) P0 := (Kept.refl w P0).alloc _
 have hge : w.heap.size ≤ (w.alloc (.cells #[.int .i64 6, .string v.f1, .slice A2 v.f2.length c2, .slice A3 v.f3.length c3] 27 (0, 0))).heap.size := Nat.le_of_lt (blk_lt (blk_new w (.cells #[.int .i64 6, .string v.f1, .slice A2 v.f2.length c2, .slice A3 v.f3.length c3] 27 (0, 0))))
 have hc := hp w0 (w.alloc (.cells #[.int .i64 6, .string v.f1, .slice A2 v.f2.length c2, .slice A3 v.f3.length c3] 27 (0, 0))) P0 u x v A2 c2 A3 c3 (deep + 1) r e hB1 h2 l2 h3 l3 (Kd.R_alloc hR _) (by omega) (by omega) h
 rw [h0] at hc ⊢
 have hd' : ¬ deep ≥ 64 := by omega
 have hwr : wrap64 (deep + 1) = deep + 1 := by unfold wrap64; omega
 clear h h2 h3
 generalize v.f1 = t1 at hB1 hK1 hc hge ⊢
 generalize v.f2.length = n2 at hB1 hK1 hc hge l2 ⊢
 generalize v.f3.length = n3 at hB1 hK1 hc hge l3 ⊢
 go_enter Tryd.func61, Tryd.ntmps61
 go_wp2_with (go_at_call 83; refine hc.mono ?_; rintro e2 w2 ⟨v1, rfl, hR3, hB3, hK3⟩)
 refine bodyPost_ret (v := .tuple #[v1, .int .i64 e]) (by simp [results, Tryd.results61, go_sem]) rfl ?_
 exact ⟨v1, rfl, Kd.R_mono hR3 (fun k hk => hk.imp id (fun h => Nat.le_trans hge h)), hB3, hK1.then_ hK3 (fun k hk => .inl hk)⟩
theorem written_all {k : Nat} (hp : OKs 83 (pt k)) : OKs 61 (wr (k + 1)) := by
 intro w0 w P0 u x v A2 c2 A3 c3 deep r e hB h2 l2 h3 l3 hR hd0 hd1 h
 rw [wr] at h
 split at h
 ·rename_i h0
  obtain ⟨y, hy, he⟩ := Option.map_eq_some_iff.1 h
  cases he
  exact written_null hB hR h0 hy
 rename_i e0
 split at h
 ·rename_i h0
  obtain ⟨y, hy, he⟩ := Option.map_eq_some_iff.1 h
  cases he
  exact written_false hB hR h0 hy
 rename_i e1
 split at h
 ·rename_i h0
  obtain ⟨y, hy, he⟩ := Option.map_eq_some_iff.1 h
  cases he
  exact written_true hB hR h0 hy
 rename_i e2
 split at h
 ·rename_i h0
  split at h
  ·cases h
  ·rename_i hn
   obtain ⟨y, hy, he⟩ := Option.map_eq_some_iff.1 h
   cases he
   exact written_number hB hR h0 hn hy
  ·rename_i hn
   cases h
   exact written_nonumber hB hR h0 hn
 rename_i e3
 split at h
 ·rename_i h0
  split at h
  ·cases h
  ·rename_i hn
   obtain ⟨y, hy, he⟩ := Option.map_eq_some_iff.1 h
   cases he
   exact written_string hB hR h0 hn hy
  ·rename_i hn
   cases h
   exact written_nostring hB hR h0 hn
 rename_i e4
 split at h
 ·rename_i h0
  split at h
  ·rename_i hd
   cases h
   rcases h0 with h0 | h0
   ·exact written_deep5 hB h0 hd
   ·exact written_deep6 hB h0 hd
  ·rename_i hd
   rcases h0 with h0 | h0
   ·exact written_parts5 hp hB h2 l2 h3 l3 hR hd0 h0 hd h
   ·exact written_parts6 hp hB h2 l2 h3 l3 hR hd0 h0 hd h
 ·rename_i e56
  cases h
  exact written_other hB e0 e1 e2 e3 e4 (fun h5 => e56 (.inl h5)) (fun h6 => e56 (.inr h6))
end Go.Proofs.YteighppcdpaekaaDoor.Wr
end
section
namespace Go.Proofs.YteighppcdpaekaaDoor.Wr
open Go.RowKit Go.Proofs.YteighppcdpaekaaDoorW.PrintWords
open Go.Proofs.YteighppcdpaekaaDoor Go.Proofs.YteighppcdpaekaaDoor.P
open Go.Maps (Keyed IsMap)
def SeesB (D : DataW Unit) (ks : List ByteArray) : Prop := IsMap D ∧ ∀ s : ByteArray, D.atKey (.string s.data.toList) (.lit (.int .i64 0)) = .lit (.int .i64 (if (ks.any fun y => decide (y = s)) = true then 1 else 0))
theorem SeesB.nil : SeesB (.map []) [] := ⟨⟨[], rfl⟩, fun _ => rfl⟩
theorem SeesB.put {D : DataW Unit} {ks : List ByteArray} {x : ByteArray} (h : SeesB D ks) : SeesB (D.put (.string x.data.toList) (.lit (.int .i64 1))) (ks ++ [x]) := by
 refine ⟨h.1.put _ _, fun s => ?_⟩
 by_cases he : s = x
 ·subst he
  rw [Maps.atKey_put_same h.1 (show WideAt.IsKeyLit (.string s.data.toList) from trivial)]
  simp
 ·rw [Maps.atKey_put_other, h.2 s]
  ·have : ¬ x = s := fun e => he e.symm
   rw [List.any_append, List.any_cons, List.any_nil, show decide (x = s) = false by simpa using this, Bool.or_false, Bool.or_false]
  ·intro e
   injection e with e1
   exact he (ByteArray.ext (Array.toList_inj.1 e1))
end Go.Proofs.YteighppcdpaekaaDoor.Wr
end
section
namespace Go.Proofs.YteighppcdpaekaaDoor.Wr
open Go.RowKit Go.Proofs.YteighppcdpaekaaDoorW.PrintWords
open Go.Proofs.YteighppcdpaekaaDoor Go.Proofs.YteighppcdpaekaaDoor.P
set_option maxRecDepth 100000 in
set_option maxHeartbeats 3200000 in
theorem parts_form {w0 w : World} {P0 : Nat → Prop} {u : Value} {v : S27} {A2 : Option Addr} {c2 : Nat} {A3 : Option Addr} {c3 : Nat} {deep : Int} (hB : Below w0.heap.size w0 w) (h0 : v.f0 = 6) (hn : ¬ v.f2.length = v.f3.length) :
  Calls Tryd.prog 83 #[u, .agg #[.int .i64 v.f0, .string v.f1, .slice A2 v.f2.length c2, .slice A3 v.f3.length c3], .int .i64 deep] w (WPost w0 w P0 [] 6) := by
 have hB1 : Below w0.heap.size w0 (w.alloc (.cells #[.int .i64 6, .string v.f1, .slice A2 v.f2.length c2, .slice A3 v.f3.length c3] 27 (0, 0))) := below_alloc hB _
 have hK1 : Kept w (w.alloc (.cells #[.int .i64 6, .string v.f1, .slice A2 v.f2.length c2, .slice A3 v.f3.length c3] 27 (0, 0))) P0 := (Kept.refl w P0).alloc _
 rw [h0]
 generalize v.f1 = t1 at hB1 hK1 ⊢
 generalize v.f2.length = n2 at hB1 hK1 hn ⊢
 generalize v.f3.length = n3 at hB1 hK1 hn ⊢
 have hn' : ((n2 : Int) == (n3 : Int)) = false := by
  rw [beq_eq_false_iff_ne]
  omega
 have hn2 : ¬ (n2 : Int) = (n3 : Int) := by omega
 go_enter Tryd.func83, Tryd.ntmps83
 go_wp2
 refine bodyPost_ret (v := .tuple #[.slice none 0 0, .int .i64 6]) (by simp [results, Tryd.results83, go_sem]) rfl ?_
 exact ⟨_, rfl, Kd.R_nil _ _ _ _ _, hB1, hK1⟩
end Go.Proofs.YteighppcdpaekaaDoor.Wr
end
section
namespace Go.Proofs.YteighppcdpaekaaDoor.Wr
open Go.RowKit Go.Proofs.YteighppcdpaekaaDoorW.PrintWords
open Go.Proofs.YteighppcdpaekaaDoor Go.Proofs.YteighppcdpaekaaDoor.P Go.Proofs.YteighppcdpaekaaDoor.Rd
structure PtS (w0 w : World) (P0 : Nat → Prop) (cs : Array Value) (mb : Nat) (wc : World) (u : Value) (x : List Int) (D : DataW Unit) (m : Nat) : Prop where
 hB : Below w0.heap.size w0 wc
 hK : Kept w wc P0
 vb : wc.heap[w.heap.size]? = some (.cells cs 27 (0, 0))
 mp : wc.ownsMap Tryd.prog 9 (plainElem Tryd.prog 3) mb m D
 row : (Kd.int .u8).R 5 wc w0.heap.size (fun k => P0 k ∨ w.heap.size ≤ k) u x
section
variable {w0 w wc w2 : World} {P0 : Nat → Prop} {cs : Array Value} {mb m : Nat} {u v1 : Value} {x y : List Int} {D : DataW Unit}
theorem PtS.ne (h : PtS w0 w P0 cs mb wc u x D m) : some w.heap.size ≠ u.ownBlock ∧ some mb ≠ u.ownBlock := by
 refine ⟨Kd.R_ne h.row h.vb (by decide), fun e => ?_⟩
 obtain ⟨cells, hc⟩ := Kd.R_typed h.row mb e.symm
 exact map_ne h.mp hc rfl
theorem PtS.kept (h : PtS w0 w P0 cs mb wc u x D m) (hb : Below w0.heap.size w0 w2) (hk : Kept wc w2 (fun k => some k = u.ownBlock)) (hr : (Kd.int .u8).R 5 w2 w0.heap.size (fun k => some k = u.ownBlock ∨ wc.heap.size ≤ k) v1 y) : PtS w0 w P0 cs mb w2 v1 y D m := by
 have hlt := blk_lt h.vb
 obtain ⟨n1, n2⟩ := h.ne
 have hmb := h.mp.lt
 refine ⟨hb, h.hK.then_ hk (fun k hk => h.row.1 k hk.symm), (hk.2 _ hlt n1).trans h.vb, ?_, Kd.R_mono hr (fun k hk => ?_)⟩
 ·obtain ⟨es, cl, hm, F⟩ := h.mp
  exact ⟨es, cl, (hk.2 mb hmb n2).trans hm, F⟩
 ·rcases hk with hk | hk
  ·exact h.row.1 k hk.symm
  ·exact .inr (by omega)
theorem PtS.tight (h : PtS w0 w P0 cs mb wc u x D m) : (Kd.int .u8).R 5 wc w0.heap.size (fun k => some k = u.ownBlock) u x := Kd.R_tight rfl h.row
end
end Go.Proofs.YteighppcdpaekaaDoor.Wr
end
section
namespace Go.Proofs.YteighppcdpaekaaDoor.Wr
open Go.RowKit Go.Proofs.YteighppcdpaekaaDoorW.PrintWords
open Go.Proofs.YteighppcdpaekaaDoor Go.Proofs.YteighppcdpaekaaDoor.P Go.Proofs.YteighppcdpaekaaDoor.Rd
section
variable {w0 w wc w2 : World} {P0 : Nat → Prop} {cs : Array Value} {mb m m2 : Nat} {u v1 : Value} {x y : List Int} {D D2 : DataW Unit}
theorem PtS.below (h : PtS w0 w P0 cs mb wc u x D m) (hb : Below wc.heap.size wc w2) : PtS w0 w P0 cs mb w2 u x D m :=
 ⟨below_step h.hB hb, h.hK.below hb, (hb.block _ (blk_lt h.vb)).trans h.vb, (by obtain ⟨es, cl, hm, F⟩ := h.mp; exact ⟨es, cl, (hb.block _ h.mp.lt).trans hm, F⟩), Kd.R_below h.row hb⟩
theorem PtS.alloc (h : PtS w0 w P0 cs mb wc u x D m) (o : Obj) : PtS w0 w P0 cs mb (wc.alloc o) u x D m := h.below (below_alloc (Below.refl _ _) o)
theorem PtS.drewN (h : PtS w0 w P0 cs mb wc u x D m) (n : Nat) : PtS w0 w P0 cs mb (wc.drewN n) u x D m := h.below (pw_below_drewN (Below.refl _ _) n)
theorem PtS.grown (h : PtS w0 w P0 cs mb wc u x D m) (hb : Below w0.heap.size w0 w2) (hg : wc.grownBy w2 u.ownBlock) (hr : (Kd.int .u8).R 5 w2 w0.heap.size (fun k => P0 k ∨ w.heap.size ≤ k) v1 y) : PtS w0 w P0 cs mb w2 v1 y D m :=
 ⟨hb, Kept.of_grown hg h.hK (fun k hk => h.row.1 k hk), blk_grown h.vb hg h.ne.1, h.mp.kept hg h.ne.2, hr⟩
theorem PtS.put (h : PtS w0 w P0 cs mb wc u x D m) (hmb : w.heap.size < mb) (hs : w0.heap.size ≤ w.heap.size) (hm : w2.ownsMap Tryd.prog 9 (plainElem Tryd.prog 3) mb m2 D2) (hg : wc.grownBy w2 (some mb)) : PtS w0 w P0 cs mb w2 u x D2 m2 := by
 refine ⟨h.hB.grown hg h.hB.size (fun k hk => by cases hk; omega), Kept.of_grown hg h.hK (fun k hk => by cases hk; exact .inr (by omega)), blk_grown h.vb hg (fun e => by have := Option.some.inj e; omega), hm, ?_⟩
 exact Kd.R_mono (Kd.R_grown (Kd.R_bound h.row) hg (by rintro k ⟨_, _, _, _, _, _, hc⟩ e; exact map_ne h.mp hc (Option.some.inj e))) (fun _ hk => hk.1)
end
end Go.Proofs.YteighppcdpaekaaDoor.Wr
end
