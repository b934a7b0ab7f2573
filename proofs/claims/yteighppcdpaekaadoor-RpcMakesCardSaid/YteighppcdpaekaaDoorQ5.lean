/- Walks and words of this session, put together by a program of this session (pack.py). Conditions: as each text says. -/
import Derived.Test.YteighppcdpaekaaDoorQ2
import Derived.Test.YteighppcdpaekaaDoorQ4
set_option linter.unusedVariables false
set_option linter.unusedSimpArgs false
section
namespace Go.Proofs.YteighppcdpaekaaDoor.P
open Go.RowKit Go.Proofs.YteighppcdpaekaaDoorW.PrintWords Go.Proofs.YteighppcdpaekaaDoorW.PrintLast Go.Proofs.YteighppcdpaekaaDoorW.PrintMore
set_option linter.unusedVariables false
theorem mem_size {a x : S44} (h : x ∈ a.f3) : SizeOf.sizeOf x < SizeOf.sizeOf a := by
 have := List.sizeOf_lt_of_mem h;cases a
 simp at this ⊢
 omega
set_option maxRecDepth 100000 in
set_option maxHeartbeats 6400000 in
theorem equal44_ {ok ok' : Nat → Prop} : ∀ (n : Nat) (a : S44) (v v' : Value) (w : World), SizeOf.sizeOf a ≤ n → Kv k44 ok w v a → Kv k44 ok' w v' a → Calls Tryd.prog 17 #[v, v'] w (EPost (.bool true) w) := by
 intro n
 induction n with
 | zero => intro a v v' w h; cases a; simp at h
 | succ n ih =>
 rintro ⟨k, t, ks, l⟩ v v' w hn h1 h2;obtain ⟨A2, c2, A3, c3, rfl, l2, g2, l3, g3⟩ := h1.open44;obtain ⟨B2, d2, B3, d3, rfl, m2, i2, m3, i3⟩ := h2.open44
 dsimp only at l2 g2 l3 g3 m2 i2 m3 i3 ⊢
 have hmem : ∀ x ∈ l, SizeOf.sizeOf x ≤ n := fun x hx => by have := mem_size (a := ⟨k, t, ks, l⟩) hx; omega
 have N2 : (ks.length : Int) ≤ 9223372036854775807 := by have := (Kd.F_now g2).2.1; omega
 have N3 : (l.length : Int) ≤ 9223372036854775807 := by have := (Kd.F_now g3).2.1; omega
 have C0 : Ctx [uBlk (w.heap.size + 1) [.int .i64 k, .string t, .slice B2 ks.length d2, .slice B3 l.length d3] 44, uBlk w.heap.size [.int .i64 k, .string t, .slice A2 ks.length c2, .slice A3 l.length c3] 44, uB w] ((w.alloc (.cells #[.int .i64 k, .string t, .slice A2 ks.length c2, .slice A3 l.length c3] 44 (0, 0))).alloc (.cells #[.int .i64 k, .string t, .slice B2 ks.length d2, .slice B3 l.length d3] 44 (0, 0))) := by
  have e := Ctx.new (cs := [.int .i64 k, .string t, .slice B2 ks.length d2, .slice B3 l.length d3]) (t := 44) (Ctx.new (cs := [.int .i64 k, .string t, .slice A2 ks.length c2, .slice A3 l.length c3]) (t := 44) (Ctx.cons (uB w) (Below.refl _ _) (Ctx.nil)))
  simpa using e
 go_enter Tryd.func17, Tryd.ntmps17
 go_upto_region 1 with fail
 refine absW _ C0 ?_;clear C0;intro w1 C;have K := Sdq.mk C;obtain ⟨b1, b0, hB, _⟩ := C
 obtain ⟨x0, x1, x2, x3⟩ : w1.cell? ⟨w.heap.size, 0, none⟩ = some (.int .i64 k) ∧ w1.cell? ⟨w.heap.size, 1, none⟩ = some (.string t) ∧ w1.cell? ⟨w.heap.size, 2, none⟩ = some (.slice A2 ks.length c2) ∧ w1.cell? ⟨w.heap.size, 3, none⟩ = some (.slice A3 l.length c3) := ⟨Ctx.blk b0 0 rfl, Ctx.blk b0 1 rfl, Ctx.blk b0 2 rfl, Ctx.blk b0 3 rfl⟩
 obtain ⟨y0, y1, y2, y3⟩ : w1.cell? ⟨w.heap.size + 1, 0, none⟩ = some (.int .i64 k) ∧ w1.cell? ⟨w.heap.size + 1, 1, none⟩ = some (.string t) ∧ w1.cell? ⟨w.heap.size + 1, 2, none⟩ = some (.slice B2 ks.length d2) ∧ w1.cell? ⟨w.heap.size + 1, 3, none⟩ = some (.slice B3 l.length d3) := ⟨Ctx.blk b1 0 rfl, Ctx.blk b1 1 rfl, Ctx.blk b1 2 rfl, Ctx.blk b1 3 rfl⟩
 have HB := Sdq.mk (show Below w.heap.size w w1 from hB);have G2 := Sdq.mk (Kd.F_now (Kd.F_below g2 hB));have I2 := Sdq.mk (Kd.F_now (Kd.F_below i2 hB));have G3 := Sdq.mk (show Kd.V k44 44 w1 0 ok (.slice A3 l.length c3) l from Kd.V_mk l3 (Kd.F_below g3 hB));have I3 := Sdq.mk (show Kd.V k44 44 w1 0 ok' (.slice B3 l.length d3) l from Kd.V_mk m3 (Kd.F_below i3 hB));have HM := Sdq.mk hmem;have IH := Sdq.mk ih;clear b0 b1 hB g2 g3 i2 i3 h1 h2 l2 l3 m2 m3 hmem ih hn;have ht : (t.toList == t.toList) = true := beq_self_eq_true _;by_cases k3 : k = 3
 ·subst k3
  go_wp2_with fail
  go_ret;exact ⟨_, rfl, rfl, HB.out⟩
 by_cases k4 : k = 4
 ·subst k4
  go_wp2_with fail
  go_ret;exact ⟨_, rfl, rfl, HB.out⟩
 by_cases k56 : k = 5 ∨ k = 6
 case neg =>
  have k5 : ¬ k = 5 := fun h => k56 (.inl h)
  have k6 : ¬ k = 6 := fun h => k56 (.inr h)
  clear k56;have e5 : (k != 5) = true := bne_iff_ne.2 k5;have e6 : (k != 6) = true := bne_iff_ne.2 k6;have e3 : (k == 3) = false := beq_eq_false_iff_ne.2 k3;have e4 : (k == 4) = false := beq_eq_false_iff_ne.2 k4
  go_wp2_with fail
  go_ret;exact ⟨_, rfl, rfl, HB.out⟩
 rcases k56 with rfl | rfl
 ·have X0 := Sdq.mk (And.intro x0 (And.intro x2 x3))
  have Y0 := Sdq.mk (And.intro y2 y3);have N2 := Sdq.mk N2;have N3 := Sdq.mk N3;clear k3 k4
  go_upto_block 0 with fail
  go_cut [5] (fun s5 wc => Sdq (Below w1.heap.size w1 wc))
  case first =>
   go_wp2_with fail
   go_loopg [5] ks.length (fun kq s5 wc => ∃ i : Nat, s5 = .int .i64 (i : Int) ∧ kq + i = ks.length ∧ Sdq (Below w1.heap.size w1 wc))
   case atStart => exact ⟨0, rfl, by omega, ⟨Below.refl _ _⟩⟩
   case round =>
    clear x0 x1 x2 x3 y0 y1 y2 y3;obtain ⟨i, rfl, hi, HW⟩ := hrel
    obtain ⟨x0, x2, x3⟩ : wr.cell? ⟨w.heap.size, 0, none⟩ = some (.int .i64 5) ∧ wr.cell? ⟨w.heap.size, 2, none⟩ = some (.slice A2 ks.length c2) ∧ wr.cell? ⟨w.heap.size, 3, none⟩ = some (.slice A3 l.length c3) := ⟨hdBq HW.out X0.out.1, hdBq HW.out X0.out.2.1, hdBq HW.out X0.out.2.2⟩
    obtain ⟨y2, y3⟩ : wr.cell? ⟨w.heap.size + 1, 2, none⟩ = some (.slice B2 ks.length d2) ∧ wr.cell? ⟨w.heap.size + 1, 3, none⟩ = some (.slice B3 l.length d3) := ⟨hdBq HW.out Y0.out.1, hdBq HW.out Y0.out.2⟩
    rcases Nat.lt_or_ge i ks.length with hlt | hge
    ·have hiz : (i : Int) < (ks.length : Int) := by omega
     go_wp2_with fail
     go_meet
     exact HW
    ·have hiz : ¬ (i : Int) < (ks.length : Int) := by omega
     go_wp2_with fail
     go_meet
     exact HW
  case rest =>
   clear x0 x1 x2 x3 y0 y1 y2 y3;have HW := hcut;clear hcut
   obtain ⟨x0, x2, x3⟩ : wc.cell? ⟨w.heap.size, 0, none⟩ = some (.int .i64 5) ∧ wc.cell? ⟨w.heap.size, 2, none⟩ = some (.slice A2 ks.length c2) ∧ wc.cell? ⟨w.heap.size, 3, none⟩ = some (.slice A3 l.length c3) := ⟨hdBq HW.out X0.out.1, hdBq HW.out X0.out.2.1, hdBq HW.out X0.out.2.2⟩
   obtain ⟨y2, y3⟩ : wc.cell? ⟨w.heap.size + 1, 2, none⟩ = some (.slice B2 ks.length d2) ∧ wc.cell? ⟨w.heap.size + 1, 3, none⟩ = some (.slice B3 l.length d3) := ⟨hdBq HW.out Y0.out.1, hdBq HW.out Y0.out.2⟩
   go_wp2_with fail
   go_loopg [6] l.length (fun kq s6 wc => ∃ i : Nat, s6 = .int .i64 (i : Int) ∧ kq + i = l.length ∧ Sdq (Below w1.heap.size w1 wc))
   case atStart => exact ⟨0, rfl, by omega, HW⟩
   case round =>
    clear HW x0 x2 x3 y2 y3;obtain ⟨i, rfl, hi, HW⟩ := hrel
    obtain ⟨x0, x2, x3⟩ : wr.cell? ⟨w.heap.size, 0, none⟩ = some (.int .i64 5) ∧ wr.cell? ⟨w.heap.size, 2, none⟩ = some (.slice A2 ks.length c2) ∧ wr.cell? ⟨w.heap.size, 3, none⟩ = some (.slice A3 l.length c3) := ⟨hdBq HW.out X0.out.1, hdBq HW.out X0.out.2.1, hdBq HW.out X0.out.2.2⟩
    obtain ⟨y2, y3⟩ : wr.cell? ⟨w.heap.size + 1, 2, none⟩ = some (.slice B2 ks.length d2) ∧ wr.cell? ⟨w.heap.size + 1, 3, none⟩ = some (.slice B3 l.length d3) := ⟨hdBq HW.out Y0.out.1, hdBq HW.out Y0.out.2⟩
    cases gk with
    | zero =>
     obtain rfl : i = l.length := by omega
     go_wp2_with fail
     go_ret;exact ⟨_, rfl, rfl, below_step HB.out HW.out⟩
    | succ gk =>
     have hlt : i < l.length := by omega
     have hiz : (i : Int) < (l.length : Int) := by omega
     have q0 : (0 : Int) ≤ (i : Int) := by omega
     have hw1 : wrap64 ((i : Int) + 1) = ((i + 1 : Nat) : Int) := by have := N3.out; unfold wrap64; omega
     obtain ⟨ud, P2, q2, P3, q3, hA, g0, g1, g2, g3, -, -, -, -⟩ := at_T44 (Kd.V_reads' (Kd.V_below G3.out HW.out)).2.2 (i : Int) q0 hiz;subst hA;obtain ⟨ce, -, hF, hcc⟩ := Kd.V_get (Kd.V_below G3.out HW.out) z44 (i : Int) q0 hiz;obtain ⟨u2, un2, u3, un3, rfl, k2, F2, k3, F3⟩ := k44_openF hF;have j2 := hcc 2 _ rfl;have j3 := hcc 3 _ rfl;rw [add_field _ _ 2 (by omega)] at j2;rw [add_field _ _ 3 (by omega)] at j3
     injection Option.some.inj (j2.symm.trans g2) with o1 _ o2
     injection Option.some.inj (j3.symm.trans g3) with o3 _ o4
     subst o1 o2 o3 o4;clear hcc j2 j3 hF;rw [show l.getD (i : Int).toNat z44 = l[i] by simp [hlt]] at k2 F2 k3 F3;rw [show rd_T44 l (i : Int) = l[i] by simp [rd_T44, hlt], Int.toNat_natCast] at g0 g1 g2 g3;have E1 := Sdq.mk (Kv.mk44 _ k2 F2 k3 F3);clear k2 F2 k3 F3;obtain ⟨vd, P2, q2, P3, q3, hA, p0, p1, p2, p3, -, -, -, -⟩ := at_T44 (Kd.V_reads' (Kd.V_below I3.out HW.out)).2.2 (i : Int) q0 hiz;subst hA;obtain ⟨ce, -, hF, hcc⟩ := Kd.V_get (Kd.V_below I3.out HW.out) z44 (i : Int) q0 hiz;obtain ⟨v2, vn2, v3, vn3, rfl, k2, F2, k3, F3⟩ := k44_openF hF;have j2 := hcc 2 _ rfl;have j3 := hcc 3 _ rfl;rw [add_field _ _ 2 (by omega)] at j2;rw [add_field _ _ 3 (by omega)] at j3
     injection Option.some.inj (j2.symm.trans p2) with o1 _ o2
     injection Option.some.inj (j3.symm.trans p3) with o3 _ o4
     subst o1 o2 o3 o4;clear hcc j2 j3 hF;rw [show l.getD (i : Int).toNat z44 = l[i] by simp [hlt]] at k2 F2 k3 F3;rw [show rd_T44 l (i : Int) = l[i] by simp [rd_T44, hlt], Int.toNat_natCast] at p0 p1 p2 p3;have E2 := Sdq.mk (Kv.mk44 _ k2 F2 k3 F3);clear k2 F2 k3 F3;have HX := Sdq.mk (List.getElem_mem hlt);generalize l[i] = x at HX E1 E2 g0 g1 g2 g3 p0 p1 p2 p3;have HS := Sdq.mk (show ∀ W, Below wr.heap.size wr W → (W.cell? ⟨w.heap.size, 3, none⟩ = some (.slice (some ud) l.length c3) ∧ W.cell? ⟨w.heap.size + 1, 3, none⟩ = some (.slice (some vd) l.length d3) ∧ W.cell? (ud.add (i * 4)) = some (.int .i64 x.f0) ∧ W.cell? ⟨(ud.add (i * 4)).block, (ud.add (i * 4)).off + 1, none⟩ = some (.string x.f1) ∧ W.cell? ⟨(ud.add (i * 4)).block, (ud.add (i * 4)).off + 2, none⟩ = some (.slice u2 x.f2.length un2) ∧ W.cell? ⟨(ud.add (i * 4)).block, (ud.add (i * 4)).off + 3, none⟩ = some (.slice u3 x.f3.length un3) ∧ W.cell? (vd.add (i * 4)) = some (.int .i64 x.f0) ∧ W.cell? ⟨(vd.add (i * 4)).block, (vd.add (i * 4)).off + 1, none⟩ = some (.string x.f1) ∧ W.cell? ⟨(vd.add (i * 4)).block, (vd.add (i * 4)).off + 2, none⟩ = some (.slice v2 x.f2.length vn2) ∧ W.cell? ⟨(vd.add (i * 4)).block, (vd.add (i * 4)).off + 3, none⟩ = some (.slice v3 x.f3.length vn3) ∧ Below wr.heap.size wr W) from fun W h => ⟨hdBq h x3, hdBq h y3, hdBq h g0, hdBq h g1, hdBq h g2, hdBq h g3, hdBq h p0, hdBq h p1, hdBq h p2, hdBq h p3, h⟩)
     go_upto_region 17 with fail
     go_region_held3 (fun W => W.cell? ⟨w.heap.size, 3, none⟩ = some (.slice (some ud) l.length c3) ∧ W.cell? ⟨w.heap.size + 1, 3, none⟩ = some (.slice (some vd) l.length d3) ∧ W.cell? (ud.add (i * 4)) = some (.int .i64 x.f0) ∧ W.cell? ⟨(ud.add (i * 4)).block, (ud.add (i * 4)).off + 1, none⟩ = some (.string x.f1) ∧ W.cell? ⟨(ud.add (i * 4)).block, (ud.add (i * 4)).off + 2, none⟩ = some (.slice u2 x.f2.length un2) ∧ W.cell? ⟨(ud.add (i * 4)).block, (ud.add (i * 4)).off + 3, none⟩ = some (.slice u3 x.f3.length un3) ∧ W.cell? (vd.add (i * 4)) = some (.int .i64 x.f0) ∧ W.cell? ⟨(vd.add (i * 4)).block, (vd.add (i * 4)).off + 1, none⟩ = some (.string x.f1) ∧ W.cell? ⟨(vd.add (i * 4)).block, (vd.add (i * 4)).off + 2, none⟩ = some (.slice v2 x.f2.length vn2) ∧ W.cell? ⟨(vd.add (i * 4)).block, (vd.add (i * 4)).off + 3, none⟩ = some (.slice v3 x.f3.length vn3) ∧ Below wr.heap.size wr W) (exact HS.out _ (by first | exact below_drew (Below.refl _ _) | assumption)) (first
      | (go_at_call 17; refine (IH.out x _ _ _ (HM.out _ HX.out) (E1.out.below (by first | exact below_drew (Below.refl _ _) | assumption)) (E2.out.below (by first | exact below_drew (Below.refl _ _) | assumption))).mono ?_; rintro en W9 ⟨_, rfl, rfl, hb9⟩; have hB9 := below_step (show Below wr.heap.size wr _ from (by first | exact below_drew (Below.refl _ _) | assumption)) hb9; clear hb9))
     go_wp2_with fail
     go_roundg gk
     case measure => omega
     exact ⟨i + 1, by simp, by omega, ⟨below_step HW.out hB9⟩⟩
 ·have X0 := Sdq.mk (And.intro x0 (And.intro x2 x3))
  have Y0 := Sdq.mk (And.intro y2 y3);have N2 := Sdq.mk N2;have N3 := Sdq.mk N3;clear k3 k4
  go_upto_block 0 with fail
  go_cut [5] (fun s5 wc => Sdq (Below w1.heap.size w1 wc))
  case first =>
   go_wp2_with fail
   go_loopg [5] ks.length (fun kq s5 wc => ∃ i : Nat, s5 = .int .i64 (i : Int) ∧ kq + i = ks.length ∧ Sdq (Below w1.heap.size w1 wc))
   case atStart => exact ⟨0, rfl, by omega, ⟨Below.refl _ _⟩⟩
   case round =>
    clear x0 x1 x2 x3 y0 y1 y2 y3;obtain ⟨i, rfl, hi, HW⟩ := hrel
    obtain ⟨x0, x2, x3⟩ : wr.cell? ⟨w.heap.size, 0, none⟩ = some (.int .i64 6) ∧ wr.cell? ⟨w.heap.size, 2, none⟩ = some (.slice A2 ks.length c2) ∧ wr.cell? ⟨w.heap.size, 3, none⟩ = some (.slice A3 l.length c3) := ⟨hdBq HW.out X0.out.1, hdBq HW.out X0.out.2.1, hdBq HW.out X0.out.2.2⟩
    obtain ⟨y2, y3⟩ : wr.cell? ⟨w.heap.size + 1, 2, none⟩ = some (.slice B2 ks.length d2) ∧ wr.cell? ⟨w.heap.size + 1, 3, none⟩ = some (.slice B3 l.length d3) := ⟨hdBq HW.out Y0.out.1, hdBq HW.out Y0.out.2⟩
    cases gk with
    | zero =>
     obtain rfl : i = ks.length := by omega
     go_wp2_with fail
     go_meet
     exact HW
    | succ gk =>
     have hlt : i < ks.length := by omega
     have hiz : (i : Int) < (ks.length : Int) := by omega
     have hw1 : wrap64 ((i : Int) + 1) = ((i + 1 : Nat) : Int) := by have := N2.out; unfold wrap64; omega
     obtain ⟨ad, hA, hx⟩ := key_at0 (Kd.C_below G2.out HW.out) hlt;obtain ⟨bd, hBd, hy⟩ := key_at0 (Kd.C_below I2.out HW.out) hlt;subst hA;subst hBd;have hcb : ((ks[i]).toList == (ks[i]).toList) = true := beq_self_eq_true _;have HS := Sdq.mk (show ∀ W, Below wr.heap.size wr W → (W.cell? ⟨w.heap.size, 2, none⟩ = some (.slice (some ad) ks.length c2) ∧ W.cell? ⟨w.heap.size + 1, 2, none⟩ = some (.slice (some bd) ks.length d2) ∧ W.cell? (ad.add i) = some (.string ks[i]) ∧ W.cell? (bd.add i) = some (.string ks[i]) ∧ Below wr.heap.size wr W) from fun W h => ⟨hdBq h x2, hdBq h y2, hdBq h hx, hdBq h hy, h⟩)
     go_upto_region 12 with fail
     go_region_held3 (fun W => W.cell? ⟨w.heap.size, 2, none⟩ = some (.slice (some ad) ks.length c2) ∧ W.cell? ⟨w.heap.size + 1, 2, none⟩ = some (.slice (some bd) ks.length d2) ∧ W.cell? (ad.add i) = some (.string ks[i]) ∧ W.cell? (bd.add i) = some (.string ks[i]) ∧ Below wr.heap.size wr W) (exact HS.out _ (below_drew (Below.refl _ _))) (fail)
     go_wp2_with fail
     go_roundg gk
     case measure => omega
     exact ⟨i + 1, by simp, by omega, ⟨below_step HW.out (below_drew (Below.refl _ _))⟩⟩
  case rest =>
   clear x0 x1 x2 x3 y0 y1 y2 y3;have HW := hcut;clear hcut
   obtain ⟨x0, x2, x3⟩ : wc.cell? ⟨w.heap.size, 0, none⟩ = some (.int .i64 6) ∧ wc.cell? ⟨w.heap.size, 2, none⟩ = some (.slice A2 ks.length c2) ∧ wc.cell? ⟨w.heap.size, 3, none⟩ = some (.slice A3 l.length c3) := ⟨hdBq HW.out X0.out.1, hdBq HW.out X0.out.2.1, hdBq HW.out X0.out.2.2⟩
   obtain ⟨y2, y3⟩ : wc.cell? ⟨w.heap.size + 1, 2, none⟩ = some (.slice B2 ks.length d2) ∧ wc.cell? ⟨w.heap.size + 1, 3, none⟩ = some (.slice B3 l.length d3) := ⟨hdBq HW.out Y0.out.1, hdBq HW.out Y0.out.2⟩
   go_wp2_with fail
   go_loopg [6] l.length (fun kq s6 wc => ∃ i : Nat, s6 = .int .i64 (i : Int) ∧ kq + i = l.length ∧ Sdq (Below w1.heap.size w1 wc))
   case atStart => exact ⟨0, rfl, by omega, HW⟩
   case round =>
    clear HW x0 x2 x3 y2 y3;obtain ⟨i, rfl, hi, HW⟩ := hrel
    obtain ⟨x0, x2, x3⟩ : wr.cell? ⟨w.heap.size, 0, none⟩ = some (.int .i64 6) ∧ wr.cell? ⟨w.heap.size, 2, none⟩ = some (.slice A2 ks.length c2) ∧ wr.cell? ⟨w.heap.size, 3, none⟩ = some (.slice A3 l.length c3) := ⟨hdBq HW.out X0.out.1, hdBq HW.out X0.out.2.1, hdBq HW.out X0.out.2.2⟩
    obtain ⟨y2, y3⟩ : wr.cell? ⟨w.heap.size + 1, 2, none⟩ = some (.slice B2 ks.length d2) ∧ wr.cell? ⟨w.heap.size + 1, 3, none⟩ = some (.slice B3 l.length d3) := ⟨hdBq HW.out Y0.out.1, hdBq HW.out Y0.out.2⟩
    cases gk with
    | zero =>
     obtain rfl : i = l.length := by omega
     go_wp2_with fail
     go_ret;exact ⟨_, rfl, rfl, below_step HB.out HW.out⟩
    | succ gk =>
     have hlt : i < l.length := by omega
     have hiz : (i : Int) < (l.length : Int) := by omega
     have q0 : (0 : Int) ≤ (i : Int) := by omega
     have hw1 : wrap64 ((i : Int) + 1) = ((i + 1 : Nat) : Int) := by have := N3.out; unfold wrap64; omega
     obtain ⟨ud, P2, q2, P3, q3, hA, g0, g1, g2, g3, -, -, -, -⟩ := at_T44 (Kd.V_reads' (Kd.V_below G3.out HW.out)).2.2 (i : Int) q0 hiz;subst hA;obtain ⟨ce, -, hF, hcc⟩ := Kd.V_get (Kd.V_below G3.out HW.out) z44 (i : Int) q0 hiz;obtain ⟨u2, un2, u3, un3, rfl, k2, F2, k3, F3⟩ := k44_openF hF;have j2 := hcc 2 _ rfl;have j3 := hcc 3 _ rfl;rw [add_field _ _ 2 (by omega)] at j2;rw [add_field _ _ 3 (by omega)] at j3
     injection Option.some.inj (j2.symm.trans g2) with o1 _ o2
     injection Option.some.inj (j3.symm.trans g3) with o3 _ o4
     subst o1 o2 o3 o4;clear hcc j2 j3 hF;rw [show l.getD (i : Int).toNat z44 = l[i] by simp [hlt]] at k2 F2 k3 F3;rw [show rd_T44 l (i : Int) = l[i] by simp [rd_T44, hlt], Int.toNat_natCast] at g0 g1 g2 g3;have E1 := Sdq.mk (Kv.mk44 _ k2 F2 k3 F3);clear k2 F2 k3 F3;obtain ⟨vd, P2, q2, P3, q3, hA, p0, p1, p2, p3, -, -, -, -⟩ := at_T44 (Kd.V_reads' (Kd.V_below I3.out HW.out)).2.2 (i : Int) q0 hiz;subst hA;obtain ⟨ce, -, hF, hcc⟩ := Kd.V_get (Kd.V_below I3.out HW.out) z44 (i : Int) q0 hiz;obtain ⟨v2, vn2, v3, vn3, rfl, k2, F2, k3, F3⟩ := k44_openF hF;have j2 := hcc 2 _ rfl;have j3 := hcc 3 _ rfl;rw [add_field _ _ 2 (by omega)] at j2;rw [add_field _ _ 3 (by omega)] at j3
     injection Option.some.inj (j2.symm.trans p2) with o1 _ o2
     injection Option.some.inj (j3.symm.trans p3) with o3 _ o4
     subst o1 o2 o3 o4;clear hcc j2 j3 hF;rw [show l.getD (i : Int).toNat z44 = l[i] by simp [hlt]] at k2 F2 k3 F3;rw [show rd_T44 l (i : Int) = l[i] by simp [rd_T44, hlt], Int.toNat_natCast] at p0 p1 p2 p3;have E2 := Sdq.mk (Kv.mk44 _ k2 F2 k3 F3);clear k2 F2 k3 F3;have HX := Sdq.mk (List.getElem_mem hlt);generalize l[i] = x at HX E1 E2 g0 g1 g2 g3 p0 p1 p2 p3;have HS := Sdq.mk (show ∀ W, Below wr.heap.size wr W → (W.cell? ⟨w.heap.size, 3, none⟩ = some (.slice (some ud) l.length c3) ∧ W.cell? ⟨w.heap.size + 1, 3, none⟩ = some (.slice (some vd) l.length d3) ∧ W.cell? (ud.add (i * 4)) = some (.int .i64 x.f0) ∧ W.cell? ⟨(ud.add (i * 4)).block, (ud.add (i * 4)).off + 1, none⟩ = some (.string x.f1) ∧ W.cell? ⟨(ud.add (i * 4)).block, (ud.add (i * 4)).off + 2, none⟩ = some (.slice u2 x.f2.length un2) ∧ W.cell? ⟨(ud.add (i * 4)).block, (ud.add (i * 4)).off + 3, none⟩ = some (.slice u3 x.f3.length un3) ∧ W.cell? (vd.add (i * 4)) = some (.int .i64 x.f0) ∧ W.cell? ⟨(vd.add (i * 4)).block, (vd.add (i * 4)).off + 1, none⟩ = some (.string x.f1) ∧ W.cell? ⟨(vd.add (i * 4)).block, (vd.add (i * 4)).off + 2, none⟩ = some (.slice v2 x.f2.length vn2) ∧ W.cell? ⟨(vd.add (i * 4)).block, (vd.add (i * 4)).off + 3, none⟩ = some (.slice v3 x.f3.length vn3) ∧ Below wr.heap.size wr W) from fun W h => ⟨hdBq h x3, hdBq h y3, hdBq h g0, hdBq h g1, hdBq h g2, hdBq h g3, hdBq h p0, hdBq h p1, hdBq h p2, hdBq h p3, h⟩)
     go_upto_region 17 with fail
     go_region_held3 (fun W => W.cell? ⟨w.heap.size, 3, none⟩ = some (.slice (some ud) l.length c3) ∧ W.cell? ⟨w.heap.size + 1, 3, none⟩ = some (.slice (some vd) l.length d3) ∧ W.cell? (ud.add (i * 4)) = some (.int .i64 x.f0) ∧ W.cell? ⟨(ud.add (i * 4)).block, (ud.add (i * 4)).off + 1, none⟩ = some (.string x.f1) ∧ W.cell? ⟨(ud.add (i * 4)).block, (ud.add (i * 4)).off + 2, none⟩ = some (.slice u2 x.f2.length un2) ∧ W.cell? ⟨(ud.add (i * 4)).block, (ud.add (i * 4)).off + 3, none⟩ = some (.slice u3 x.f3.length un3) ∧ W.cell? (vd.add (i * 4)) = some (.int .i64 x.f0) ∧ W.cell? ⟨(vd.add (i * 4)).block, (vd.add (i * 4)).off + 1, none⟩ = some (.string x.f1) ∧ W.cell? ⟨(vd.add (i * 4)).block, (vd.add (i * 4)).off + 2, none⟩ = some (.slice v2 x.f2.length vn2) ∧ W.cell? ⟨(vd.add (i * 4)).block, (vd.add (i * 4)).off + 3, none⟩ = some (.slice v3 x.f3.length vn3) ∧ Below wr.heap.size wr W) (exact HS.out _ (by first | exact below_drew (Below.refl _ _) | assumption)) (first
      | (go_at_call 17; refine (IH.out x _ _ _ (HM.out _ HX.out) (E1.out.below (by first | exact below_drew (Below.refl _ _) | assumption)) (E2.out.below (by first | exact below_drew (Below.refl _ _) | assumption))).mono ?_; rintro en W9 ⟨_, rfl, rfl, hb9⟩; have hB9 := below_step (show Below wr.heap.size wr _ from (by first | exact below_drew (Below.refl _ _) | assumption)) hb9; clear hb9))
     go_wp2_with fail
     go_roundg gk
     case measure => omega
     exact ⟨i + 1, by simp, by omega, ⟨below_step HW.out hB9⟩⟩
theorem equal44 {ok ok' : Nat → Prop} {a : S44} {v v' : Value} {w : World} (h : Kv k44 ok w v a) (h' : Kv k44 ok' w v' a) : Calls Tryd.prog 17 #[v, v'] w (EPost (.bool true) w) := equal44_ _ a v v' w (Nat.le_refl _) h h'
end Go.Proofs.YteighppcdpaekaaDoor.P
end
section
namespace Go.Proofs.YteighppcdpaekaaDoor.P
open Go.RowKit Go.Proofs.YteighppcdpaekaaDoorW.PrintWords Go.Proofs.YteighppcdpaekaaDoorW.PrintLast Go.Proofs.YteighppcdpaekaaDoorW.PrintMore
set_option linter.unusedVariables false
set_option linter.unusedSimpArgs false
set_option maxRecDepth 100000 in
set_option maxHeartbeats 6400000 in
theorem result_calls (ok : Nat → Prop) (vx vy : Value) (x y : S27) (w0 : World) (hok : ∀ k, w0.heap.size ≤ k → ok k) (hx : Kv k27 ok w0 vx x) (hy : Kv k27 ok w0 vy y) : Calls Tryd.prog 31 #[vx, vy] w0 (KPost k27 ok w0 (⟨6, ⟨#[]⟩, [⟨#[106, 115, 111, 110, 114, 112, 99]⟩, ⟨#[105, 100]⟩, ⟨#[114, 101, 115, 117, 108, 116]⟩], [(⟨4, ⟨#[50, 46, 48]⟩, [], []⟩ : S27), x, y]⟩ : S27)) := by
 obtain ⟨x2, xn2, x3, xn3, rfl, xl2, xg2, xl3, xg3⟩ := (hx).open27;obtain ⟨y2, yn2, y3, yn3, rfl, yl2, yg2, yl3, yg3⟩ := (hy).open27
 obtain ⟨O, hO, hO1⟩ : ∃ O : Nat → Prop, (∀ k, O k → ok k ∧ k ≠ w0.heap.size + 2) ∧ (∀ k, ok k → k ≠ w0.heap.size + 2 → O k) := ⟨fun k => ok k ∧ k ≠ _, fun _ h => h, fun _ h h' => ⟨h, h'⟩⟩
 obtain ⟨L, hL⟩ : ∃ L : List UpP, L = [uBlk (w0.heap.size + 2) [.int .i64 0, .string ⟨#[]⟩, .slice none 0 0, .slice none 0 0] 27, uBlk (w0.heap.size + 1) [.int .i64 y.f0, .string y.f1, .slice y2 y.f2.length yn2, .slice y3 y.f3.length yn3] 27, uBlk w0.heap.size [.int .i64 x.f0, .string x.f1, .slice x2 x.f2.length xn2, .slice x3 x.f3.length xn3] 27, uK k27 O (.agg #[.int .i64 x.f0, .string x.f1, .slice x2 x.f2.length xn2, .slice x3 x.f3.length xn3]) x, uK k27 O (.agg #[.int .i64 y.f0, .string y.f1, .slice y2 y.f2.length yn2, .slice y3 y.f3.length yn3]) y, uB w0] := ⟨_, rfl⟩
 have hO2 : ∀ (w : World), Ctx L w → ∀ k, w.heap.size ≤ k → O k := fun w hC k hk => by
  subst hL;have := blk_lt hC.1;exact hO1 k (hok k (by omega)) (by omega)
 have hx := hx.bound.mono (fun k hk => hO1 k hk.1 (by omega));have hy := hy.bound.mono (fun k hk => hO1 k hk.1 (by omega))
 have C0 : Ctx L (((w0.alloc (.cells #[.int .i64 x.f0, .string x.f1, .slice x2 x.f2.length xn2, .slice x3 x.f3.length xn3] 27 (0, 0))).alloc (.cells #[.int .i64 y.f0, .string y.f1, .slice y2 y.f2.length yn2, .slice y3 y.f3.length yn3] 27 (0, 0))).alloc (.cells #[.int .i64 0, .string ⟨#[]⟩, .slice none 0 0, .slice none 0 0] 27 (0, 0))) := by
  have e := (Ctx.new (cs := [.int .i64 0, .string ⟨#[]⟩, .slice none 0 0, .slice none 0 0]) (t := 27) (Ctx.new (cs := [.int .i64 y.f0, .string y.f1, .slice y2 y.f2.length yn2, .slice y3 y.f3.length yn3]) (t := 27) (Ctx.new (cs := [.int .i64 x.f0, .string x.f1, .slice x2 x.f2.length xn2, .slice x3 x.f3.length xn3]) (t := 27) (Ctx.cons (uK k27 O _ x) hx (Ctx.cons (uK k27 O _ y) hy (Ctx.cons (uB w0) (Below.refl _ _) (Ctx.nil)))))))
  rw [hL]
  simpa using e
 go_enter Tryd.func31, Tryd.ntmps31
 go_upto_region 1 with fail
 refine absW _ C0 ?_;clear C0;subst hL;intro w1 C;have cx0 : w1.cell? ⟨w0.heap.size, 0, none⟩ = some (.int .i64 x.f0) := Ctx.blk C.2.2.1 0 rfl;have cx1 : w1.cell? ⟨w0.heap.size, 1, none⟩ = some (.string x.f1) := Ctx.blk C.2.2.1 1 rfl;have cx2 : w1.cell? ⟨w0.heap.size, 2, none⟩ = some (.slice x2 x.f2.length xn2) := Ctx.blk C.2.2.1 2 rfl;have cx3 : w1.cell? ⟨w0.heap.size, 3, none⟩ = some (.slice x3 x.f3.length xn3) := Ctx.blk C.2.2.1 3 rfl;have cy0 : w1.cell? ⟨w0.heap.size + 1, 0, none⟩ = some (.int .i64 y.f0) := Ctx.blk C.2.1 0 rfl;have cy1 : w1.cell? ⟨w0.heap.size + 1, 1, none⟩ = some (.string y.f1) := Ctx.blk C.2.1 1 rfl;have cy2 : w1.cell? ⟨w0.heap.size + 1, 2, none⟩ = some (.slice y2 y.f2.length yn2) := Ctx.blk C.2.1 2 rfl;have cy3 : w1.cell? ⟨w0.heap.size + 1, 3, none⟩ = some (.slice y3 y.f3.length yn3) := Ctx.blk C.2.1 3 rfl
 go_wp2_with fail
 refine (reply_calls O ⟨#[114, 101, 115, 117, 108, 116]⟩ _ _ x y w1 (hO2 w1 C) C.2.2.2.1 C.2.2.2.2.1).mono ?_;rintro en W1 ⟨v, rfl, hv, hb⟩;replace C := C.below hb;clear hb cx0 cx1 cx2 cx3 cy0 cy1 cy2 cy3;obtain ⟨z2, zn2, z3, zn3, rfl, -⟩ := hv.open27;have E := Sdq.mk (end4 C.1 C.2.2.2.2.2.1 (by omega) hO hv _ rfl);have z0_ := Ctx.blk C.1 0 rfl;have z1_ := Ctx.blk C.1 1 rfl;have z2_ := Ctx.blk C.1 2 rfl;have z3_ := Ctx.blk C.1 3 rfl;have f0_ := Ctx.frz C.1 0;have f1_ := Ctx.frz C.1 1;have f2_ := Ctx.frz C.1 2;have f3_ := Ctx.frz C.1 3;clear C hv
 go_wp2_with fail
 have E := E.out;clear z0_ z1_ z2_ z3_ f0_ f1_ f2_ f3_;generalize World.setCell _ _ _ = wf at E ⊢;obtain ⟨EP, c0, c1, c2, c3⟩ := E;exact bodyPost_ret (v := .agg #[.int .i64 _, .string _, .slice z2 _ zn2, .slice z3 _ zn3]) (by simp [results, Tryd.results31, go_sem, c0, c1, c2, c3]) rfl EP
theorem tab35_1 : tabOf (opsOf Tryd.f35 1) = ([some 3, some 4, some 5, some 6, some 7, some 8, some 9, some 10, some 11, some 12, some 13, some 14, some 15, none], [[], [0], [], [], [3], [4], [], [6], [7, 5], [8, 8], [5, 9], [2, 10, 9], [1, 11, 11], [12, 12, 0, 1, 2, 3, 4, 5, 6, 7, 8, 9, 10, 11, 12]]) := by kernel_rfl
set_option maxRecDepth 100000 in
set_option maxHeartbeats 6400000 in
theorem error44_calls (ok : Nat → Prop) (n : Int) (A2 A3 : Option Addr) (c2 c3 : Nat) (x : S44) (w0 : World) (hok : ∀ k, w0.heap.size ≤ k → ok k) (hn : -9223372036854775808 ≤ n ∧ n ≤ 9223372036854775807) (hx : Kv k44 ok w0 (.agg #[.int .i64 x.f0, .string x.f1, .slice A2 x.f2.length c2, .slice A3 x.f3.length c3]) x) : Calls Tryd.prog 35 #[.agg #[.int .i64 n, .int .i64 x.f0, .string x.f1, .slice A2 x.f2.length c2, .slice A3 x.f3.length c3]] w0 (KPost k44 ok w0 (⟨6, ⟨#[]⟩, [⟨#[106, 115, 111, 110, 114, 112, 99]⟩, ⟨#[105, 100]⟩, ⟨#[101, 114, 114, 111, 114]⟩], [(⟨4, ⟨#[50, 46, 48]⟩, [], []⟩ : S44), x, (⟨6, ⟨#[]⟩, [⟨#[99, 111, 100, 101]⟩, ⟨#[109, 101, 115, 115, 97, 103, 101]⟩], [(⟨3, numS n, [], []⟩ : S44), (⟨4, msgS n, [], []⟩ : S44)]⟩ : S44)]⟩ : S44)) := by
 obtain ⟨O, hO, hO1⟩ : ∃ O : Nat → Prop, (∀ k, O k → ok k ∧ k ≠ w0.heap.size + 1) ∧ (∀ k, ok k → k ≠ w0.heap.size + 1 → O k) := ⟨fun k => ok k ∧ k ≠ _, fun _ h => h, fun _ h h' => ⟨h, h'⟩⟩
 obtain ⟨L, hL⟩ : ∃ L : List UpP, L = [uBlk (w0.heap.size + 1) [.int .i64 0, .string ⟨#[]⟩, .slice none 0 0, .slice none 0 0] 44, uBlk w0.heap.size [.int .i64 n, .int .i64 x.f0, .string x.f1, .slice A2 x.f2.length c2, .slice A3 x.f3.length c3] 48, uK k44 O (.agg #[.int .i64 x.f0, .string x.f1, .slice A2 x.f2.length c2, .slice A3 x.f3.length c3]) x, uB w0] := ⟨_, rfl⟩
 have hO2 : ∀ (w : World), Ctx L w → ∀ k, w.heap.size ≤ k → O k := fun w hC k hk => by
  subst hL;have := blk_lt hC.1;exact hO1 k (hok k (by omega)) (by omega)
 have hx := hx.bound.mono (fun k hk => hO1 k hk.1 (by omega))
 have C0 : Ctx L ((w0.alloc (.cells #[.int .i64 n, .int .i64 x.f0, .string x.f1, .slice A2 x.f2.length c2, .slice A3 x.f3.length c3] 48 (0, 0))).alloc (.cells #[.int .i64 0, .string ⟨#[]⟩, .slice none 0 0, .slice none 0 0] 44 (0, 0))) := by
  have e := (Ctx.new (cs := [.int .i64 0, .string ⟨#[]⟩, .slice none 0 0, .slice none 0 0]) (t := 44) (Ctx.new (cs := [.int .i64 n, .int .i64 x.f0, .string x.f1, .slice A2 x.f2.length c2, .slice A3 x.f3.length c3]) (t := 48) (Ctx.cons (uK k44 O _ x) hx (Ctx.cons (uB w0) (Below.refl _ _) (Ctx.nil)))))
  rw [hL]
  simpa using e
 go_enter Tryd.func35, Tryd.ntmps35
 go_upto_region 1 with fail
 refine absW _ C0 ?_;clear C0;subst hL;intro w1 C;refine flowL (m := 13) tab35_1 rfl (Ctx _) (Rl [uEq (.pointer (some ⟨w0.heap.size, 1, none⟩)), uEq (.agg #[.int .i64 x.f0, .string x.f1, .slice A2 x.f2.length c2, .slice A3 x.f3.length c3]), uCv Kd.string O [⟨#[99, 111, 100, 101]⟩, ⟨#[109, 101, 115, 115, 97, 103, 101]⟩], uEq (.pointer (some ⟨w0.heap.size, 0, none⟩)), uEq (.int .i64 n), uKd k44 O (⟨3, numS n, [], []⟩ : S44), uEq (.pointer (some ⟨w0.heap.size, 0, none⟩)), uEq (.int .i64 n), uEq (.string (msgS n)), uKd k44 O (⟨4, msgS n, [], []⟩ : S44), uCv k44 O [(⟨3, numS n, [], []⟩ : S44), (⟨4, msgS n, [], []⟩ : S44)], uKd k44 O (⟨6, ⟨#[]⟩, [⟨#[99, 111, 100, 101]⟩, ⟨#[109, 101, 115, 115, 97, 103, 101]⟩], [(⟨3, numS n, [], []⟩ : S44), (⟨4, msgS n, [], []⟩ : S44)]⟩ : S44), uKd k44 O (⟨6, ⟨#[]⟩, [⟨#[106, 115, 111, 110, 114, 112, 99]⟩, ⟨#[105, 100]⟩, ⟨#[101, 114, 114, 111, 114]⟩], [(⟨4, ⟨#[50, 46, 48]⟩, [], []⟩ : S44), x, (⟨6, ⟨#[]⟩, [⟨#[99, 111, 100, 101]⟩, ⟨#[109, 101, 115, 115, 97, 103, 101]⟩], [(⟨3, numS n, [], []⟩ : S44), (⟨4, msgS n, [], []⟩ : S44)]⟩ : S44)]⟩ : S44)]) rfl (by kernel_rfl) (fun _ _ h hb => h.below hb) (Rl.up _) C ⟨⟨⟨⟨⟨⟨⟨⟨⟨⟨⟨⟨⟨trivial, ?_⟩, ?_⟩, ?_⟩, ?_⟩, ?_⟩, ?_⟩, ?_⟩, ?_⟩, ?_⟩, ?_⟩, ?_⟩, ?_⟩, ?_⟩ _ rfl ?_
 ·refine At.of _ rfl (fun e a w hC hd hb K hK => ?_)
  have b1 : a.tmps[1]? = some (.pointer (some ⟨w0.heap.size, 0, none⟩)) := hb 1 (by decide);refine value_ (w1 := w) (v := .pointer (some ⟨w0.heap.size, 1, none⟩)) (by rfl) rfl ?_ (hK.out _ _ (Below.refl _ _) rfl);clear hC hd hb hK
  first | (go_simp; done) | (go_simp; rfl)
 ·refine At.of _ rfl (fun e a w hC hd hb K hK => ?_)
  have q0 := (hd 0 (by decide)).2 3 rfl;rw [show e 0 = _ from (hd 0 (by decide)).1] at q0;have cx1 : w.cell? ⟨w0.heap.size, 1, none⟩ = some (.int .i64 x.f0) := Ctx.blk hC.2.1 1 rfl;have cx2 : w.cell? ⟨w0.heap.size, 2, none⟩ = some (.string x.f1) := Ctx.blk hC.2.1 2 rfl;have cx3 : w.cell? ⟨w0.heap.size, 3, none⟩ = some (.slice A2 x.f2.length c2) := Ctx.blk hC.2.1 3 rfl;have cx4 : w.cell? ⟨w0.heap.size, 4, none⟩ = some (.slice A3 x.f3.length c3) := Ctx.blk hC.2.1 4 rfl;refine value_ (w1 := w) (v := .agg #[.int .i64 x.f0, .string x.f1, .slice A2 x.f2.length c2, .slice A3 x.f3.length c3]) (by rfl) rfl ?_ (hK.out _ _ (Below.refl _ _) rfl);clear hC hd hb hK
  first | (go_simp; done) | (go_simp; rfl)
 ·refine At.of _ rfl (fun e a w hC hd hb K hK => ?_)
  refine value_ (w1 := w.alloc (.cells #[.string ⟨#[99, 111, 100, 101]⟩, .string ⟨#[109, 101, 115, 115, 97, 103, 101]⟩] 9 (0, 0))) (v := .slice (some ⟨w.heap.size, 0, none⟩) 2 2) (by rfl) rfl ?_ (hK.out _ _ (bal (Below.refl _ _) _) ⟨_, 2, rfl, Nat.le_refl _, F_block (css := [[.string ⟨#[99, 111, 100, 101]⟩], [.string ⟨#[109, 101, 115, 115, 97, 103, 101]⟩]]) (blk_new w _) (hO2 w hC _ (Nat.le_refl _)) rfl (by simp) (two (fun _ _ => rfl) (fun _ _ => rfl))⟩);clear hC hd hb hK
  first | (go_simp; done) | (go_simp; rfl)
 ·refine At.of _ rfl (fun e a w hC hd hb K hK => ?_)
  have b1 : a.tmps[1]? = some (.pointer (some ⟨w0.heap.size, 0, none⟩)) := hb 1 (by decide);refine value_ (w1 := w) (v := .pointer (some ⟨w0.heap.size, 0, none⟩)) (by rfl) rfl ?_ (hK.out _ _ (Below.refl _ _) rfl);clear hC hd hb hK
  first | (go_simp; done) | (go_simp; rfl)
 ·refine At.of _ rfl (fun e a w hC hd hb K hK => ?_)
  have q3 := (hd 3 (by decide)).2 6 rfl;rw [show e 3 = _ from (hd 3 (by decide)).1] at q3;have cx0 : w.cell? ⟨w0.heap.size, 0, none⟩ = some (.int .i64 n) := Ctx.blk hC.2.1 0 rfl;refine value_ (w1 := w) (v := .int .i64 n) (by rfl) rfl ?_ (hK.out _ _ (Below.refl _ _) rfl);clear hC hd hb hK
  first | (go_simp; done) | (go_simp; rfl)
 ·refine At.of _ rfl (fun e a w hC hd hb K hK => ?_)
  have q4 := (hd 4 (by decide)).2 7 rfl;rw [show e 4 = _ from (hd 4 (by decide)).1] at q4;refine goes_ Tryd.func54 (by kernel_rfl) rfl #[.int .i64 n] (by rfl) rfl rfl (by first | (simp [Act.eval, q4]; done) | (simp [Act.eval, q4]; rfl)) ?_;refine (numberR n w hn (hO2 w hC)).mono ?_;rintro en w' ⟨v, rfl, hv, hb'⟩;exact ⟨v, rfl, hK.out v w' hb' hv⟩
 ·refine At.of _ rfl (fun e a w hC hd hb K hK => ?_)
  have b1 : a.tmps[1]? = some (.pointer (some ⟨w0.heap.size, 0, none⟩)) := hb 1 (by decide);refine value_ (w1 := w) (v := .pointer (some ⟨w0.heap.size, 0, none⟩)) (by rfl) rfl ?_ (hK.out _ _ (Below.refl _ _) rfl);clear hC hd hb hK
  first | (go_simp; done) | (go_simp; rfl)
 ·refine At.of _ rfl (fun e a w hC hd hb K hK => ?_)
  have q6 := (hd 6 (by decide)).2 9 rfl;rw [show e 6 = _ from (hd 6 (by decide)).1] at q6;have cx0 : w.cell? ⟨w0.heap.size, 0, none⟩ = some (.int .i64 n) := Ctx.blk hC.2.1 0 rfl;refine value_ (w1 := w) (v := .int .i64 n) (by rfl) rfl ?_ (hK.out _ _ (Below.refl _ _) rfl);clear hC hd hb hK
  first | (go_simp; done) | (go_simp; rfl)
 ·refine At.of _ rfl (fun e a w hC hd hb K hK => ?_)
  have q7 := (hd 7 (by decide)).2 10 rfl;rw [show e 7 = _ from (hd 7 (by decide)).1] at q7;refine goes_ Tryd.func55 (by kernel_rfl) rfl #[.int .i64 n] (by rfl) rfl rfl (by first | (simp [Act.eval, q7]; done) | (simp [Act.eval, q7]; rfl)) ?_;refine (messageR n w).mono ?_;rintro en w' ⟨v, rfl, hv, hb'⟩;exact ⟨v, rfl, hK.out v w' hb' hv⟩
 ·refine At.of _ rfl (fun e a w hC hd hb K hK => ?_)
  have q8 := (hd 8 (by decide)).2 11 rfl;rw [show e 8 = _ from (hd 8 (by decide)).1] at q8;refine goes_ Tryd.func53 (by kernel_rfl) rfl #[.string (msgS n)] (by rfl) rfl rfl (by first | (simp [Act.eval, q8]; done) | (simp [Act.eval, q8]; rfl)) ?_;refine (text44 _ w (hO2 w hC)).mono ?_;rintro en w' ⟨v, rfl, hv, hb'⟩;exact ⟨v, rfl, hK.out v w' hb' hv⟩
 ·refine At.of _ rfl (fun e a w hC hd hb K hK => ?_)
  have q5 := (hd 5 (by decide)).2 8 rfl;obtain ⟨u2, un2, u3, un3, ue, uk⟩ := (show Kv k44 O w (e 5) (⟨3, numS n, [], []⟩ : S44) from (hd 5 (by decide)).1).openK;rw [ue] at q5;have q9 := (hd 9 (by decide)).2 12 rfl;obtain ⟨v2, vn2, v3, vn3, ve, vk⟩ := (show Kv k44 O w (e 9) (⟨4, msgS n, [], []⟩ : S44) from (hd 9 (by decide)).1).openK;rw [ve] at q9;refine value_ (w1 := w.alloc (.cells #[.int .i64 (⟨3, numS n, [], []⟩ : S44).f0, .string (⟨3, numS n, [], []⟩ : S44).f1, .slice u2 (⟨3, numS n, [], []⟩ : S44).f2.length un2, .slice u3 (⟨3, numS n, [], []⟩ : S44).f3.length un3, .int .i64 (⟨4, msgS n, [], []⟩ : S44).f0, .string (⟨4, msgS n, [], []⟩ : S44).f1, .slice v2 (⟨4, msgS n, [], []⟩ : S44).f2.length vn2, .slice v3 (⟨4, msgS n, [], []⟩ : S44).f3.length vn3] 44 (0, 0))) (v := .slice (some ⟨w.heap.size, 0, none⟩) 2 2) (by rfl) rfl ?_ (hK.out _ _ (bal (Below.refl _ _) _) ⟨_, 2, rfl, Nat.le_refl _, F_block (css := [[.int .i64 (⟨3, numS n, [], []⟩ : S44).f0, .string (⟨3, numS n, [], []⟩ : S44).f1, .slice u2 (⟨3, numS n, [], []⟩ : S44).f2.length un2, .slice u3 (⟨3, numS n, [], []⟩ : S44).f3.length un3], [.int .i64 (⟨4, msgS n, [], []⟩ : S44).f0, .string (⟨4, msgS n, [], []⟩ : S44).f1, .slice v2 (⟨4, msgS n, [], []⟩ : S44).f2.length vn2, .slice v3 (⟨4, msgS n, [], []⟩ : S44).f3.length vn3]]) (blk_new w _) (hO2 w hC _ (Nat.le_refl _)) rfl (by simp) (two (Kd.FK_below uk (bal (Below.refl _ _) _)) (Kd.FK_below vk (bal (Below.refl _ _) _)))⟩);clear hC hd hb hK
  first | (go_simp; done) | (go_simp; rfl)
 ·refine At.of _ rfl (fun e a w hC hd hb K hK => ?_)
  have q2 := (hd 2 (by decide)).2 5 rfl
  obtain ⟨A, Ac, Ae, Ah, AF⟩ := (show Cv Kd.string O w (e 2) [⟨#[99, 111, 100, 101]⟩, ⟨#[109, 101, 115, 115, 97, 103, 101]⟩] from (hd 2 (by decide)).1)
  rw [Ae] at q2;have q10 := (hd 10 (by decide)).2 13 rfl
  obtain ⟨B, Bc, Be, Bh, BF⟩ := (show Cv k44 O w (e 10) [(⟨3, numS n, [], []⟩ : S44), (⟨4, msgS n, [], []⟩ : S44)] from (hd 10 (by decide)).1)
  rw [Be] at q10;refine goes_ Tryd.func52 (by kernel_rfl) rfl #[.slice A 2 Ac, .slice B 2 Bc] (by rfl) rfl rfl (by first | (simp [Act.eval, q2, q10]; done) | (simp [Act.eval, q2, q10]; rfl)) ?_;refine (object44 [⟨#[99, 111, 100, 101]⟩, ⟨#[109, 101, 115, 115, 97, 103, 101]⟩] [(⟨3, numS n, [], []⟩ : S44), (⟨4, msgS n, [], []⟩ : S44)] A Ac B Bc w (hO2 w hC) Ah AF Bh BF).mono ?_;rintro en w' ⟨v, rfl, hv, hb'⟩;exact ⟨v, rfl, hK.out v w' hb' hv⟩
 ·refine At.of _ rfl (fun e a w hC hd hb K hK => ?_)
  have q1 := (hd 1 (by decide)).2 4 rfl;rw [show e 1 = _ from (hd 1 (by decide)).1] at q1;have q11 := (hd 11 (by decide)).2 14 rfl;refine goes_ Tryd.func34 (by kernel_rfl) rfl #[.agg #[.int .i64 x.f0, .string x.f1, .slice A2 x.f2.length c2, .slice A3 x.f3.length c3], .string ⟨#[101, 114, 114, 111, 114]⟩, e 11] (by rfl) rfl rfl (by first | (simp [Act.eval, q1, q11]; done) | (simp [Act.eval, q1, q11]; rfl)) ?_;refine (reply44_calls O ⟨#[101, 114, 114, 111, 114]⟩ _ _ x (⟨6, ⟨#[]⟩, [⟨#[99, 111, 100, 101]⟩, ⟨#[109, 101, 115, 115, 97, 103, 101]⟩], [(⟨3, numS n, [], []⟩ : S44), (⟨4, msgS n, [], []⟩ : S44)]⟩ : S44) w (hO2 w hC) hC.2.2.1 (hd 11 (by decide)).1).mono ?_;rintro en w' ⟨v, rfl, hv, hb'⟩;exact ⟨v, rfl, hK.out v w' hb' hv⟩
 ·intro e w hC hr a ha K hK
  have hv : Kv k44 O w (e 12) (⟨6, ⟨#[]⟩, [⟨#[106, 115, 111, 110, 114, 112, 99]⟩, ⟨#[105, 100]⟩, ⟨#[101, 114, 114, 111, 114]⟩], [(⟨4, ⟨#[50, 46, 48]⟩, [], []⟩ : S44), x, (⟨6, ⟨#[]⟩, [⟨#[99, 111, 100, 101]⟩, ⟨#[109, 101, 115, 115, 97, 103, 101]⟩], [(⟨3, numS n, [], []⟩ : S44), (⟨4, msgS n, [], []⟩ : S44)]⟩ : S44)]⟩ : S44) := hr.2;obtain ⟨z2, zn2, z3, zn3, ze, -⟩ := hv.open44;rw [ze] at hv;simp only [fill, Act.put, ze, Nat.reduceAdd, Nat.reduceLT, decide_true, decide_false, if_true, Bool.false_eq_true, if_false, List.setIfInBounds_toArray, List.set_cons_zero, List.set_cons_succ] at ha;subst ha;have E := end4 hC.1 hC.2.2.2.1 (by omega) hO hv _ rfl;have z0_ := Ctx.blk hC.1 0 rfl;have z1_ := Ctx.blk hC.1 1 rfl;have z2_ := Ctx.blk hC.1 2 rfl;have z3_ := Ctx.blk hC.1 3 rfl;have f0_ := Ctx.frz hC.1 0;have f1_ := Ctx.frz hC.1 1;have f2_ := Ctx.frz hC.1 2;have f3_ := Ctx.frz hC.1 3;refine skip_ (w1 := ?_) (by rfl) rfl ?_ ?_
  rotate_left
  ·go_simp
   rfl
  refine hK.out _ _ ?_;go_wp2;clear hC hK hr z0_ z1_ z2_ z3_ f0_ f1_ f2_ f3_;generalize World.setCell _ _ _ = wf at E ⊢;obtain ⟨EP, c0, c1, c2, c3⟩ := E;exact bodyPost_ret (v := .agg #[.int .i64 _, .string _, .slice z2 _ zn2, .slice z3 _ zn3]) (by simp [results, Tryd.results35, go_sem, c0, c1, c2, c3]) rfl EP
end Go.Proofs.YteighppcdpaekaaDoor.P
end
section
namespace Go.Proofs.YteighppcdpaekaaDoor.P
open Go.RowKit Go.Proofs.YteighppcdpaekaaDoorW.PrintWords Go.Proofs.YteighppcdpaekaaDoorW.PrintLast Go.Proofs.YteighppcdpaekaaDoorW.PrintMore
set_option linter.unusedVariables false
set_option linter.unusedSimpArgs false
theorem tab32_1 : tabOf (opsOf Tryd.f32 1) = ([some 4, some 5, some 6, some 7, some 8, some 9, some 10, some 11, some 12, some 13, some 14, some 3, none], [[], [0], [1], [2], [], [4], [5, 2], [6, 6], [7], [3, 8], [9, 7], [], [11, 10, 10, 0, 1, 2, 3, 4, 5, 6, 7, 8, 9, 10, 11]]) := by kernel_rfl
set_option maxRecDepth 100000 in
set_option maxHeartbeats 6400000 in
theorem error_calls (ok : Nat → Prop) (n : Int) (A2 A3 : Option Addr) (c2 c3 : Nat) (x : S27) (w0 : World) (hok : ∀ k, w0.heap.size ≤ k → ok k) (hn : -9223372036854775808 ≤ n ∧ n ≤ 9223372036854775807) (hT : TabOk w0) (hx : Kv k27 ok w0 (.agg #[.int .i64 x.f0, .string x.f1, .slice A2 x.f2.length c2, .slice A3 x.f3.length c3]) x) : Calls Tryd.prog 32 #[.agg #[.int .i64 n, .int .i64 x.f0, .string x.f1, .slice A2 x.f2.length c2, .slice A3 x.f3.length c3]] w0 (KPost k27 ok w0 (⟨6, ⟨#[]⟩, [⟨#[106, 115, 111, 110, 114, 112, 99]⟩, ⟨#[105, 100]⟩, ⟨#[101, 114, 114, 111, 114]⟩], [(⟨4, ⟨#[50, 46, 48]⟩, [], []⟩ : S27), x, (⟨6, ⟨#[]⟩, [⟨#[99, 111, 100, 101]⟩, ⟨#[109, 101, 115, 115, 97, 103, 101]⟩], [(⟨3, numS n, [], []⟩ : S27), (⟨4, msgS n, [], []⟩ : S27)]⟩ : S27)]⟩ : S27)) := by
 obtain ⟨O, hO, hO1⟩ : ∃ O : Nat → Prop, (∀ k, O k → ok k ∧ k ≠ w0.heap.size + 1) ∧ (∀ k, ok k → k ≠ w0.heap.size + 1 → O k) := ⟨fun k => ok k ∧ k ≠ _, fun _ h => h, fun _ h h' => ⟨h, h'⟩⟩
 obtain ⟨Oe, hOe⟩ : ∃ Oe : Nat → Prop, Oe = fun k => ok k ∧ k < w0.heap.size := ⟨_, rfl⟩
 have hOe1 : ∀ k, Oe k → O k := fun k hk => by subst hOe; exact hO1 k hk.1 (by omega)
 have hOe2 : ∀ k, Oe k → k < w0.heap.size := fun k hk => by subst hOe; exact hk.2
 obtain ⟨L, hL⟩ : ∃ L : List UpP, L = [uBlk (w0.heap.size + 1) [.int .i64 0, .string ⟨#[]⟩, .slice none 0 0, .slice none 0 0] 27, uBlk w0.heap.size [.int .i64 n, .int .i64 x.f0, .string x.f1, .slice A2 x.f2.length c2, .slice A3 x.f3.length c3] 39, uK k27 Oe (.agg #[.int .i64 x.f0, .string x.f1, .slice A2 x.f2.length c2, .slice A3 x.f3.length c3]) x, uTab, uB w0] := ⟨_, rfl⟩
 have hO2 : ∀ (w : World), Ctx L w → ∀ k, w.heap.size ≤ k → O k := fun w hC k hk => by
  subst hL;have := blk_lt hC.1;exact hO1 k (hok k (by omega)) (by omega)
 have hO3 : ∀ (w : World), Ctx L w → ∀ b : Option Nat, (∀ g, b = some g → w0.heap.size + 2 ≤ g ∧ (uBlk g [.int .i64 0, .string ⟨#[]⟩, .slice none 0 0, .slice none 0 0] 27).p w) → ∀ k, w.heap.size ≤ k → O k ∧ b ≠ some k := fun w hC b hG k hk => ⟨hO2 w hC k hk, fun e => by have := blk_lt (hG k e).2; omega⟩
 have hLs : ∀ (w : World), Ctx L w → w0.heap.size + 2 ≤ w.heap.size := fun w hC => by
  subst hL;exact Nat.succ_le_of_lt (blk_lt hC.1)
 have hx := hx.bound;rw [← hOe] at hx
 have C0 : Ctx L ((w0.alloc (.cells #[.int .i64 n, .int .i64 x.f0, .string x.f1, .slice A2 x.f2.length c2, .slice A3 x.f3.length c3] 39 (0, 0))).alloc (.cells #[.int .i64 0, .string ⟨#[]⟩, .slice none 0 0, .slice none 0 0] 27 (0, 0))) := by
  have e := Ctx.new (cs := [.int .i64 0, .string ⟨#[]⟩, .slice none 0 0, .slice none 0 0]) (t := 27) (Ctx.new (cs := [.int .i64 n, .int .i64 x.f0, .string x.f1, .slice A2 x.f2.length c2, .slice A3 x.f3.length c3]) (t := 39) (Ctx.cons (uK k27 Oe _ x) hx (Ctx.cons uTab hT (Ctx.cons (uB w0) (Below.refl _ _) (Ctx.nil)))));rw [hL]
  simpa using e
 clear hOe hT;go_enter Tryd.func32, Tryd.ntmps32
 go_upto_region 1 with fail
 refine absW _ C0 ?_;clear C0;subst hL;intro w1 C;refine flowX (m := 12) (p := 11) (Z := .cells #[.int .i64 0, .string ⟨#[]⟩, .slice none 0 0, .slice none 0 0] 27 (0, 0)) tab32_1 rfl (Ctx _) (fun g W => w0.heap.size + 2 ≤ g ∧ (uBlk g [.int .i64 0, .string ⟨#[]⟩, .slice none 0 0, .slice none 0 0] 27).p W) (Rx [xEq (.pointer (some ⟨w0.heap.size, 0, none⟩)), xEq (.int .i64 n), xKd k27 (⟨3, numS n, [], []⟩ : S27), xKd k30 ⟨⟨#[99, 111, 100, 101]⟩, (⟨3, numS n, [], []⟩ : S27)⟩, xEq (.pointer (some ⟨w0.heap.size, 0, none⟩)), xEq (.int .i64 n), xEq (.string (msgS n)), xKd k27 (⟨4, msgS n, [], []⟩ : S27), xKd k30 ⟨⟨#[109, 101, 115, 115, 97, 103, 101]⟩, (⟨4, msgS n, [], []⟩ : S27)⟩, xCv k30 [(⟨⟨#[99, 111, 100, 101]⟩, (⟨3, numS n, [], []⟩ : S27)⟩ : S30), (⟨⟨#[109, 101, 115, 115, 97, 103, 101]⟩, (⟨4, msgS n, [], []⟩ : S27)⟩ : S30)], xKd k27 (⟨6, ⟨#[]⟩, [⟨#[99, 111, 100, 101]⟩, ⟨#[109, 101, 115, 115, 97, 103, 101]⟩], [(⟨3, numS n, [], []⟩ : S27), (⟨4, msgS n, [], []⟩ : S27)]⟩ : S27), xEq undef] O) rfl (by kernel_rfl) (fun _ _ h hb => h.below hb) (fun g _ _ h hb => ⟨h.1, (uBlk g _ _).up _ _ h.2 hb⟩) (Rx.up _ _) (Rx.laid _ _ _) C ⟨⟨⟨⟨⟨⟨⟨⟨⟨⟨⟨⟨trivial, ?_⟩, ?_⟩, ?_⟩, ?_⟩, ?_⟩, ?_⟩, ?_⟩, ?_⟩, ?_⟩, ?_⟩, ?_⟩, fun h => absurd rfl h⟩ ?_ _ rfl ?_
 ·refine AtX.of _ rfl (fun b e a w hC hG hd hb K hK => ?_)
  have b1 : a.tmps[1]? = some (.pointer (some ⟨w0.heap.size, 0, none⟩)) := hb 1 (by decide);refine value_ (w1 := w) (v := .pointer (some ⟨w0.heap.size, 0, none⟩)) (by rfl) rfl ?_ (hK.out _ _ (Below.refl _ _) rfl);clear hC hG hd hb hK
  first | (go_simp; done) | (go_simp; rfl)
 ·refine AtX.of _ rfl (fun b e a w hC hG hd hb K hK => ?_)
  have q0 := (hd 0 (by decide)).2 4 rfl;rw [show e 0 = _ from ((hd 0 (by decide)).1 (by decide))] at q0;have cx0 : w.cell? ⟨w0.heap.size, 0, none⟩ = some (.int .i64 n) := Ctx.blk hC.2.1 0 rfl;refine value_ (w1 := w) (v := .int .i64 n) (by rfl) rfl ?_ (hK.out _ _ (Below.refl _ _) rfl);clear hC hG hd hb hK
  first | (go_simp; done) | (go_simp; rfl)
 ·refine AtX.of _ rfl (fun b e a w hC hG hd hb K hK => ?_)
  have q1 := (hd 1 (by decide)).2 5 rfl;rw [show e 1 = _ from ((hd 1 (by decide)).1 (by decide))] at q1;refine goes_ Tryd.func10 (by kernel_rfl) rfl #[.int .i64 n] (by rfl) rfl rfl (by first | (simp [Act.eval, q1]; done) | (simp [Act.eval, q1]; rfl)) ?_;refine (ofNumJ n w hn hC.2.2.2.1 (hO3 w hC b hG)).mono ?_;rintro en w' ⟨v, rfl, hv, hb'⟩;exact ⟨v, rfl, hK.out v w' hb' hv⟩
 ·refine AtX.of _ rfl (fun b e a w hC hG hd hb K hK => ?_)
  have q2 := (hd 2 (by decide)).2 6 rfl;obtain ⟨u2, un2, u3, un3, ue, ul2, ug2, ul3, ug3⟩ := (show Kv k27 (fun k => O k ∧ b ≠ some k) w (e 2) (⟨3, numS n, [], []⟩ : S27) from ((hd 2 (by decide)).1 (by decide))).open27;rw [ue] at q2;refine value_ (w1 := w) (v := .agg #[.string ⟨#[99, 111, 100, 101]⟩, .int .i64 (⟨3, numS n, [], []⟩ : S27).f0, .string (⟨3, numS n, [], []⟩ : S27).f1, .slice u2 (⟨3, numS n, [], []⟩ : S27).f2.length un2, .slice u3 (⟨3, numS n, [], []⟩ : S27).f3.length un3]) (by rfl) rfl ?_ (hK.out _ _ (Below.refl _ _) (q30 (s := (⟨3, numS n, [], []⟩ : S27)) ul2 ug2 ul3 ug3 rfl));clear hC hG hd hb hK
  first | (go_simp; done) | (go_simp; rfl)
 ·refine AtX.of _ rfl (fun b e a w hC hG hd hb K hK => ?_)
  have b1 : a.tmps[1]? = some (.pointer (some ⟨w0.heap.size, 0, none⟩)) := hb 1 (by decide);refine value_ (w1 := w) (v := .pointer (some ⟨w0.heap.size, 0, none⟩)) (by rfl) rfl ?_ (hK.out _ _ (Below.refl _ _) rfl);clear hC hG hd hb hK
  first | (go_simp; done) | (go_simp; rfl)
 ·refine AtX.of _ rfl (fun b e a w hC hG hd hb K hK => ?_)
  have q4 := (hd 4 (by decide)).2 8 rfl;rw [show e 4 = _ from ((hd 4 (by decide)).1 (by decide))] at q4;have cx0 : w.cell? ⟨w0.heap.size, 0, none⟩ = some (.int .i64 n) := Ctx.blk hC.2.1 0 rfl;refine value_ (w1 := w) (v := .int .i64 n) (by rfl) rfl ?_ (hK.out _ _ (Below.refl _ _) rfl);clear hC hG hd hb hK
  first | (go_simp; done) | (go_simp; rfl)
 ·refine AtX.of _ rfl (fun b e a w hC hG hd hb K hK => ?_)
  have q5 := (hd 5 (by decide)).2 9 rfl;rw [show e 5 = _ from ((hd 5 (by decide)).1 (by decide))] at q5;refine goes_ Tryd.func51 (by kernel_rfl) rfl #[.int .i64 n] (by rfl) rfl rfl (by first | (simp [Act.eval, q5]; done) | (simp [Act.eval, q5]; rfl)) ?_;refine (messageJ n w).mono ?_;rintro en w' ⟨v, rfl, hv, hb'⟩;exact ⟨v, rfl, hK.out v w' hb' hv⟩
 ·refine AtX.of _ rfl (fun b e a w hC hG hd hb K hK => ?_)
  have q6 := (hd 6 (by decide)).2 10 rfl;rw [show e 6 = _ from ((hd 6 (by decide)).1 (by decide))] at q6;refine goes_ Tryd.func13 (by kernel_rfl) rfl #[.string (msgS n)] (by rfl) rfl rfl (by first | (simp [Act.eval, q6]; done) | (simp [Act.eval, q6]; rfl)) ?_;refine (textJ _ w (hO3 w hC b hG)).mono ?_;rintro en w' ⟨v, rfl, hv, hb'⟩;exact ⟨v, rfl, hK.out v w' hb' hv⟩
 ·refine AtX.of _ rfl (fun b e a w hC hG hd hb K hK => ?_)
  have q7 := (hd 7 (by decide)).2 11 rfl;obtain ⟨u2, un2, u3, un3, ue, ul2, ug2, ul3, ug3⟩ := (show Kv k27 (fun k => O k ∧ b ≠ some k) w (e 7) (⟨4, msgS n, [], []⟩ : S27) from ((hd 7 (by decide)).1 (by decide))).open27;rw [ue] at q7;refine value_ (w1 := w) (v := .agg #[.string ⟨#[109, 101, 115, 115, 97, 103, 101]⟩, .int .i64 (⟨4, msgS n, [], []⟩ : S27).f0, .string (⟨4, msgS n, [], []⟩ : S27).f1, .slice u2 (⟨4, msgS n, [], []⟩ : S27).f2.length un2, .slice u3 (⟨4, msgS n, [], []⟩ : S27).f3.length un3]) (by rfl) rfl ?_ (hK.out _ _ (Below.refl _ _) (q30 (s := (⟨4, msgS n, [], []⟩ : S27)) ul2 ug2 ul3 ug3 rfl));clear hC hG hd hb hK
  first | (go_simp; done) | (go_simp; rfl)
 ·refine AtX.of _ rfl (fun b e a w hC hG hd hb K hK => ?_)
  have q3 := (hd 3 (by decide)).2 7 rfl;obtain ⟨u2, un2, u3, un3, ue, uk⟩ := (show Kv k30 (fun k => O k ∧ b ≠ some k) w (e 3) (⟨⟨#[99, 111, 100, 101]⟩, (⟨3, numS n, [], []⟩ : S27)⟩ : S30) from ((hd 3 (by decide)).1 (by decide))).open30;rw [ue] at q3;have q8 := (hd 8 (by decide)).2 12 rfl;obtain ⟨v2, vn2, v3, vn3, ve, vk⟩ := (show Kv k30 (fun k => O k ∧ b ≠ some k) w (e 8) (⟨⟨#[109, 101, 115, 115, 97, 103, 101]⟩, (⟨4, msgS n, [], []⟩ : S27)⟩ : S30) from ((hd 8 (by decide)).1 (by decide))).open30;rw [ve] at q8;refine value_ (w1 := w.alloc (.cells #[.string (⟨⟨#[99, 111, 100, 101]⟩, (⟨3, numS n, [], []⟩ : S27)⟩ : S30).f0, .int .i64 (⟨⟨#[99, 111, 100, 101]⟩, (⟨3, numS n, [], []⟩ : S27)⟩ : S30).f1.f0, .string (⟨⟨#[99, 111, 100, 101]⟩, (⟨3, numS n, [], []⟩ : S27)⟩ : S30).f1.f1, .slice u2 (⟨⟨#[99, 111, 100, 101]⟩, (⟨3, numS n, [], []⟩ : S27)⟩ : S30).f1.f2.length un2, .slice u3 (⟨⟨#[99, 111, 100, 101]⟩, (⟨3, numS n, [], []⟩ : S27)⟩ : S30).f1.f3.length un3, .string (⟨⟨#[109, 101, 115, 115, 97, 103, 101]⟩, (⟨4, msgS n, [], []⟩ : S27)⟩ : S30).f0, .int .i64 (⟨⟨#[109, 101, 115, 115, 97, 103, 101]⟩, (⟨4, msgS n, [], []⟩ : S27)⟩ : S30).f1.f0, .string (⟨⟨#[109, 101, 115, 115, 97, 103, 101]⟩, (⟨4, msgS n, [], []⟩ : S27)⟩ : S30).f1.f1, .slice v2 (⟨⟨#[109, 101, 115, 115, 97, 103, 101]⟩, (⟨4, msgS n, [], []⟩ : S27)⟩ : S30).f1.f2.length vn2, .slice v3 (⟨⟨#[109, 101, 115, 115, 97, 103, 101]⟩, (⟨4, msgS n, [], []⟩ : S27)⟩ : S30).f1.f3.length vn3] 30 (0, 0))) (v := .slice (some ⟨w.heap.size, 0, none⟩) 2 2) (by rfl) rfl ?_ (hK.out _ _ (bal (Below.refl _ _) _) ⟨_, 2, rfl, Nat.le_refl _, F_block (css := [[.string (⟨⟨#[99, 111, 100, 101]⟩, (⟨3, numS n, [], []⟩ : S27)⟩ : S30).f0, .int .i64 (⟨⟨#[99, 111, 100, 101]⟩, (⟨3, numS n, [], []⟩ : S27)⟩ : S30).f1.f0, .string (⟨⟨#[99, 111, 100, 101]⟩, (⟨3, numS n, [], []⟩ : S27)⟩ : S30).f1.f1, .slice u2 (⟨⟨#[99, 111, 100, 101]⟩, (⟨3, numS n, [], []⟩ : S27)⟩ : S30).f1.f2.length un2, .slice u3 (⟨⟨#[99, 111, 100, 101]⟩, (⟨3, numS n, [], []⟩ : S27)⟩ : S30).f1.f3.length un3], [.string (⟨⟨#[109, 101, 115, 115, 97, 103, 101]⟩, (⟨4, msgS n, [], []⟩ : S27)⟩ : S30).f0, .int .i64 (⟨⟨#[109, 101, 115, 115, 97, 103, 101]⟩, (⟨4, msgS n, [], []⟩ : S27)⟩ : S30).f1.f0, .string (⟨⟨#[109, 101, 115, 115, 97, 103, 101]⟩, (⟨4, msgS n, [], []⟩ : S27)⟩ : S30).f1.f1, .slice v2 (⟨⟨#[109, 101, 115, 115, 97, 103, 101]⟩, (⟨4, msgS n, [], []⟩ : S27)⟩ : S30).f1.f2.length vn2, .slice v3 (⟨⟨#[109, 101, 115, 115, 97, 103, 101]⟩, (⟨4, msgS n, [], []⟩ : S27)⟩ : S30).f1.f3.length vn3]]) (blk_new w _) (hO3 w hC b hG _ (Nat.le_refl _)) rfl (by simp) (two (Kd.FK_below uk (bal (Below.refl _ _) _)) (Kd.FK_below vk (bal (Below.refl _ _) _)))⟩);clear hC hG hd hb hK
  first | (go_simp; done) | (go_simp; rfl)
 ·refine AtX.of _ rfl (fun b e a w hC hG hd hb K hK => ?_)
  have q9 := (hd 9 (by decide)).2 13 rfl
  obtain ⟨A, c, ae, hc, hA⟩ := (show Cv k30 (fun k => O k ∧ b ≠ some k) w (e 9) [(⟨⟨#[99, 111, 100, 101]⟩, (⟨3, numS n, [], []⟩ : S27)⟩ : S30), (⟨⟨#[109, 101, 115, 115, 97, 103, 101]⟩, (⟨4, msgS n, [], []⟩ : S27)⟩ : S30)] from ((hd 9 (by decide)).1 (by decide)))
  rw [ae] at q9;refine goes_ Tryd.func11 (by kernel_rfl) rfl #[.slice A 2 c] (by rfl) rfl rfl (by first | (simp [Act.eval, q9]; done) | (simp [Act.eval, q9]; rfl)) ?_;refine (madeJ A c [(⟨⟨#[99, 111, 100, 101]⟩, (⟨3, numS n, [], []⟩ : S27)⟩ : S30), (⟨⟨#[109, 101, 115, 115, 97, 103, 101]⟩, (⟨4, msgS n, [], []⟩ : S27)⟩ : S30)] w (hO3 w hC b hG) hc hA (by simp)).mono ?_;rintro en w' ⟨v, rfl, hv, hb'⟩;exact ⟨v, rfl, hK.out v w' hb' hv⟩
 ·intro o ho a w hC
  obtain rfl := Option.some.inj (show some _ = some o from ho);refine ⟨⟨hLs w hC, blk_new w _⟩, fun K hK => ?_⟩;refine value_ (w1 := w.alloc (.cells #[.int .i64 0, .string ⟨#[]⟩, .slice none 0 0, .slice none 0 0] 27 (0, 0))) (v := .pointer (some ⟨w.heap.size, 0, none⟩)) (by rfl) rfl ?_ hK
  first | (go_simp; done) | (go_simp; rfl)
 ·intro e w g hC hep hG hr a ha K hK
  have hv : Kv k27 (fun k => O k ∧ some g ≠ some k) w (e 10) (⟨6, ⟨#[]⟩, [⟨#[99, 111, 100, 101]⟩, ⟨#[109, 101, 115, 115, 97, 103, 101]⟩], [(⟨3, numS n, [], []⟩ : S27), (⟨4, msgS n, [], []⟩ : S27)]⟩ : S27) := hr.1.2 (by decide);obtain ⟨z2, zn2, z3, zn3, ze, -⟩ := hv.open27;rw [ze] at hv;simp only [fill, Act.put, ze, hep, Nat.reduceAdd, Nat.reduceLT, decide_true, decide_false, if_true, Bool.false_eq_true, if_false, List.setIfInBounds_toArray, List.set_cons_zero, List.set_cons_succ] at ha;subst ha
  have hg1 : g ≠ w0.heap.size + 1 := by have := hG.1; omega
  have hg0 : g ≠ w0.heap.size := by have := hG.1; omega
  have hge : w0.heap.size ≤ g := by have := hG.1; omega
  have D : ∀ u0 u1 u2 u3, Kv k27 (fun k => O k ∧ some g ≠ some k) w (.agg #[u0, u1, u2, u3]) (⟨6, ⟨#[]⟩, [⟨#[99, 111, 100, 101]⟩, ⟨#[109, 101, 115, 115, 97, 103, 101]⟩], [(⟨3, numS n, [], []⟩ : S27), (⟨4, msgS n, [], []⟩ : S27)]⟩ : S27) → Ctx [uBlk g [u0, u1, u2, u3] 27, uK k27 O (.agg #[u0, u1, u2, u3]) (⟨6, ⟨#[]⟩, [⟨#[99, 111, 100, 101]⟩, ⟨#[109, 101, 115, 115, 97, 103, 101]⟩], [(⟨3, numS n, [], []⟩ : S27), (⟨4, msgS n, [], []⟩ : S27)]⟩ : S27), uBlk (w0.heap.size + 1) [.int .i64 0, .string ⟨#[]⟩, .slice none 0 0, .slice none 0 0] 27, uBlk w0.heap.size [.int .i64 n, .int .i64 x.f0, .string x.f1, .slice A2 x.f2.length c2, .slice A3 x.f3.length c3] 39, uK k27 Oe (.agg #[.int .i64 x.f0, .string x.f1, .slice A2 x.f2.length c2, .slice A3 x.f3.length c3]) x, uB w0] ((((w.setCell ⟨g, 0, none⟩ u0).setCell ⟨g, 1, none⟩ u1).setCell ⟨g, 2, none⟩ u2).setCell ⟨g, 3, none⟩ u3) := fun u0 u1 u2 u3 hv => by
   have hne : ∀ k, O k ∧ some g ≠ some k → k ≠ g := fun k hk e => hk.2 (by rw [e])
   have hne2 : ∀ k, Oe k → k ≠ g := fun k hk => by have := hOe2 k hk; omega
   exact ⟨Ctx.put (Ctx.put (Ctx.put (Ctx.put hG.2 0 u0) 1 u1) 2 u2) 3 u3, ((((hv.far (p := ⟨g, 0, none⟩) hne u0).far (p := ⟨g, 1, none⟩) hne u1).far (p := ⟨g, 2, none⟩) hne u2).far (p := ⟨g, 3, none⟩) hne u3).mono (fun k hk => hk.1), Ctx.far (Ctx.far (Ctx.far (Ctx.far hC.1 0 u0 hg1.symm) 1 u1 hg1.symm) 2 u2 hg1.symm) 3 u3 hg1.symm, Ctx.far (Ctx.far (Ctx.far (Ctx.far hC.2.1 0 u0 hg0.symm) 1 u1 hg0.symm) 2 u2 hg0.symm) 3 u3 hg0.symm, (((Kv.far hC.2.2.1 (p := ⟨g, 0, none⟩) hne2 u0).far (p := ⟨g, 1, none⟩) hne2 u1).far (p := ⟨g, 2, none⟩) hne2 u2).far (p := ⟨g, 3, none⟩) hne2 u3, bstq (bstq (bstq (bstq hC.2.2.2.2.1 hge) hge) hge) hge, trivial⟩
  have D := Sdq.mk (D _ _ _ _ hv);have z0_ := Ctx.blk hG.2 0 rfl;have z1_ := Ctx.blk hG.2 1 rfl;have z2_ := Ctx.blk hG.2 2 rfl;have z3_ := Ctx.blk hG.2 3 rfl;have f0_ := Ctx.frz hG.2 0;have f1_ := Ctx.frz hG.2 1;have f2_ := Ctx.frz hG.2 2;have f3_ := Ctx.frz hG.2 3;clear hG hC hr hep;refine skip_ (w1 := ?_) (by rfl) rfl ?_ ?_
  rotate_left
  ·go_simp
   rfl
  refine hK.out _ _ ?_;clear z0_ z1_ z2_ z3_ f0_ f1_ f2_ f3_ hK
  go_upto_region 2 with fail
  have D := D.out;generalize World.setCell _ _ _ = w3 at D ⊢;obtain ⟨bg, ki, bz, bx, kx, bw, _⟩ := D;have lz := blk_lt bz;have lg := blk_lt bg;have g0_ := Ctx.blk bg 0 rfl;have g1_ := Ctx.blk bg 1 rfl;have g2_ := Ctx.blk bg 2 rfl;have g3_ := Ctx.blk bg 3 rfl;have cx1 : w3.cell? ⟨w0.heap.size, 1, none⟩ = some (.int .i64 x.f0) := Ctx.blk bx 1 rfl;have cx2 : w3.cell? ⟨w0.heap.size, 2, none⟩ = some (.string x.f1) := Ctx.blk bx 2 rfl;have cx3 : w3.cell? ⟨w0.heap.size, 3, none⟩ = some (.slice A2 x.f2.length c2) := Ctx.blk bx 3 rfl;have cx4 : w3.cell? ⟨w0.heap.size, 4, none⟩ = some (.slice A3 x.f3.length c3) := Ctx.blk bx 4 rfl;have K := Sdq.mk (And.intro bz bw);have R := Sdq.mk (And.intro ki (And.intro kx lz));clear bg ki bz bx kx bw
  go_wp2_with fail
  refine (reply_calls O ⟨#[101, 114, 114, 111, 114]⟩ _ _ x (⟨6, ⟨#[]⟩, [⟨#[99, 111, 100, 101]⟩, ⟨#[109, 101, 115, 115, 97, 103, 101]⟩], [(⟨3, numS n, [], []⟩ : S27), (⟨4, msgS n, [], []⟩ : S27)]⟩ : S27) w3 (fun k hk => hO1 k (hok k (by have := R.out.2.2; omega)) (by have := R.out.2.2; omega)) (R.out.2.1.mono hOe1) R.out.1).mono ?_;rintro en W1 ⟨v, rfl, hv, hb⟩;obtain ⟨y2, yn2, y3, yn3, rfl, -⟩ := hv.open27;have kz := (uBlk _ _ _).up _ _ K.out.1 hb;have kw := (uB w0).up _ _ K.out.2 hb;have E := Sdq.mk (end4 kz kw (by omega) hO hv _ rfl);have z0_ := Ctx.blk kz 0 rfl;have z1_ := Ctx.blk kz 1 rfl;have z2_ := Ctx.blk kz 2 rfl;have z3_ := Ctx.blk kz 3 rfl;have f0_ := Ctx.frz kz 0;have f1_ := Ctx.frz kz 1;have f2_ := Ctx.frz kz 2;have f3_ := Ctx.frz kz 3;clear kz kw hv hb K R cx1 cx2 cx3 cx4 g0_ g1_ g2_ g3_
  go_wp2_with fail
  have E := E.out;clear z0_ z1_ z2_ z3_ f0_ f1_ f2_ f3_;generalize World.setCell _ _ _ = wf at E ⊢;obtain ⟨EP, c0, c1, c2, c3⟩ := E;exact bodyPost_ret (v := .agg #[.int .i64 _, .string _, .slice y2 _ yn2, .slice y3 _ yn3]) (by simp [results, Tryd.results32, go_sem, c0, c1, c2, c3]) rfl EP
end Go.Proofs.YteighppcdpaekaaDoor.P
end
section
namespace Go.Proofs.YteighppcdpaekaaDoor.P
open Go.RowKit Go.Proofs.YteighppcdpaekaaDoorW.PrintWords Go.Proofs.YteighppcdpaekaaDoorW.PrintLast Go.Proofs.YteighppcdpaekaaDoorW.PrintMore
attribute [local go_sem] max2_int min2_int max_two min_two max_three min_three max_four min_four
set_option linter.unusedVariables false
set_option linter.unusedSimpArgs false
def R3q_Encode.j0 : Nat → Int → Bool → Option (List Int × Int)
 | 0, _, _ => none
 | k + 1, x0, x17 => if x17 = true then (some (([] : List Int), 10)) else (if x0 < 128 then (some ((([(x0) % 256] : List Int)), 0)) else (if x0 < 2048 then (some ((([(wrap64 (192 + (wrap64 (Int.tdiv x0 64)))) % 256, (wrap64 (128 + (Int.tmod x0 64))) % 256] : List Int)), 0)) else (if x0 < 65536 then (some ((([(wrap64 (224 + (wrap64 (Int.tdiv x0 4096)))) % 256, (wrap64 (128 + (Int.tmod (wrap64 (Int.tdiv x0 64)) 64))) % 256, (wrap64 (128 + (Int.tmod x0 64))) % 256] : List Int)), 0)) else (some ((([(wrap64 (240 + (wrap64 (Int.tdiv x0 262144)))) % 256, (wrap64 (128 + (Int.tmod (wrap64 (Int.tdiv x0 4096)) 64))) % 256, (wrap64 (128 + (Int.tmod (wrap64 (Int.tdiv x0 64)) 64))) % 256, (wrap64 (128 + (Int.tmod x0 64))) % 256] : List Int)), 0)))))
def R3q_Encode.f (k : Nat) (a0 : Int) : Option (List Int × Int) := if a0 < 0 then (R3q_Encode.j0 k a0 true) else (if a0 > 1114111 then (R3q_Encode.j0 k a0 true) else (if a0 ≥ 55296 then (R3q_Encode.j0 k a0 (decide (a0 ≤ 57343))) else (R3q_Encode.j0 k a0 false)))
set_option maxHeartbeats 8000000 in
set_option maxRecDepth 100000 in
theorem R3q_Encode.calls (k : Nat) (a0 : Int) (r1 : List Int) (r2 : Int) (w : World) (h : R3q_Encode.f k a0 = some (r1, r2)) :
  Calls Tryd.prog 106 #[.int .i64 a0] w fun e w' => ∃ v0_ : Value, e = .returned (.tuple #[v0_, .int .i64 r2]) ∧ Kd.R (Kd.int .u8) 5 w' w.heap.size (fun _ => True) v0_ r1 ∧ Below w.heap.size w w' := by
 have HB := Sdq.mk (Below.refl w.heap.size w);have H : (if a0 < 0 then (R3q_Encode.j0 k a0 true) else (if a0 > 1114111 then (R3q_Encode.j0 k a0 true) else (if a0 ≥ 55296 then (R3q_Encode.j0 k a0 (decide (a0 ≤ 57343))) else (R3q_Encode.j0 k a0 false)))) = some (r1, r2) := h;clear h;have HC2 := Sdq.mk H;clear H;go_enter Tryd.func106, Tryd.ntmps106
 go_upto_region 1 with (fail)
 go_cut [17] (fun v17 wc => ∃ (kq : Nat) (x17_1 : Bool), v17 = .bool x17_1 ∧ Sdq (R3q_Encode.j0 kq a0 x17_1 = some (r1, r2)) ∧ Sdq (kq ≤ k) ∧ Sdq (Below w.heap.size w wc))
 case first =>
  have H := HC2.out;clear HC2;by_cases c3 : a0 < 0
  ·rw [if_pos c3] at H
   have c3b0 : decide (a0 < 0) = true := decide_eq_true c3;clear c3
   (first | rw [c3b0] | (simp only [i64_w, i32_w]; rw [c3b0]) | skip)
   have H' := Sdq.mk H;clear H;go_wp2
   go_meet
   case rel => exact ⟨_, (true), (by first | rfl | (simp; done) | (simp [*]; done)), H', ⟨by first | omega | exact Nat.le_refl _⟩, ⟨by repeat (first | (with_reducible first | exact HB.out | apply bal | apply pbdN | apply bdr1) | exact HB.out)⟩⟩
  ·rw [if_neg c3] at H
   have c3b0 : decide (a0 < 0) = false := decide_eq_false c3;clear c3
   (first | rw [c3b0] | (simp only [i64_w, i32_w]; rw [c3b0]) | skip)
   by_cases c4 : a0 > 1114111
   ·rw [if_pos c4] at H
    have c4b0 : decide (1114111 < a0) = true := decide_eq_true c4;clear c4;have H' := Sdq.mk H;clear H;go_wp2
    go_meet
    case rel => exact ⟨_, (true), (by first | rfl | (simp; done) | (simp [*]; done)), H', ⟨by first | omega | exact Nat.le_refl _⟩, ⟨by repeat (first | (with_reducible first | exact HB.out | apply bal | apply pbdN | apply bdr1) | exact HB.out)⟩⟩
   ·rw [if_neg c4] at H
    have c4b0 : decide (1114111 < a0) = false := decide_eq_false c4;clear c4;by_cases c5 : a0 ≥ 55296
    ·rw [if_pos c5] at H
     have c5b0 : decide (55296 ≤ a0) = true := decide_eq_true c5;clear c5;have H' := Sdq.mk H;clear H;go_wp2
     go_meet
     case rel => exact ⟨_, (decide (a0 ≤ 57343)), (by first | rfl | (simp; done) | (simp [*]; done)), H', ⟨by first | omega | exact Nat.le_refl _⟩, ⟨by repeat (first | (with_reducible first | exact HB.out | apply bal | apply pbdN | apply bdr1) | exact HB.out)⟩⟩
    ·rw [if_neg c5] at H
     have c5b0 : decide (55296 ≤ a0) = false := decide_eq_false c5;clear c5;have H' := Sdq.mk H;clear H;go_wp2
     go_meet
     case rel => exact ⟨_, (false), (by first | rfl | (simp; done) | (simp [*]; done)), H', ⟨by first | omega | exact Nat.le_refl _⟩, ⟨by repeat (first | (with_reducible first | exact HB.out | apply bal | apply pbdN | apply bdr1) | exact HB.out)⟩⟩
 case rest =>
  clear HC2
  try clear c1; try clear p2; try clear c3; try clear c3b0; try clear c4; try clear c4b0; try clear c5; try clear c5b0
  obtain ⟨kq, x17_1, rfl, HA, HJ1, HB⟩ := hcut
  cases kq with
  | zero => exact absurd HA.out (by simp [R3q_Encode.j0])
  | succ kj1 =>
   have H := HA.out;clear HA;simp only [R3q_Encode.j0] at H;by_cases c6 : x17_1 = true
   ·subst c6
    have H1 : (some (([] : List Int), 10)) = some (r1, r2) := by rw [if_pos rfl] at H; exact H
    clear H;have H := H1;clear H1;simp only [Option.some.injEq, Prod.mk.injEq] at H;obtain ⟨rfl, rfl⟩ := H;go_wp2
    go_ret2
    exact ⟨_, by first | rfl | (simp [errW_none, errW_some] <;> rfl) | (simp [*, errW_none, errW_some] <;> rfl), by first | exact Kd.R_nil _ _ _ _ _ | exact Kd.N_nil _ _ _ _ _ | exact Kd.V_nil _ _ _ _ _ | exact Kd.Q_nil _ _ _ _ _ | exact Kd.S_nil _ _ _ _ _, by repeat (first | (with_reducible first | exact HB.out | apply bal | apply pbdN | apply bdr1) | exact HB.out)⟩
   ·replace c6 := Bool.eq_false_iff.mpr c6
    subst c6
    have H1 : (if a0 < 128 then (some ((([(a0) % 256] : List Int)), 0)) else (if a0 < 2048 then (some ((([(wrap64 (192 + (wrap64 (Int.tdiv a0 64)))) % 256, (wrap64 (128 + (Int.tmod a0 64))) % 256] : List Int)), 0)) else (if a0 < 65536 then (some ((([(wrap64 (224 + (wrap64 (Int.tdiv a0 4096)))) % 256, (wrap64 (128 + (Int.tmod (wrap64 (Int.tdiv a0 64)) 64))) % 256, (wrap64 (128 + (Int.tmod a0 64))) % 256] : List Int)), 0)) else (some ((([(wrap64 (240 + (wrap64 (Int.tdiv a0 262144)))) % 256, (wrap64 (128 + (Int.tmod (wrap64 (Int.tdiv a0 4096)) 64))) % 256, (wrap64 (128 + (Int.tmod (wrap64 (Int.tdiv a0 64)) 64))) % 256, (wrap64 (128 + (Int.tmod a0 64))) % 256] : List Int)), 0))))) = some (r1, r2) := by rw [if_neg (show ¬ (false = true) by decide)] at H; exact H
    clear H;have H := H1;clear H1;by_cases c7 : a0 < 128
    ·rw [if_pos c7] at H
     have c7b0 : decide (a0 < 128) = true := decide_eq_true c7;clear c7
     obtain ⟨y499, hy499⟩ : ∃ y_ : List Int, y_ = (([(a0) % 256] : List Int)) := ⟨_, rfl⟩
     replace H : (some (y499, 0)) = some (r1, r2) := by first | (rw [hy499]; with_reducible exact H) | (have H2_ := (Option.bind_some _ _).symm.trans H; rw [hy499]; with_reducible exact H2_) | (have H2_ := (Option.bind_some _ _).symm.trans H; with_reducible exact H2_) | with_reducible exact H | (rw [hy499]; exact H) | exact H
     have Ny499 := Sdq.mk hy499;clear hy499;simp only [Option.some.injEq, Prod.mk.injEq] at H;obtain ⟨rfl, rfl⟩ := H;go_wp2_with (first | ((with_reducible refine gate_dst (N := 22) rfl ?_); refine Kd.R_lit (Kd.int .u8) _ 5 ?hg (N := 22) ?hd (xs := ([(a0) % 256] : List Int)) (inner := [.int .u8 ((a0) % 256)]) (ok := fun _ => True) (okp := fun _ => True) ?hr ?hp (fun _ hk => hk) trivial (Below.refl _ _) (Nat.le_refl _) (by simp) ?_; (case hd => rfl); (case hg => rfl); (case hr => first | (go_simp; done) | (go_simp; rfl)); (case hp => exact (Reps.one (show Kd.M (Kd.int .u8) _ _ _ ((a0) % 256) [.int .u8 ((a0) % 256)] from rfl) (Reps.none _ _))); intro v500 w8 ho9 hb hg_ hnew_; clear hg_ hnew_; (first | rw [← Ny499.out] at ho9 | (simp only [Int.reduceToNat] at ho9; rw [← Ny499.out] at ho9)); have n0_ := Sdq.mk (Kd.R_lower ho9 (below_size (by repeat (first | (with_reducible first | exact HB.out | apply bal | apply pbdN | apply bdr1) | exact HB.out)))); have n1_ := Sdq.mk (below_step (by repeat (first | (with_reducible first | exact HB.out | apply bal | apply pbdN | apply bdr1) | exact HB.out)) hb); clear HB; have HO501 := n0_; have HB := n1_; clear n0_ n1_; clear hb ho9))
     go_ret2
     exact ⟨_, by first | rfl | (simp [errW_none, errW_some] <;> rfl) | (simp [*, errW_none, errW_some] <;> rfl), by (with_reducible repeat (first | apply Kd.R_alloc | apply Kd.R_drewN | apply Kd.R_drew)); exact HO501.out, by repeat (first | (with_reducible first | exact HB.out | apply bal | apply pbdN | apply bdr1) | exact HB.out)⟩
    ·rw [if_neg c7] at H
     have c7b0 : decide (a0 < 128) = false := decide_eq_false c7;clear c7;by_cases c10 : a0 < 2048
     ·rw [if_pos c10] at H
      have c10b0 : decide (a0 < 2048) = true := decide_eq_true c10;clear c10
      obtain ⟨y502, hy502⟩ : ∃ y_ : List Int, y_ = (([(wrap64 (192 + (wrap64 (Int.tdiv a0 64)))) % 256, (wrap64 (128 + (Int.tmod a0 64))) % 256] : List Int)) := ⟨_, rfl⟩
      replace H : (some (y502, 0)) = some (r1, r2) := by first | (rw [hy502]; with_reducible exact H) | (have H2_ := (Option.bind_some _ _).symm.trans H; rw [hy502]; with_reducible exact H2_) | (have H2_ := (Option.bind_some _ _).symm.trans H; with_reducible exact H2_) | with_reducible exact H | (rw [hy502]; exact H) | exact H
      have Ny502 := Sdq.mk hy502;clear hy502;simp only [Option.some.injEq, Prod.mk.injEq] at H;obtain ⟨rfl, rfl⟩ := H;go_wp2_with (first | ((with_reducible refine gate_dst (N := 33) rfl ?_); refine Kd.R_lit (Kd.int .u8) _ 5 ?hg (N := 33) ?hd (xs := ([(wrap64 (192 + (wrap64 (Int.tdiv a0 64)))) % 256, (wrap64 (128 + (Int.tmod a0 64))) % 256] : List Int)) (inner := [.int .u8 ((wrap64 (192 + (wrap64 (Int.tdiv a0 64)))) % 256), .int .u8 ((wrap64 (128 + (Int.tmod a0 64))) % 256)]) (ok := fun _ => True) (okp := fun _ => True) ?hr ?hp (fun _ hk => hk) trivial (Below.refl _ _) (Nat.le_refl _) (by simp) ?_; (case hd => rfl); (case hg => rfl); (case hr => first | (go_simp; done) | (go_simp; rfl)); (case hp => exact (Reps.one (show Kd.M (Kd.int .u8) _ _ _ ((wrap64 (192 + (wrap64 (Int.tdiv a0 64)))) % 256) [.int .u8 ((wrap64 (192 + (wrap64 (Int.tdiv a0 64)))) % 256)] from rfl) (Reps.one (show Kd.M (Kd.int .u8) _ _ _ ((wrap64 (128 + (Int.tmod a0 64))) % 256) [.int .u8 ((wrap64 (128 + (Int.tmod a0 64))) % 256)] from rfl) (Reps.none _ _)))); intro v503 w11 ho12 hb hg_ hnew_; clear hg_ hnew_; (first | rw [← Ny502.out] at ho12 | (simp only [Int.reduceToNat] at ho12; rw [← Ny502.out] at ho12)); have n0_ := Sdq.mk (Kd.R_lower ho12 (below_size (by repeat (first | (with_reducible first | exact HB.out | apply bal | apply pbdN | apply bdr1) | exact HB.out)))); have n1_ := Sdq.mk (below_step (by repeat (first | (with_reducible first | exact HB.out | apply bal | apply pbdN | apply bdr1) | exact HB.out)) hb); clear HB; have HO504 := n0_; have HB := n1_; clear n0_ n1_; clear hb ho12))
      go_ret2
      exact ⟨_, by first | rfl | (simp [errW_none, errW_some] <;> rfl) | (simp [*, errW_none, errW_some] <;> rfl), by (with_reducible repeat (first | apply Kd.R_alloc | apply Kd.R_drewN | apply Kd.R_drew)); exact HO504.out, by repeat (first | (with_reducible first | exact HB.out | apply bal | apply pbdN | apply bdr1) | exact HB.out)⟩
     ·rw [if_neg c10] at H
      have c10b0 : decide (a0 < 2048) = false := decide_eq_false c10;clear c10;by_cases c13 : a0 < 65536
      ·rw [if_pos c13] at H
       have c13b0 : decide (a0 < 65536) = true := decide_eq_true c13;clear c13
       obtain ⟨y505, hy505⟩ : ∃ y_ : List Int, y_ = (([(wrap64 (224 + (wrap64 (Int.tdiv a0 4096)))) % 256, (wrap64 (128 + (Int.tmod (wrap64 (Int.tdiv a0 64)) 64))) % 256, (wrap64 (128 + (Int.tmod a0 64))) % 256] : List Int)) := ⟨_, rfl⟩
       replace H : (some (y505, 0)) = some (r1, r2) := by first | (rw [hy505]; with_reducible exact H) | (have H2_ := (Option.bind_some _ _).symm.trans H; rw [hy505]; with_reducible exact H2_) | (have H2_ := (Option.bind_some _ _).symm.trans H; with_reducible exact H2_) | with_reducible exact H | (rw [hy505]; exact H) | exact H
       have Ny505 := Sdq.mk hy505;clear hy505;simp only [Option.some.injEq, Prod.mk.injEq] at H;obtain ⟨rfl, rfl⟩ := H;go_wp2_with (first | ((with_reducible refine gate_dst (N := 49) rfl ?_); refine Kd.R_lit (Kd.int .u8) _ 5 ?hg (N := 49) ?hd (xs := ([(wrap64 (224 + (wrap64 (Int.tdiv a0 4096)))) % 256, (wrap64 (128 + (Int.tmod (wrap64 (Int.tdiv a0 64)) 64))) % 256, (wrap64 (128 + (Int.tmod a0 64))) % 256] : List Int)) (inner := [.int .u8 ((wrap64 (224 + (wrap64 (Int.tdiv a0 4096)))) % 256), .int .u8 ((wrap64 (128 + (Int.tmod (wrap64 (Int.tdiv a0 64)) 64))) % 256), .int .u8 ((wrap64 (128 + (Int.tmod a0 64))) % 256)]) (ok := fun _ => True) (okp := fun _ => True) ?hr ?hp (fun _ hk => hk) trivial (Below.refl _ _) (Nat.le_refl _) (by simp) ?_; (case hd => rfl); (case hg => rfl); (case hr => first | (go_simp; done) | (go_simp; rfl)); (case hp => exact (Reps.one (show Kd.M (Kd.int .u8) _ _ _ ((wrap64 (224 + (wrap64 (Int.tdiv a0 4096)))) % 256) [.int .u8 ((wrap64 (224 + (wrap64 (Int.tdiv a0 4096)))) % 256)] from rfl) (Reps.one (show Kd.M (Kd.int .u8) _ _ _ ((wrap64 (128 + (Int.tmod (wrap64 (Int.tdiv a0 64)) 64))) % 256) [.int .u8 ((wrap64 (128 + (Int.tmod (wrap64 (Int.tdiv a0 64)) 64))) % 256)] from rfl) (Reps.one (show Kd.M (Kd.int .u8) _ _ _ ((wrap64 (128 + (Int.tmod a0 64))) % 256) [.int .u8 ((wrap64 (128 + (Int.tmod a0 64))) % 256)] from rfl) (Reps.none _ _))))); intro v506 w14 ho15 hb hg_ hnew_; clear hg_ hnew_; (first | rw [← Ny505.out] at ho15 | (simp only [Int.reduceToNat] at ho15; rw [← Ny505.out] at ho15)); have n0_ := Sdq.mk (Kd.R_lower ho15 (below_size (by repeat (first | (with_reducible first | exact HB.out | apply bal | apply pbdN | apply bdr1) | exact HB.out)))); have n1_ := Sdq.mk (below_step (by repeat (first | (with_reducible first | exact HB.out | apply bal | apply pbdN | apply bdr1) | exact HB.out)) hb); clear HB; have HO507 := n0_; have HB := n1_; clear n0_ n1_; clear hb ho15))
       go_ret2
       exact ⟨_, by first | rfl | (simp [errW_none, errW_some] <;> rfl) | (simp [*, errW_none, errW_some] <;> rfl), by (with_reducible repeat (first | apply Kd.R_alloc | apply Kd.R_drewN | apply Kd.R_drew)); exact HO507.out, by repeat (first | (with_reducible first | exact HB.out | apply bal | apply pbdN | apply bdr1) | exact HB.out)⟩
      ·rw [if_neg c13] at H
       have c13b0 : decide (a0 < 65536) = false := decide_eq_false c13;clear c13
       obtain ⟨y508, hy508⟩ : ∃ y_ : List Int, y_ = (([(wrap64 (240 + (wrap64 (Int.tdiv a0 262144)))) % 256, (wrap64 (128 + (Int.tmod (wrap64 (Int.tdiv a0 4096)) 64))) % 256, (wrap64 (128 + (Int.tmod (wrap64 (Int.tdiv a0 64)) 64))) % 256, (wrap64 (128 + (Int.tmod a0 64))) % 256] : List Int)) := ⟨_, rfl⟩
       replace H : (some (y508, 0)) = some (r1, r2) := by first | (rw [hy508]; with_reducible exact H) | (have H2_ := (Option.bind_some _ _).symm.trans H; rw [hy508]; with_reducible exact H2_) | (have H2_ := (Option.bind_some _ _).symm.trans H; with_reducible exact H2_) | with_reducible exact H | (rw [hy508]; exact H) | exact H
       have Ny508 := Sdq.mk hy508;clear hy508;simp only [Option.some.injEq, Prod.mk.injEq] at H;obtain ⟨rfl, rfl⟩ := H;go_wp2_with (first | ((with_reducible refine gate_dst (N := 68) rfl ?_); refine Kd.R_lit (Kd.int .u8) _ 5 ?hg (N := 68) ?hd (xs := ([(wrap64 (240 + (wrap64 (Int.tdiv a0 262144)))) % 256, (wrap64 (128 + (Int.tmod (wrap64 (Int.tdiv a0 4096)) 64))) % 256, (wrap64 (128 + (Int.tmod (wrap64 (Int.tdiv a0 64)) 64))) % 256, (wrap64 (128 + (Int.tmod a0 64))) % 256] : List Int)) (inner := [.int .u8 ((wrap64 (240 + (wrap64 (Int.tdiv a0 262144)))) % 256), .int .u8 ((wrap64 (128 + (Int.tmod (wrap64 (Int.tdiv a0 4096)) 64))) % 256), .int .u8 ((wrap64 (128 + (Int.tmod (wrap64 (Int.tdiv a0 64)) 64))) % 256), .int .u8 ((wrap64 (128 + (Int.tmod a0 64))) % 256)]) (ok := fun _ => True) (okp := fun _ => True) ?hr ?hp (fun _ hk => hk) trivial (Below.refl _ _) (Nat.le_refl _) (by simp) ?_; (case hd => rfl); (case hg => rfl); (case hr => first | (go_simp; done) | (go_simp; rfl)); (case hp => exact (Reps.one (show Kd.M (Kd.int .u8) _ _ _ ((wrap64 (240 + (wrap64 (Int.tdiv a0 262144)))) % 256) [.int .u8 ((wrap64 (240 + (wrap64 (Int.tdiv a0 262144)))) % 256)] from rfl) (Reps.one (show Kd.M (Kd.int .u8) _ _ _ ((wrap64 (128 + (Int.tmod (wrap64 (Int.tdiv a0 4096)) 64))) % 256) [.int .u8 ((wrap64 (128 + (Int.tmod (wrap64 (Int.tdiv a0 4096)) 64))) % 256)] from rfl) (Reps.one (show Kd.M (Kd.int .u8) _ _ _ ((wrap64 (128 + (Int.tmod (wrap64 (Int.tdiv a0 64)) 64))) % 256) [.int .u8 ((wrap64 (128 + (Int.tmod (wrap64 (Int.tdiv a0 64)) 64))) % 256)] from rfl) (Reps.one (show Kd.M (Kd.int .u8) _ _ _ ((wrap64 (128 + (Int.tmod a0 64))) % 256) [.int .u8 ((wrap64 (128 + (Int.tmod a0 64))) % 256)] from rfl) (Reps.none _ _)))))); intro v509 w16 ho17 hb hg_ hnew_; clear hg_ hnew_; (first | rw [← Ny508.out] at ho17 | (simp only [Int.reduceToNat] at ho17; rw [← Ny508.out] at ho17)); have n0_ := Sdq.mk (Kd.R_lower ho17 (below_size (by repeat (first | (with_reducible first | exact HB.out | apply bal | apply pbdN | apply bdr1) | exact HB.out)))); have n1_ := Sdq.mk (below_step (by repeat (first | (with_reducible first | exact HB.out | apply bal | apply pbdN | apply bdr1) | exact HB.out)) hb); clear HB; have HO510 := n0_; have HB := n1_; clear n0_ n1_; clear hb ho17))
       go_ret2
       exact ⟨_, by first | rfl | (simp [errW_none, errW_some] <;> rfl) | (simp [*, errW_none, errW_some] <;> rfl), by (with_reducible repeat (first | apply Kd.R_alloc | apply Kd.R_drewN | apply Kd.R_drew)); exact HO510.out, by repeat (first | (with_reducible first | exact HB.out | apply bal | apply pbdN | apply bdr1) | exact HB.out)⟩
mutual
def R3q_One.l0 : Nat → List Int → Int → Int → Option (Int × Int)
 | 0, _, _, _ => none
 | k + 1, x0, x1, x6 => if x6 ≤ 4 then (R3q_One.j1 k x0 x1 x6 (decide ((wrap64 (x1 + x6)) ≤ (x0.length : Int)))) else (R3q_One.j1 k x0 x1 x6 false)
def R3q_One.j1 : Nat → List Int → Int → Int → Bool → Option (Int × Int)
 | 0, _, _, _, _ => none
 | k + 1, x0, x1, x6, x20 => if x20 = true then (if 0 ≤ x1 then (if x1 < (x0.length : Int) then (if x6 = 2 then (R3q_One.j2 k x0 x1 x6 (wrap64 ((wrap64 (rd x0 x1)) - 192))) else (R3q_One.j2 k x0 x1 x6 (wrap64 (rd x0 x1)))) else (none)) else (none)) else (some ((-1), 0))
def R3q_One.j2 : Nat → List Int → Int → Int → Int → Option (Int × Int)
 | 0, _, _, _, _ => none
 | k + 1, x0, x1, x6, x7 => if x6 = 3 then (R3q_One.j3 k x0 x1 x6 (wrap64 (x7 - 224))) else (R3q_One.j3 k x0 x1 x6 x7)
def R3q_One.j3 : Nat → List Int → Int → Int → Int → Option (Int × Int)
 | 0, _, _, _, _ => none
 | k + 1, x0, x1, x6, x7 => if x6 = 4 then (R3q_One.j4 k x0 x1 x6 (wrap64 (x7 - 240))) else (R3q_One.j4 k x0 x1 x6 x7)
def R3q_One.j4 : Nat → List Int → Int → Int → Int → Option (Int × Int)
 | 0, _, _, _, _ => none
 | k + 1, x0, x1, x6, x7 => R3q_One.l1 k x0 x1 x6 x7 1
def R3q_One.l1 : Nat → List Int → Int → Int → Int → Int → Option (Int × Int)
 | 0, _, _, _, _, _ => none
 | k + 1, x0, x1, x6, x7, x8 => if x8 < x6 then (if 0 ≤ (wrap64 (x1 + x8)) then (if (wrap64 (x1 + x8)) < (x0.length : Int) then (R3q_One.l1 k x0 x1 x6 (wrap64 ((wrap64 ((wrap64 (x7 * 64)) + (wrap64 (rd x0 (wrap64 (x1 + x8)))))) - 128)) (wrap64 (x8 + 1))) else (none)) else (none)) else ((R3q_Encode.f k x7).bind fun bt513 => (if bt513.2 = 0 then (if 0 ≤ x1 then (if x1 ≤ (wrap64 (x1 + x6)) then (if (wrap64 (x1 + x6)) ≤ (x0.length : Int) then (if (strOfNums bt513.1).toList = (strOfNums ((x0.take ((wrap64 (x1 + x6)) : Int).toNat).drop (x1 : Int).toNat)).toList then (some (x7, x6)) else (R3q_One.l0 k x0 x1 (wrap64 (x6 + 1)))) else (none)) else (none)) else (none)) else (R3q_One.l0 k x0 x1 (wrap64 (x6 + 1)))))
end
def R3q_One.f (k : Nat) (l0 : List Int) (a1 : Int) : Option (Int × Int) := R3q_One.l0 k l0 a1 1
set_option maxHeartbeats 8000000 in
set_option maxRecDepth 100000 in
theorem R3q_One.calls (k : Nat) (A0 : Option Addr) (c0 : Nat) (l0 : List Int) (a1 : Int) (r1 : Int) (r2 : Int) (w : World) (hr0 : Kd.C (Kd.int .u8) w A0 l0.length l0) (hc0 : l0.length ≤ c0) (h : R3q_One.f k l0 a1 = some (r1, r2)) :
  Calls Tryd.prog 85 #[.slice A0 l0.length c0, .int .i64 a1] w fun e w' => e = .returned (.tuple #[.int .i64 r1, .int .i64 r2]) ∧ Below w.heap.size w w' := by
 have HR0 := Sdq.mk hr0;have HC0 := Sdq.mk hc0;clear hr0 hc0;have HB := Sdq.mk (Below.refl w.heap.size w);have H : (R3q_One.l0 k l0 a1 1) = some (r1, r2) := h;clear h;have H' := Sdq.mk H;clear H;go_enter Tryd.func85, Tryd.ntmps85;go_wp2
 repeat (go_quiet (fail); try go_wp2)
 go_loopg [6] k (fun kq v6 w' => ∃ (x6_1 : Int), v6 = .int .i64 x6_1 ∧ Sdq (R3q_One.l0 kq l0 a1 x6_1 = some (r1, r2)) ∧ Sdq (kq ≤ k) ∧ Sdq (Below w.heap.size w w'))
 case atStart => exact ⟨(1), (by first | rfl | (simp; done) | (simp [*]; done)), H', ⟨Nat.le_refl _⟩, ⟨by repeat (first | (with_reducible first | exact HB.out | apply bal | apply pbdN | apply bdr1) | exact HB.out)⟩⟩
 case round =>
  clear H'
  try clear p2
  obtain ⟨x6_1, rfl, HA, HK1, HB⟩ := hrel
  cases gk with
  | zero => exact absurd HA.out (by simp [R3q_One.l0])
  | succ k1 =>
   have H := HA.out;clear HA;simp only [R3q_One.l0] at H;have HC3 := Sdq.mk H;clear H
   go_upto_region 2 with (fail)
   repeat (go_quiet (fail); go_upto_region 2 with (fail))
   go_cut [20] (fun v20 wc => ∃ (kq : Nat) (x20_2 : Bool), v20 = .bool x20_2 ∧ Sdq (R3q_One.j1 kq l0 a1 x6_1 x20_2 = some (r1, r2)) ∧ Sdq (kq ≤ k1) ∧ Sdq (Below w.heap.size w wc))
   case first =>
    have H := HC3.out;clear HC3;by_cases c4 : x6_1 ≤ 4
    ·rw [if_pos c4] at H
     have c4b0 : decide (x6_1 ≤ 4) = true := decide_eq_true c4;clear c4
     (first | rw [c4b0] | (simp only [i64_w, i32_w]; rw [c4b0]) | skip)
     have H' := Sdq.mk H;clear H;go_wp2
     repeat (go_quiet (fail); try go_wp2)
     go_meet
     case rel => exact ⟨_, (decide ((wrap64 (a1 + x6_1)) ≤ (l0.length : Int))), (by first | rfl | (simp; done) | (simp [*]; done)), H', ⟨by have := HK1.out; first | omega | exact Nat.le_refl _⟩, ⟨by repeat (first | (with_reducible first | exact HB.out | apply bal | apply pbdN | apply bdr1) | exact HB.out)⟩⟩
    ·rw [if_neg c4] at H
     have c4b0 : decide (x6_1 ≤ 4) = false := decide_eq_false c4;clear c4
     (first | rw [c4b0] | (simp only [i64_w, i32_w]; rw [c4b0]) | skip)
     have H' := Sdq.mk H;clear H;go_wp2
     repeat (go_quiet (fail); try go_wp2)
     go_meet
     case rel => exact ⟨_, (false), (by first | rfl | (simp; done) | (simp [*]; done)), H', ⟨by have := HK1.out; first | omega | exact Nat.le_refl _⟩, ⟨by repeat (first | (with_reducible first | exact HB.out | apply bal | apply pbdN | apply bdr1) | exact HB.out)⟩⟩
   case rest =>
    clear HC3
    try clear p2; try clear c4; try clear c4b0; try clear p2
    obtain ⟨kq, x20_2, rfl, HA, HJ2, HB⟩ := hcut
    cases kq with
    | zero => exact absurd HA.out (by simp [R3q_One.j1])
    | succ kj2 =>
     have H := HA.out;clear HA;simp only [R3q_One.j1] at H;by_cases c5 : x20_2 = true
     ·subst c5
      have H1 : (if 0 ≤ a1 then (if a1 < (l0.length : Int) then (if x6_1 = 2 then (R3q_One.j2 kj2 l0 a1 x6_1 (wrap64 ((wrap64 (rd l0 a1)) - 192))) else (R3q_One.j2 kj2 l0 a1 x6_1 (wrap64 (rd l0 a1)))) else (none)) else (none)) = some (r1, r2) := by rw [if_pos rfl] at H; exact H
      clear H;have H := H1;clear H1;by_cases c6 : 0 ≤ a1
      ·rw [if_pos c6] at H
       have c6b0 : decide (0 ≤ a1) = true := decide_eq_true c6;clear c6;by_cases c7 : a1 < (l0.length : Int)
       ·rw [if_pos c7] at H
        have c7b0 : decide (a1 < (l0.length : Int)) = true := decide_eq_true c7;clear c7;have HC8 := Sdq.mk H;clear H;have p511 : 0 ≤ (a1 : Int) := of_decide_eq_true (by assumption);have q511 : a1 < (l0.length : Int) := of_decide_eq_true (by assumption);obtain ⟨ad511, e511, hx511_0⟩ := Kd.at_int HR0.out a1 p511 q511;cases e511;replace hx511_0 := (HB.out.cell (World.block_lt_of_cell? w _ hx511_0)).trans hx511_0;replace p511 := eq_true p511;replace q511 := eq_true q511
        go_upto_if 29 with (fail)
        repeat (go_quiet (fail); go_upto_if 29 with (fail))
        go_cut [7] (fun v7 wc => ∃ (kq : Nat) (x7_7 : Int), v7 = .int .i64 x7_7 ∧ Sdq (R3q_One.j2 kq l0 a1 x6_1 x7_7 = some (r1, r2)) ∧ Sdq (kq ≤ kj2) ∧ Sdq (Below w.heap.size w wc))
        case first =>
         have H := HC8.out;clear HC8;by_cases c9 : x6_1 = 2
         ·rw [if_pos c9] at H
          have c9b0 : (x6_1 == 2) = true := beq_iff_eq.mpr c9;have c9b1 : (x6_1 != 2) = false := bne_eq_false_iff_eq.mpr c9;clear c9
          (first | rw [c9b0] | (simp only [i64_w, i32_w]; rw [c9b0]) | skip)
          have H' := Sdq.mk H;clear H;go_wp2
          repeat (go_quiet (fail); try go_wp2)
          go_meet
          case rel => exact ⟨_, (wrap64 ((wrap64 (rd l0 a1)) - 192)), (by first | rfl | (simp; done) | (simp [*]; done)), H', ⟨by have := HK1.out; have := HJ2.out; first | omega | exact Nat.le_refl _⟩, ⟨by repeat (first | (with_reducible first | exact HB.out | apply bal | apply pbdN | apply bdr1) | exact HB.out)⟩⟩
         ·rw [if_neg c9] at H
          have c9b0 : (x6_1 == 2) = false := beq_eq_false_iff_ne.mpr c9;have c9b1 : (x6_1 != 2) = true := bne_iff_ne.mpr c9
          (first | rw [c9b0] | (simp only [i64_w, i32_w]; rw [c9b0]) | skip)
          have H' := Sdq.mk H;clear H;go_wp2
          repeat (go_quiet (fail); try go_wp2)
          go_meet
          case rel => exact ⟨_, (wrap64 (rd l0 a1)), (by first | rfl | (simp; done) | (simp [*]; done)), H', ⟨by have := HK1.out; have := HJ2.out; first | omega | exact Nat.le_refl _⟩, ⟨by repeat (first | (with_reducible first | exact HB.out | apply bal | apply pbdN | apply bdr1) | exact HB.out)⟩⟩
        case rest =>
         clear HC8
         try clear p2; try clear c4; try clear c4b0; try clear c5; try clear p5; try clear q5; try clear hx5; try clear c6; try clear c6b0; try clear p6; try clear c7; try clear c7b0; try clear c8; try clear c9; try clear c9b0; try clear c9b1; try clear hx511_0; try clear p2; try clear p511; try clear q511
         obtain ⟨kq, x7_7, rfl, HA, HJ7, HB⟩ := hcut
         cases kq with
         | zero => exact absurd HA.out (by simp [R3q_One.j2])
         | succ kj7 =>
          have H := HA.out;clear HA;simp only [R3q_One.j2] at H;have HC10 := Sdq.mk H;clear H
          go_upto_if 33 with (fail)
          repeat (go_quiet (fail); go_upto_if 33 with (fail))
          go_cut [7] (fun v7 wc => ∃ (kq : Nat) (x7_9 : Int), v7 = .int .i64 x7_9 ∧ Sdq (R3q_One.j3 kq l0 a1 x6_1 x7_9 = some (r1, r2)) ∧ Sdq (kq ≤ kj7) ∧ Sdq (Below w.heap.size w wc))
          case first =>
           have H := HC10.out;clear HC10;by_cases c11 : x6_1 = 3
           ·rw [if_pos c11] at H
            have c11b0 : (x6_1 == 3) = true := beq_iff_eq.mpr c11;have c11b1 : (x6_1 != 3) = false := bne_eq_false_iff_eq.mpr c11;clear c11
            (first | rw [c11b0] | (simp only [i64_w, i32_w]; rw [c11b0]) | skip)
            have H' := Sdq.mk H;clear H;go_wp2
            repeat (go_quiet (fail); try go_wp2)
            go_meet
            case rel => exact ⟨_, (wrap64 (x7_7 - 224)), (by first | rfl | (simp; done) | (simp [*]; done)), H', ⟨by have := HK1.out; have := HJ2.out; have := HJ7.out; first | omega | exact Nat.le_refl _⟩, ⟨by repeat (first | (with_reducible first | exact HB.out | apply bal | apply pbdN | apply bdr1) | exact HB.out)⟩⟩
           ·rw [if_neg c11] at H
            have c11b0 : (x6_1 == 3) = false := beq_eq_false_iff_ne.mpr c11;have c11b1 : (x6_1 != 3) = true := bne_iff_ne.mpr c11
            (first | rw [c11b0] | (simp only [i64_w, i32_w]; rw [c11b0]) | skip)
            have H' := Sdq.mk H;clear H;go_wp2
            repeat (go_quiet (fail); try go_wp2)
            go_meet
            case rel => exact ⟨_, (x7_7), (by first | rfl | (simp; done) | (simp [*]; done)), H', ⟨by have := HK1.out; have := HJ2.out; have := HJ7.out; first | omega | exact Nat.le_refl _⟩, ⟨by repeat (first | (with_reducible first | exact HB.out | apply bal | apply pbdN | apply bdr1) | exact HB.out)⟩⟩
          case rest =>
           clear HC10
           try clear c1; try clear p2; try clear c4; try clear c4b0; try clear c5; try clear p5; try clear q5; try clear hx5; try clear c6; try clear c6b0; try clear p6; try clear c7; try clear c7b0; try clear c8; try clear c9; try clear c9b0; try clear c9b1; try clear c11; try clear c11b0; try clear c11b1; try clear hx511_0; try clear p2; try clear p5; try clear p511; try clear p6; try clear q5; try clear q511
           obtain ⟨kq, x7_9, rfl, HA, HJ9, HB⟩ := hcut
           cases kq with
           | zero => exact absurd HA.out (by simp [R3q_One.j3])
           | succ kj9 =>
            have H := HA.out;clear HA;simp only [R3q_One.j3] at H;have HC12 := Sdq.mk H;clear H
            go_upto_if 37 with (fail)
            repeat (go_quiet (fail); go_upto_if 37 with (fail))
            go_cut [7] (fun v7 wc => ∃ (kq : Nat) (x7_11 : Int), v7 = .int .i64 x7_11 ∧ Sdq (R3q_One.j4 kq l0 a1 x6_1 x7_11 = some (r1, r2)) ∧ Sdq (kq ≤ kj9) ∧ Sdq (Below w.heap.size w wc))
            case first =>
             have H := HC12.out;clear HC12;by_cases c13 : x6_1 = 4
             ·rw [if_pos c13] at H
              have c13b0 : (x6_1 == 4) = true := beq_iff_eq.mpr c13;have c13b1 : (x6_1 != 4) = false := bne_eq_false_iff_eq.mpr c13;clear c13
              (first | rw [c13b0] | (simp only [i64_w, i32_w]; rw [c13b0]) | skip)
              have H' := Sdq.mk H;clear H;go_wp2
              repeat (go_quiet (fail); try go_wp2)
              go_meet
              case rel => exact ⟨_, (wrap64 (x7_9 - 240)), (by first | rfl | (simp; done) | (simp [*]; done)), H', ⟨by have := HK1.out; have := HJ2.out; have := HJ7.out; have := HJ9.out; first | omega | exact Nat.le_refl _⟩, ⟨by repeat (first | (with_reducible first | exact HB.out | apply bal | apply pbdN | apply bdr1) | exact HB.out)⟩⟩
             ·rw [if_neg c13] at H
              have c13b0 : (x6_1 == 4) = false := beq_eq_false_iff_ne.mpr c13;have c13b1 : (x6_1 != 4) = true := bne_iff_ne.mpr c13
              (first | rw [c13b0] | (simp only [i64_w, i32_w]; rw [c13b0]) | skip)
              have H' := Sdq.mk H;clear H;go_wp2
              repeat (go_quiet (fail); try go_wp2)
              go_meet
              case rel => exact ⟨_, (x7_9), (by first | rfl | (simp; done) | (simp [*]; done)), H', ⟨by have := HK1.out; have := HJ2.out; have := HJ7.out; have := HJ9.out; first | omega | exact Nat.le_refl _⟩, ⟨by repeat (first | (with_reducible first | exact HB.out | apply bal | apply pbdN | apply bdr1) | exact HB.out)⟩⟩
            case rest =>
             clear HC12
             try clear c1; try clear p2; try clear c4; try clear c4b0; try clear c5; try clear p5; try clear q5; try clear hx5; try clear c6; try clear c6b0; try clear p6; try clear c7; try clear c7b0; try clear c8; try clear c9; try clear c9b0; try clear c9b1; try clear c11; try clear c11b0; try clear c11b1; try clear c13; try clear c13b0; try clear c13b1; try clear hx511_0; try clear p2; try clear p5; try clear p511; try clear p6; try clear q5; try clear q511
             obtain ⟨kq, x7_11, rfl, HA, HJ11, HB⟩ := hcut
             cases kq with
             | zero => exact absurd HA.out (by simp [R3q_One.j4])
             | succ kj11 =>
              have H := HA.out;clear HA;simp only [R3q_One.j4] at H;have H' := Sdq.mk H;clear H;go_wp2
              repeat (go_quiet (fail); try go_wp2)
              go_loopg [7, 8] kj11 (fun kq v7 v8 w' => ∃ (x7_6 : Int) (x8_6 : Int), v7 = .int .i64 x7_6 ∧ v8 = .int .i64 x8_6 ∧ Sdq (R3q_One.l1 kq l0 a1 x6_1 x7_6 x8_6 = some (r1, r2)) ∧ Sdq (kq ≤ kj11) ∧ Sdq (Below w.heap.size w w'))
              case atStart => exact ⟨(x7_11), (1), (by first | rfl | (simp; done) | (simp [*]; done)), (by first | rfl | (simp; done) | (simp [*]; done)), H', ⟨Nat.le_refl _⟩, ⟨by repeat (first | (with_reducible first | exact HB.out | apply bal | apply pbdN | apply bdr1) | exact HB.out)⟩⟩
              case round =>
               clear H'
               try clear c1; try clear p2; try clear c4; try clear c4b0; try clear c5; try clear p5; try clear q5; try clear hx5; try clear c6; try clear c6b0; try clear p6; try clear c7; try clear c7b0; try clear c8; try clear c9; try clear c9b0; try clear c9b1; try clear c11; try clear c11b0; try clear c11b1; try clear c13; try clear c13b0; try clear c13b1; try clear hx511_0; try clear p2; try clear p5; try clear p511; try clear p6; try clear q5; try clear q511
               obtain ⟨x7_6, x8_6, rfl, rfl, HA, HK6, HB⟩ := hrel
               cases gk with
               | zero => exact absurd HA.out (by simp [R3q_One.l1])
               | succ k6 =>
                have H := HA.out;clear HA;simp only [R3q_One.l1] at H;by_cases c14 : x8_6 < x6_1
                ·rw [if_pos c14] at H
                 have c14b0 : decide (x8_6 < x6_1) = true := decide_eq_true c14;clear c14
                 obtain ⟨ji15, hji15⟩ : ∃ j_ : Int, (wrap64 (a1 + x8_6)) = j_ := ⟨_, rfl⟩
                 replace H : (if 0 ≤ (ji15) then (if (ji15) < (l0.length : Int) then (R3q_One.l1 k6 l0 a1 x6_1 (wrap64 ((wrap64 ((wrap64 (x7_6 * 64)) + (wrap64 (rd l0 (ji15))))) - 128)) (wrap64 (x8_6 + 1))) else (none)) else (none)) = some (r1, r2) := by first | (rw [hji15] at H; exact H) | (simp only [hji15] at H ⊢; exact H)
                 have hji15w : (IntKind.i64.wrap (a1 + x8_6)) = ji15 := (i64_w _).trans hji15;by_cases c16 : 0 ≤ (ji15)
                 ·rw [if_pos c16] at H
                  have c16b0 : decide (0 ≤ (ji15)) = true := decide_eq_true c16;clear c16;by_cases c17 : (ji15) < (l0.length : Int)
                  ·rw [if_pos c17] at H
                   have c17b0 : decide ((ji15) < (l0.length : Int)) = true := decide_eq_true c17;clear c17;have H' := Sdq.mk H;clear H;have p512 : 0 ≤ ((ji15) : Int) := of_decide_eq_true (by assumption);have q512 : (ji15) < (l0.length : Int) := of_decide_eq_true (by assumption);obtain ⟨ad512, e512, hx512_0⟩ := Kd.at_int HR0.out (ji15) p512 q512
                   obtain rfl : ad511 = ad512 := (by injection e512)
                   replace hx512_0 := (HB.out.cell (World.block_lt_of_cell? w _ hx512_0)).trans hx512_0;replace p512 := eq_true p512;replace q512 := eq_true q512;go_wp2
                   repeat (go_quiet (fail); try go_wp2)
                   go_roundg k6
                   case measure => have := HK1.out; have := HJ2.out; have := HJ7.out; have := HJ9.out; have := HJ11.out; have := HK6.out; omega
                   case rel => exact ⟨(wrap64 ((wrap64 ((wrap64 (x7_6 * 64)) + (wrap64 (rd l0 (ji15))))) - 128)), (wrap64 (x8_6 + 1)), (by first | rfl | (simp; done) | (simp only [← hji15] <;> (first | rfl | simp)) | (simp [*]; done)), (by first | rfl | (simp; done) | (simp [*]; done)), H', ⟨by have := HK1.out; have := HJ2.out; have := HJ7.out; have := HJ9.out; have := HJ11.out; have := HK6.out; omega⟩, ⟨by repeat (first | (with_reducible first | exact HB.out | apply bal | apply pbdN | apply bdr1) | exact HB.out)⟩⟩
                  ·rw [if_neg c17] at H
                   exact absurd H (by simp)
                 ·rw [if_neg c16] at H
                  exact absurd H (by simp)
                ·rw [if_neg c14] at H
                 have c14b0 : decide (x8_6 < x6_1) = false := decide_eq_false c14;clear c14;replace H := Option.bind_eq_some_iff.mp H;obtain ⟨⟨t513, t514⟩, A180, H⟩ := H;replace H : (if t514 = 0 then (if 0 ≤ a1 then (if a1 ≤ (wrap64 (a1 + x6_1)) then (if (wrap64 (a1 + x6_1)) ≤ (l0.length : Int) then (if (strOfNums t513).toList = (strOfNums ((l0.take ((wrap64 (a1 + x6_1)) : Int).toNat).drop (a1 : Int).toNat)).toList then (some (x7_6, x6_1)) else (R3q_One.l0 k6 l0 a1 (wrap64 (x6_1 + 1)))) else (none)) else (none)) else (none)) else (R3q_One.l0 k6 l0 a1 (wrap64 (x6_1 + 1)))) = some (r1, r2) := H;have A18 := Sdq.mk A180;clear A180;by_cases c19 : t514 = 0
                 ·rw [if_pos c19] at H
                  have c19b0 : (t514 == 0) = true := beq_iff_eq.mpr c19;have c19b1 : (t514 != 0) = false := bne_eq_false_iff_eq.mpr c19;clear c19;by_cases c20 : 0 ≤ a1
                  ·rw [if_pos c20] at H
                   have c20b0 := eq_true c20;have c20b1 : decide (0 ≤ a1) = true := decide_eq_true c20;clear c20;by_cases c21 : a1 ≤ (wrap64 (a1 + x6_1))
                   ·rw [if_pos c21] at H
                    have c21b0 := eq_true c21;have c21b1 : decide (a1 ≤ (wrap64 (a1 + x6_1))) = true := decide_eq_true c21;by_cases c22 : (wrap64 (a1 + x6_1)) ≤ (l0.length : Int)
                    ·rw [if_pos c22] at H
                     have c22b0 := eq_true c22;have c22b1 : decide ((wrap64 (a1 + x6_1)) ≤ (l0.length : Int)) = true := decide_eq_true c22;by_cases c23 : (strOfNums t513).toList = (strOfNums ((l0.take ((wrap64 (a1 + x6_1)) : Int).toNat).drop (a1 : Int).toNat)).toList
                     ·rw [if_pos c23] at H
                      have c23b0 : ((strOfNums t513).toList == (strOfNums ((l0.take ((wrap64 (a1 + x6_1)) : Int).toNat).drop (a1 : Int).toNat)).toList) = true := beq_iff_eq.mpr c23;have c23b1 : ((strOfNums t513).toList != (strOfNums ((l0.take ((wrap64 (a1 + x6_1)) : Int).toNat).drop (a1 : Int).toNat)).toList) = false := bne_eq_false_iff_eq.mpr c23;clear c23;simp only [Option.some.injEq, Prod.mk.injEq] at H;obtain ⟨rfl, rfl⟩ := H;go_wp2_with (first | (go_at_call 106; (with_reducible refine (R3q_Encode.calls k6 x7_6 t513 t514 _ A18.out).mono ?_); rintro e w24 ⟨v515, rfl, ho0, hb⟩; have n0_ := Sdq.mk (Kd.R_lower ho0 (below_size (by repeat (first | (with_reducible first | exact HB.out | apply bal | apply pbdN | apply bdr1) | exact HB.out)))); have n1_ := Sdq.mk (below_step (by repeat (first | (with_reducible first | exact HB.out | apply bal | apply pbdN | apply bdr1) | exact HB.out)) hb); clear HB; have HO516 := n0_; have HB := n1_; clear n0_ n1_; (try clear hb); (try clear hb2); (try clear hk); (try clear hi); (try clear ho0); have hcv25 := own_string (P := Tryd.prog) Tryd.underlying35 Tryd.underlying5 Tryd.underlying9 (Kd.own_of_R HO516.out); obtain ⟨i026, hi026, _, hsz26, _⟩ := info_parts info5; obtain ⟨A26, hcut26, hA26, hC26⟩ := print_mid_of (P := Tryd.prog) (Value.int .u8) 0 35 5 .i64 .i64 Tryd.underlying35 hi026 hsz26 (some ad511) c0 l0 a1 (wrap64 (a1 + x6_1)) (of_decide_eq_true (by assumption)) (by first | omega | exact of_decide_eq_true (by assumption)) (of_decide_eq_true (by assumption)) HC0.out; have HR517 := Sdq.mk (Kd.C_of_reads (h1 := fun _ => rfl) (hA26 _ (Kd.reads_of_C HR0.out))); have HC517 := Sdq.mk hC26; clear hA26 hC26 hi026 hsz26; have hcv27 := Kd.C_string (P := Tryd.prog) (A := A26) (c := (c0 - a1.toNat)) Tryd.underlying35 Tryd.underlying5 Tryd.underlying9 (Kd.C_below HR517.out HB.out)));generalize hL_ : ((l0.take ((wrap64 (a1 + x6_1)) : Int).toNat).drop (a1 : Int).toNat) = L_ at *;clear hL_;have hwr_ := IntWalk.i64_left (a1 + x6_1);have hS_ := Sdq.mk (show ∀ W, Below w24.heap.size w24 W → ((convert 35 9 v515).run Tryd.prog W = .ok (.string (strOfNums t513)) W ∧ (convert 35 9 (.slice A26 L_.length (c0 - a1.toNat))).run Tryd.prog W = .ok (.string (strOfNums L_)) W) from fun W h_ => ⟨own_string (P := Tryd.prog) Tryd.underlying35 Tryd.underlying5 Tryd.underlying9 (Kd.own_of_R (Kd.R_below HO516.out h_)), Kd.C_string (P := Tryd.prog) (c := (c0 - a1.toNat)) Tryd.underlying35 Tryd.underlying5 Tryd.underlying9 (Kd.C_below (Kd.C_below HR517.out HB.out) h_)⟩)
                      go_region_held3 (fun W => ((convert 35 9 v515).run Tryd.prog W = .ok (.string (strOfNums t513)) W ∧ (convert 35 9 (.slice A26 L_.length (c0 - a1.toNat))).run Tryd.prog W = .ok (.string (strOfNums L_)) W)) (exact hS_.out _ (by first | exact below_drew (Below.refl _ _) | assumption)) (fail)
                      try go_wp2_with fail
                      go_ret2
                      exact ⟨by first | rfl | (simp [errW_none, errW_some] <;> rfl) | (simp [*, errW_none, errW_some] <;> rfl), by repeat (first | (with_reducible first | exact HB.out | apply bal | apply pbdN | apply bdr1) | exact HB.out)⟩
                     ·rw [if_neg c23] at H
                      have c23b0 : ((strOfNums t513).toList == (strOfNums ((l0.take ((wrap64 (a1 + x6_1)) : Int).toNat).drop (a1 : Int).toNat)).toList) = false := beq_eq_false_iff_ne.mpr c23;have c23b1 : ((strOfNums t513).toList != (strOfNums ((l0.take ((wrap64 (a1 + x6_1)) : Int).toNat).drop (a1 : Int).toNat)).toList) = true := bne_iff_ne.mpr c23;have H' := Sdq.mk H;clear H;go_wp2_with (first | (go_at_call 106; (with_reducible refine (R3q_Encode.calls k6 x7_6 t513 t514 _ A18.out).mono ?_); rintro e w28 ⟨v515, rfl, ho0, hb⟩; have n0_ := Sdq.mk (Kd.R_lower ho0 (below_size (by repeat (first | (with_reducible first | exact HB.out | apply bal | apply pbdN | apply bdr1) | exact HB.out)))); have n1_ := Sdq.mk (below_step (by repeat (first | (with_reducible first | exact HB.out | apply bal | apply pbdN | apply bdr1) | exact HB.out)) hb); clear HB; have HO516 := n0_; have HB := n1_; clear n0_ n1_; (try clear hb); (try clear hb2); (try clear hk); (try clear hi); (try clear ho0); have hcv29 := own_string (P := Tryd.prog) Tryd.underlying35 Tryd.underlying5 Tryd.underlying9 (Kd.own_of_R HO516.out); obtain ⟨i030, hi030, _, hsz30, _⟩ := info_parts info5; obtain ⟨A30, hcut30, hA30, hC30⟩ := print_mid_of (P := Tryd.prog) (Value.int .u8) 0 35 5 .i64 .i64 Tryd.underlying35 hi030 hsz30 (some ad511) c0 l0 a1 (wrap64 (a1 + x6_1)) (of_decide_eq_true (by assumption)) (by first | omega | exact of_decide_eq_true (by assumption)) (of_decide_eq_true (by assumption)) HC0.out; have HR517 := Sdq.mk (Kd.C_of_reads (h1 := fun _ => rfl) (hA30 _ (Kd.reads_of_C HR0.out))); have HC517 := Sdq.mk hC30; clear hA30 hC30 hi030 hsz30; have hcv31 := Kd.C_string (P := Tryd.prog) (A := A30) (c := (c0 - a1.toNat)) Tryd.underlying35 Tryd.underlying5 Tryd.underlying9 (Kd.C_below HR517.out HB.out)));generalize hL_ : ((l0.take ((wrap64 (a1 + x6_1)) : Int).toNat).drop (a1 : Int).toNat) = L_ at *;clear hL_;have hwr_ := IntWalk.i64_left (a1 + x6_1);have hS_ := Sdq.mk (show ∀ W, Below w28.heap.size w28 W → ((convert 35 9 v515).run Tryd.prog W = .ok (.string (strOfNums t513)) W ∧ (convert 35 9 (.slice A30 L_.length (c0 - a1.toNat))).run Tryd.prog W = .ok (.string (strOfNums L_)) W) from fun W h_ => ⟨own_string (P := Tryd.prog) Tryd.underlying35 Tryd.underlying5 Tryd.underlying9 (Kd.own_of_R (Kd.R_below HO516.out h_)), Kd.C_string (P := Tryd.prog) (c := (c0 - a1.toNat)) Tryd.underlying35 Tryd.underlying5 Tryd.underlying9 (Kd.C_below (Kd.C_below HR517.out HB.out) h_)⟩)
                      go_region_held3 (fun W => ((convert 35 9 v515).run Tryd.prog W = .ok (.string (strOfNums t513)) W ∧ (convert 35 9 (.slice A30 L_.length (c0 - a1.toNat))).run Tryd.prog W = .ok (.string (strOfNums L_)) W)) (exact hS_.out _ (by first | exact below_drew (Below.refl _ _) | assumption)) (fail)
                      try go_wp2_with fail
                      go_roundg k6
                      case measure => have := HK1.out; have := HJ2.out; have := HJ7.out; have := HJ9.out; have := HJ11.out; have := HK6.out; omega
                      case rel => exact ⟨(wrap64 (x6_1 + 1)), (by first | rfl | (simp; done) | (simp [*]; done)), H', ⟨by have := HK1.out; have := HJ2.out; have := HJ7.out; have := HJ9.out; have := HJ11.out; have := HK6.out; omega⟩, ⟨by repeat (first | (with_reducible first | exact HB.out | apply bal | apply pbdN | apply bdr1) | exact HB.out)⟩⟩
                    ·rw [if_neg c22] at H
                     exact absurd H (by simp)
                   ·rw [if_neg c21] at H
                    exact absurd H (by simp)
                  ·rw [if_neg c20] at H
                   exact absurd H (by simp)
                 ·rw [if_neg c19] at H
                  have c19b0 : (t514 == 0) = false := beq_eq_false_iff_ne.mpr c19;have c19b1 : (t514 != 0) = true := bne_iff_ne.mpr c19;have H' := Sdq.mk H;clear H;go_wp2_with (first | (go_at_call 106; (with_reducible refine (R3q_Encode.calls k6 x7_6 t513 t514 _ A18.out).mono ?_); rintro e w32 ⟨v515, rfl, ho0, hb⟩; have n0_ := Sdq.mk (Kd.R_lower ho0 (below_size (by repeat (first | (with_reducible first | exact HB.out | apply bal | apply pbdN | apply bdr1) | exact HB.out)))); have n1_ := Sdq.mk (below_step (by repeat (first | (with_reducible first | exact HB.out | apply bal | apply pbdN | apply bdr1) | exact HB.out)) hb); clear HB; have HO516 := n0_; have HB := n1_; clear n0_ n1_; (try clear hb); (try clear hb2); (try clear hk); (try clear hi); (try clear ho0)))
                  repeat (go_quiet (first | (go_at_call 106; (with_reducible refine (R3q_Encode.calls k6 x7_6 t513 t514 _ A18.out).mono ?_); rintro e w32 ⟨v515, rfl, ho0, hb⟩; have n0_ := Sdq.mk (Kd.R_lower ho0 (below_size (by repeat (first | (with_reducible first | exact HB.out | apply bal | apply pbdN | apply bdr1) | exact HB.out)))); have n1_ := Sdq.mk (below_step (by repeat (first | (with_reducible first | exact HB.out | apply bal | apply pbdN | apply bdr1) | exact HB.out)) hb); clear HB; have HO516 := n0_; have HB := n1_; clear n0_ n1_; (try clear hb); (try clear hb2); (try clear hk); (try clear hi); (try clear ho0))); try go_wp2_with (first | (go_at_call 106; (with_reducible refine (R3q_Encode.calls k6 x7_6 t513 t514 _ A18.out).mono ?_); rintro e w32 ⟨v515, rfl, ho0, hb⟩; have n0_ := Sdq.mk (Kd.R_lower ho0 (below_size (by repeat (first | (with_reducible first | exact HB.out | apply bal | apply pbdN | apply bdr1) | exact HB.out)))); have n1_ := Sdq.mk (below_step (by repeat (first | (with_reducible first | exact HB.out | apply bal | apply pbdN | apply bdr1) | exact HB.out)) hb); clear HB; have HO516 := n0_; have HB := n1_; clear n0_ n1_; (try clear hb); (try clear hb2); (try clear hk); (try clear hi); (try clear ho0))))
                  go_roundg k6
                  case measure => have := HK1.out; have := HJ2.out; have := HJ7.out; have := HJ9.out; have := HJ11.out; have := HK6.out; omega
                  case rel => exact ⟨(wrap64 (x6_1 + 1)), (by first | rfl | (simp; done) | (simp [*]; done)), H', ⟨by have := HK1.out; have := HJ2.out; have := HJ7.out; have := HJ9.out; have := HJ11.out; have := HK6.out; omega⟩, ⟨by repeat (first | (with_reducible first | exact HB.out | apply bal | apply pbdN | apply bdr1) | exact HB.out)⟩⟩
       ·rw [if_neg c7] at H
        exact absurd H (by simp)
      ·rw [if_neg c6] at H
       exact absurd H (by simp)
     ·replace c5 := Bool.eq_false_iff.mpr c5
      subst c5
      have H1 : (some ((-1), 0)) = some (r1, r2) := by rw [if_neg (show ¬ (false = true) by decide)] at H; exact H
      clear H;have H := H1;clear H1;simp only [Option.some.injEq, Prod.mk.injEq] at H;obtain ⟨rfl, rfl⟩ := H;go_wp2
      repeat (go_quiet (fail); try go_wp2)
      go_ret2
      exact ⟨by first | rfl | (simp [errW_none, errW_some] <;> rfl) | (simp [*, errW_none, errW_some] <;> rfl), by repeat (first | (with_reducible first | exact HB.out | apply bal | apply pbdN | apply bdr1) | exact HB.out)⟩
end Go.Proofs.YteighppcdpaekaaDoor.P
end
