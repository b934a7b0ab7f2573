/- Walks and words of this session, put together by a program of this session (pack.py). Conditions: as each text says. -/
import Derived.Test.YthpgjgmaamcaoaaDoorE1
import Derived.Test.YthpgjgmaamcaoaaDoorE2
set_option linter.unusedVariables false
set_option linter.unusedSimpArgs false
section
namespace Go.Proofs.YthpgjgmaamcaoaaDoor.P
open Go.RowKit Go.Shelf Go.Proofs.YthpgjgmaamcaoaaDoorW.PrintWords Go.Proofs.YthpgjgmaamcaoaaDoorW.PrintLast Go.Proofs.YthpgjgmaamcaoaaDoorW.PrintMore Go.Proofs.YthpgjgmaamcaoaaDoor.Nm
set_option linter.unusedVariables false
set_option linter.unusedSimpArgs false
theorem add_stepB {B : Int} {ds xs ys : List Int} {c : Int} (h : val B ds + B ^ ds.length * c = val B (xs.take ds.length) + val B (ys.take ds.length)) :
  val B (ds ++ [(xs.getD ds.length 0 + ys.getD ds.length 0 + c) % B]) + B ^ (ds.length + 1) * ((xs.getD ds.length 0 + ys.getD ds.length 0 + c) / B) = val B (xs.take (ds.length + 1)) + val B (ys.take (ds.length + 1)) := by
 rw [val_take_succ, val_take_succ, val_snoc, Int.pow_succ];generalize xs.getD ds.length 0 = x;generalize ys.getD ds.length 0 = y;generalize B ^ ds.length = P at *;have e := Int.emod_add_mul_ediv (x + y + c) B;generalize (x + y + c) % B = r at *;generalize (x + y + c) / B = q at *
 have e' : P * r + P * B * q = P * (x + y + c) := by rw [← e, Int.mul_add, Int.mul_assoc]
 rw [Int.mul_add, Int.mul_add] at e'
 omega
theorem getD_none {l : List Int} {k : Nat} (h : l.length ≤ k) : l.getD k 0 = 0 := by simp [List.getD_eq_getElem?_getD, List.getElem?_eq_none h]
theorem getD_some {l : List Int} {k : Nat} (h : k < l.length) : l[k] = l.getD k 0 := by simp [List.getD_eq_getElem?_getD, h]
set_option maxRecDepth 100000 in
theorem r1_Add (ok : Nat → Prop) (u v : Value) (xs ys : List Int) (w : World) (hok : ∀ k, w.heap.size ≤ k → ok k) (h : Cv (Kd.int .i64) (fun _ => True) w u xs) (h' : Cv (Kd.int .i64) (fun _ => True) w v ys) (dx : Dg 10 xs) (dy : Dg 10 ys) (lx : xs.length ≤ 1000000) (ly : ys.length ≤ 1000000) :
  Calls Tryd.prog 81 #[u, v] w (CPost (Kd.int .i64) ok w (dig 10 (val 10 xs + val 10 ys))) := by
 obtain ⟨A, c, rfl, hc, hF⟩ := h;obtain ⟨B, d, rfl, hd, hG⟩ := h';have ra := Sdq.mk (row_of hF);have rb := Sdq.mk (row_of hG);have hok := Sdq.mk hok;have Dx := Sdq.mk dx;have Dy := Sdq.mk dy
 obtain ⟨n, hn⟩ : ∃ n : Int, n = val 10 xs + val 10 ys := ⟨_, rfl⟩
 rw [← hn];have hn := Sdq.mk hn
 obtain ⟨M, hM1, hM2, hM3⟩ : ∃ M : Nat, xs.length ≤ M ∧ ys.length ≤ M ∧ M ≤ 1000000 := ⟨max xs.length ys.length, by omega, by omega, by omega⟩
 clear hF hG hc hd dx dy;go_enter Tryd.func81, Tryd.ntmps81;go_wp2
 go_loopg [5, 6, 7] (M + 1) (fun gk s5 s6 s7 wr => ∃ (ds : List Int) (cr : Int) (v5 : Value), gk + ds.length = M + 1 ∧ s5 = v5 ∧ s6 = .int .i64 cr ∧ s7 = .int .i64 ds.length ∧ 0 ≤ cr ∧ cr ≤ 1 ∧ (ds.length = M + 1 → cr = 0) ∧ Sdq (Dg 10 ds ∧ val 10 ds + 10 ^ ds.length * cr = val 10 (xs.take ds.length) + val 10 (ys.take ds.length)) ∧ Sdq (wr.ownsRow w.heap.size 3 1 v5 ds.length (nums .i64 ds)) ∧ Sdq (Below w.heap.size w wr))
 case atStart => exact ⟨[], 0, .slice none 0 0, rfl, rfl, rfl, rfl, by omega, by omega, fun _ => rfl, ⟨Dg.nil, by simp⟩, ⟨⟨rfl, .inl ⟨rfl, rfl⟩⟩⟩, ⟨Below.refl _ _⟩⟩
 case round =>
  obtain ⟨ds, cr, v5, hg, rfl, rfl, rfl, c0, c1, cM, hv, ho, hb⟩ := hrel;by_cases hend : ¬ ds.length < xs.length ∧ ¬ ds.length < ys.length ∧ cr = 0
  ·obtain ⟨h1, h2, rfl⟩ := hend
   have hT : Sdq (Cv (Kd.int .i64) (fun _ => True) wr u5 ds) := ⟨own_cv ho.out (by omega) (fun _ _ => trivial)⟩
   have hres := Sdq.mk (show trim ds = dig 10 n by
    have h3 := hv.out.2;rw [Int.mul_zero, Int.add_zero, List.take_of_length_le (by omega), List.take_of_length_le (by omega), ← hn.out] at h3
    rw [trim_dig (by decide) hv.out.1, h3])
   have hlt : ds.length ≤ 2000000 := by omega
   have hx1 : ¬ ((ds.length : Int) < (xs.length : Int)) := by omega
   have hy1 : ¬ ((ds.length : Int) < (ys.length : Int)) := by omega
   have hTr := Sdq.mk (r1_Trim (fun k => wr.heap.size ≤ k) wr (fun _ h => h) _ _ hT.out hlt);have hok2 := Sdq.mk (fun k (hk : wr.heap.size ≤ k) => hok.out k (Nat.le_trans hb.out.size hk));clear hv ho cM hn;go_wp2_with (go_at_call 87; refine hTr.out.mono ?_; rintro e w' ⟨v, rfl, hv, hb2⟩);go_ret;exact ⟨_, rfl, by rw [← hres.out]; exact hv.mono hok2.out, below_step hb.out hb2⟩
  ·have hgk : ds.length ≤ M := by
    refine Classical.byContradiction fun hc => hend ⟨by omega, by omega, cM (by omega)⟩
   obtain ⟨j, rfl⟩ : ∃ j, gk = j + 1 := ⟨gk - 1, by omega⟩
   have hst := add_stepB (B := 10) (xs := xs) (ys := ys) hv.out.2;have hxd := dg_getD (by decide) Dx.out ds.length;have hyd := dg_getD (by decide) Dy.out ds.length
   have hx0 : ¬ ds.length < xs.length → xs.getD ds.length 0 = 0 := fun h => getD_none (by omega)
   have hy0 : ¬ ds.length < ys.length → ys.getD ds.length 0 = 0 := fun h => getD_none (by omega)
   have hxc : ds.length < xs.length → ∃ ad, A = some ad ∧ wr.cell? (ad.add ds.length) = some (.int .i64 (xs.getD ds.length 0)) := fun h => by
    obtain ⟨ad, rfl, hc⟩ := row_some (ra.out.below hb.out) h;exact ⟨ad, rfl, by rw [hc _ h, getD_some h]⟩
   have hyc : ds.length < ys.length → ∃ bd, B = some bd ∧ wr.cell? (bd.add ds.length) = some (.int .i64 (ys.getD ds.length 0)) := fun h => by
    obtain ⟨ad, rfl, hc⟩ := row_some (rb.out.below hb.out) h;exact ⟨ad, rfl, by rw [hc _ h, getD_some h]⟩
   generalize xs.getD ds.length 0 = x at *;generalize ys.getD ds.length 0 = y at *
   obtain ⟨t, ht⟩ : ∃ t, t = x + y + cr := ⟨_, rfl⟩
   obtain ⟨q, hq⟩ : ∃ q, q = t / 10 := ⟨_, rfl⟩
   obtain ⟨r, hr⟩ : ∃ r, r = t % 10 := ⟨_, rfl⟩
   rw [← ht, ← hr, ← hq] at hst
   have hD : Sdq (Dg 10 (ds ++ [r]) ∧ val 10 (ds ++ [r]) + 10 ^ (ds ++ [r]).length * q = val 10 (xs.take (ds ++ [r]).length) + val 10 (ys.take (ds ++ [r]).length)) := ⟨hv.out.1.append (Dg.cons (by omega) Dg.nil), by rw [List.length_append]; exact hst⟩
   have hq1 := Sdq.mk (show 0 ≤ q ∧ q ≤ 1 by omega)
   have hqM : Sdq (ds.length + 1 = M + 1 → q = 0) := ⟨fun h => by
    have h1 := hx0 (by omega);have h2 := hy0 (by omega)
    omega⟩
   have e1 : t.tmod 10 = r := by rw [hr]; exact Int.tmod_eq_emod_of_nonneg (by omega)
   have e2 : t.tdiv 10 = q := by rw [hq]; exact Int.tdiv_eq_ediv_of_nonneg (by omega)
   have t0 : 0 ≤ t ∧ t ≤ 100 := by omega
   have e3 : wrap64 q = q := by have := hq1.out; unfold wrap64; omega
   have hlen := Sdq.mk (show (ds.length + 1) * 8 ≤ 140737488355328 by omega)
   have hlm : ds.length ≤ 1000000 := by omega
   clear hst hv cM hq hr hn;by_cases ha : ds.length < xs.length
   ·by_cases hb1 : ds.length < ys.length
    ·obtain ⟨ad, rfl, hxc⟩ := hxc ha
     obtain ⟨bd, rfl, hyc⟩ := hyc hb1
     have hs : cr + x + y = t := by omega
     clear hend hx0 hy0 ht;go_wp2_with (at_builtin; refine print_append_num (w0 := wr) w.heap.size rfl _ _ 32 3 .i64 8 rfl Tryd.underlying32 info3 (by decide) u5 ds r rfl rfl ho.out (Below.refl _ _) hb.out.size hlen.out ?_; intro v6 w6 hown6 hbe6 hgr6 hat6)
     go_roundg j
     case measure => omega
     case rel => exact ⟨ds ++ [r], q, v6, by simp; omega, rfl, by (first | rfl | rw [e3]), by simp, hq1.out.1, hq1.out.2, fun h => hqM.out (by simpa using h), hD, ⟨hown6⟩, ⟨hb.out.trans hbe6⟩⟩
    ·obtain ⟨ad, rfl, hxc⟩ := hxc ha
     obtain rfl : y = 0 := hy0 hb1;clear hyc
     have hb1 : ¬ ((ds.length : Int) < (ys.length : Int)) := by omega
     have hs : cr + x = t := by omega
     clear hend hx0 hy0 ht;go_wp2_with (at_builtin; refine print_append_num (w0 := wr) w.heap.size rfl _ _ 32 3 .i64 8 rfl Tryd.underlying32 info3 (by decide) u5 ds r rfl rfl ho.out (Below.refl _ _) hb.out.size hlen.out ?_; intro v6 w6 hown6 hbe6 hgr6 hat6)
     go_roundg j
     case measure => omega
     case rel => exact ⟨ds ++ [r], q, v6, by simp; omega, rfl, by (first | rfl | rw [e3]), by simp, hq1.out.1, hq1.out.2, fun h => hqM.out (by simpa using h), hD, ⟨hown6⟩, ⟨hb.out.trans hbe6⟩⟩
   ·by_cases hb1 : ds.length < ys.length
    ·obtain rfl : x = 0 := hx0 ha
     clear hxc
     have ha : ¬ ((ds.length : Int) < (xs.length : Int)) := by omega
     obtain ⟨bd, rfl, hyc⟩ := hyc hb1
     have hs : cr + y = t := by omega
     clear hend hx0 hy0 ht;go_wp2_with (at_builtin; refine print_append_num (w0 := wr) w.heap.size rfl _ _ 32 3 .i64 8 rfl Tryd.underlying32 info3 (by decide) u5 ds r rfl rfl ho.out (Below.refl _ _) hb.out.size hlen.out ?_; intro v6 w6 hown6 hbe6 hgr6 hat6)
     go_roundg j
     case measure => omega
     case rel => exact ⟨ds ++ [r], q, v6, by simp; omega, rfl, by (first | rfl | rw [e3]), by simp, hq1.out.1, hq1.out.2, fun h => hqM.out (by simpa using h), hD, ⟨hown6⟩, ⟨hb.out.trans hbe6⟩⟩
    ·obtain rfl : x = 0 := hx0 ha
     clear hxc
     have ha : ¬ ((ds.length : Int) < (xs.length : Int)) := by omega
     obtain rfl : y = 0 := hy0 hb1;clear hyc
     have hb1 : ¬ ((ds.length : Int) < (ys.length : Int)) := by omega
     have hc1 : 0 < cr := by
      refine Classical.byContradiction fun hc => hend ⟨by omega, by omega, by omega⟩
     obtain rfl : t = cr := by omega
     clear hend hx0 hy0 ht;go_wp2_with (at_builtin; refine print_append_num (w0 := wr) w.heap.size rfl _ _ 32 3 .i64 8 rfl Tryd.underlying32 info3 (by decide) u5 ds r rfl rfl ho.out (Below.refl _ _) hb.out.size hlen.out ?_; intro v6 w6 hown6 hbe6 hgr6 hat6)
     go_roundg j
     case measure => omega
     case rel => exact ⟨ds ++ [r], q, v6, by simp; omega, rfl, by (first | rfl | rw [e3]), by simp, hq1.out.1, hq1.out.2, fun h => hqM.out (by simpa using h), hD, ⟨hown6⟩, ⟨hb.out.trans hbe6⟩⟩
end Go.Proofs.YthpgjgmaamcaoaaDoor.P
end
section
namespace Go.Proofs.YthpgjgmaamcaoaaDoor.P
open Go.RowKit Go.Shelf Go.Proofs.YthpgjgmaamcaoaaDoorW.PrintWords Go.Proofs.YthpgjgmaamcaoaaDoorW.PrintLast Go.Proofs.YthpgjgmaamcaoaaDoorW.PrintMore Go.Proofs.YthpgjgmaamcaoaaDoor.Nm
set_option linter.unusedVariables false
set_option linter.unusedSimpArgs false
def uIs (k : IntKind) (A : Option Addr) (xs : List Int) : UpP := ⟨fun W => IsRow k W A xs, fun _ _ h hb => h.below hb⟩
set_option maxRecDepth 100000 in
theorem r1_Cmp (u v : Value) (xs ys : List Int) (w : World) (h : Cv (Kd.int .i64) (fun _ => True) w u xs) (h' : Cv (Kd.int .i64) (fun _ => True) w v ys) (dx : Dg 10 xs) (dy : Dg 10 ys) (lx : xs.length ≤ 2000000) (ly : ys.length ≤ 2000000) :
  Calls Tryd.prog 82 #[u, v] w fun e w' => e = .returned (.int .i64 (sgn (val 10 xs - val 10 ys))) ∧ Below w.heap.size w w' := by
 obtain ⟨n, hn0⟩ : ∃ n, n = val 10 xs - val 10 ys := ⟨_, rfl⟩
 rw [← hn0];rw [← trim_val xs, ← trim_val ys] at hn0;have hTx := Sdq.mk (r1_Trim (fun _ => True) w (fun _ _ => trivial) u xs h lx);have hTy := Sdq.mk (fun W (hb : Below w.heap.size w W) => r1_Trim (fun _ => True) W (fun _ _ => trivial) v ys (h'.below hb) ly);have dp := Sdq.mk (trim_Dg dx);have dq := Sdq.mk (trim_Dg dy);have tp := Sdq.mk (trim_Tm xs);have tq := Sdq.mk (trim_Tm ys)
 have lp : (trim xs).length ≤ 2000000 := by have := trim_length xs; omega
 have lq : (trim ys).length ≤ 2000000 := by have := trim_length ys; omega
 clear h h' dx dy lx ly;generalize trim xs = ps at *;generalize trim ys = qs at *
 obtain ⟨s, hs0⟩ : ∃ s, s = sgn n := ⟨_, rfl⟩
 rw [← hs0];have hn := Sdq.mk hn0;have hs := Sdq.mk hs0;clear hn0 hs0
 rcases Nat.lt_trichotomy ps.length qs.length with hlt | heq | hgt
 ·obtain rfl : s = -1 := by
   rw [hs.out];exact sgn_lt (by have := val_len_lt (B := 10) (by decide) dp.out dq.out tq.out hlt; have := hn.out; omega)
  have h1 : ((ps.length : Int) == (qs.length : Int)) = false := by simp; omega
  have h2 : (ps.length : Int) < (qs.length : Int) := by omega
  clear hs hn lp lq;go_enter Tryd.func82, Tryd.ntmps82;go_wp2_with (go_at_call 87; first | ((with_reducible refine hTx.out.mono ?_); rintro e w1 ⟨v1, rfl, ⟨A, c, rfl, hc1, hF1⟩, hb1⟩; have hF1 := Sdq.mk hF1; have hb1 := Sdq.mk hb1; clear hc1) | ((with_reducible refine (hTy.out w1 hb1.out).mono ?_); rintro e w2 ⟨v2, rfl, ⟨B, d, rfl, hd1, hG1⟩, hb2⟩; have hG1 := Sdq.mk hG1; have hb2 := Sdq.mk hb2; clear hd1));go_ret;exact ⟨rfl, below_step hb1.out hb2.out⟩
 ·have h1 : ((ps.length : Int) == (qs.length : Int)) = true := by simp; omega
  have heq' := Sdq.mk heq;have hc1 := Sdq.mk h1;clear heq;go_enter Tryd.func82, Tryd.ntmps82;go_wp2_with (go_at_call 87; first | ((with_reducible refine hTx.out.mono ?_); rintro e w1 ⟨v1, rfl, ⟨A, c, rfl, hc1, hF1⟩, hb1⟩; have hF1 := Sdq.mk hF1; have hb1 := Sdq.mk hb1; clear hc1) | ((with_reducible refine (hTy.out w1 hb1.out).mono ?_); rintro e w2 ⟨v2, rfl, ⟨B, d, rfl, hd1, hG1⟩, hb2⟩; have hG1 := Sdq.mk hG1; have hb2 := Sdq.mk hb2; clear hd1));have ra := Sdq.mk (row_of (Kd.F_below hF1.out hb2.out));have rb := Sdq.mk (row_of hG1.out);have hb := Sdq.mk (below_step hb1.out hb2.out);clear hF1 hG1 hb1 hb2 hTx hTy;rw [show ((ps.length : Int) != (qs.length : Int)) = false by have := heq'.out; simp; omega]
  go_loopg [7] ps.length (fun m i wr => m ≤ ps.length ∧ i = .int .i64 ((m : Int) - 1) ∧ Sdq (ps.drop m = qs.drop m) ∧ Sdq (Below w2.heap.size w2 wr))
  case atStart => exact ⟨Nat.le_refl _, by go_num, ⟨by rw [List.drop_eq_nil_of_le (Nat.le_refl _), List.drop_eq_nil_of_le (by have := heq'.out; omega)]⟩, ⟨Below.refl _ _⟩⟩
  case round =>
   obtain ⟨hm, rfl, hd, hbr⟩ := hrel;have hb2w := Sdq.mk hb.out;have hb := Sdq.mk (below_step hb2w.out hbr.out);have ra := Sdq.mk (ra.out.below hbr.out);have rb := Sdq.mk (rb.out.below hbr.out)
   cases gk with
   | zero =>
    obtain rfl : s = 0 := by
     rw [hs.out];refine sgn_zero ?_
     have h : ps = qs := by simpa using hd.out
     rw [hn.out, h, Int.sub_self]
    clear hs hn;go_wp2;go_ret;exact ⟨rfl, hb.out⟩
   | succ j =>
    rw [show ((j + 1 : Nat) : Int) - 1 = j by omega]
    have hjq : j < qs.length := by have := heq'.out; omega
    have hjp : j < ps.length := by omega
    obtain ⟨ad, rfl, hca⟩ := row_some ra.out hjp;obtain ⟨bd, rfl, hcb⟩ := row_some rb.out hjq;have ca := hca j hjp;have cb := hcb j hjq;clear hca hcb
    obtain ⟨x, hx0⟩ : ∃ x, x = ps[j] := ⟨_, rfl⟩
    obtain ⟨y, hy0⟩ : ∃ y, y = qs[j] := ⟨_, rfl⟩
    rw [← hx0] at ca;rw [← hy0] at cb;have hx := Sdq.mk hx0;have hy := Sdq.mk hy0;clear hx0 hy0
    rcases Int.lt_trichotomy x y with hlt | hxy | hgt
    ·obtain rfl : s = -1 := by
      rw [hs.out];refine sgn_lt ?_;have := val_top_lt (B := 10) (by decide) dp.out dq.out heq'.out hjp hd.out (by rw [← hx.out, ← hy.out]; exact hlt);have := hn.out
      omega
     clear hs hn;go_wp2;refine wp_region_still_tail 8 (by kernel_rfl) (by kernel_rfl) ?_;simp only [List.take_succ_cons, List.take_zero, List.drop_succ_cons, List.drop_zero]
     repeat still_step
     refine wpStill_nil ?_;go_wp2;go_ret;exact ⟨rfl, hb.out.drew⟩
    ·subst hxy
     have hnl : ¬ x < x := by omega
     have hd' := Sdq.mk (show ps.drop j = qs.drop j by rw [List.drop_eq_getElem_cons hjp, List.drop_eq_getElem_cons hjq, hd.out, ← hx.out, ← hy.out]);go_wp2;refine wp_region_still_tail 8 (by kernel_rfl) (by kernel_rfl) ?_;simp only [List.take_succ_cons, List.take_zero, List.drop_succ_cons, List.drop_zero]
     repeat still_step
     refine wpStill_nil ?_
     go_upto_region 12 with fail
     have C : Ctx [uIs .i64 (some ad) ps, uIs .i64 (some bd) qs, uB w2] wr.drew := ⟨ra.out.below (below_drew (Below.refl _ _)), rb.out.below (below_drew (Below.refl _ _)), hbr.out.drew, trivial⟩
     refine absW _ C ?_;clear C ca cb;intro w3 C;obtain ⟨ad', e1, hca⟩ := row_some C.1 hjp;cases e1;obtain ⟨bd', e2, hcb⟩ := row_some C.2.1 hjq;cases e2;have ca := hca j hjp;have cb := hcb j hjq;rw [← hx.out] at ca;rw [← hy.out] at cb;have C := Sdq.mk C;clear hca hcb;refine wp_region_still_tail 8 (by kernel_rfl) (by kernel_rfl) ?_;simp only [List.take_succ_cons, List.take_zero, List.drop_succ_cons, List.drop_zero]
     repeat still_step
     refine wpStill_nil ?_;go_wp2
     go_roundg j
     case measure => omega
     case rel => exact ⟨by omega, by go_num, hd', ⟨C.out.2.2.1.drew⟩⟩
    ·obtain rfl : s = 1 := by
      rw [hs.out];refine sgn_gt ?_;have := val_top_lt (B := 10) (by decide) dq.out dp.out heq'.out.symm hjq hd.out.symm (by rw [← hx.out, ← hy.out]; exact hgt);have := hn.out
      omega
     have hnl : ¬ x < y := by omega
     clear hs hn;go_wp2;refine wp_region_still_tail 8 (by kernel_rfl) (by kernel_rfl) ?_;simp only [List.take_succ_cons, List.take_zero, List.drop_succ_cons, List.drop_zero]
     repeat still_step
     refine wpStill_nil ?_
     go_upto_region 12 with fail
     have C : Ctx [uIs .i64 (some ad) ps, uIs .i64 (some bd) qs, uB w2] wr.drew := ⟨ra.out.below (below_drew (Below.refl _ _)), rb.out.below (below_drew (Below.refl _ _)), hbr.out.drew, trivial⟩
     refine absW _ C ?_;clear C ca cb;intro w3 C;obtain ⟨ad', e1, hca⟩ := row_some C.1 hjp;cases e1;obtain ⟨bd', e2, hcb⟩ := row_some C.2.1 hjq;cases e2;have ca := hca j hjp;have cb := hcb j hjq;rw [← hx.out] at ca;rw [← hy.out] at cb;have C := Sdq.mk C;clear hca hcb;refine wp_region_still_tail 8 (by kernel_rfl) (by kernel_rfl) ?_;simp only [List.take_succ_cons, List.take_zero, List.drop_succ_cons, List.drop_zero]
     repeat still_step
     refine wpStill_nil ?_;go_wp2;go_ret;exact ⟨rfl, below_step hb2w.out C.out.2.2.1.drew⟩
 ·obtain rfl : s = 1 := by
   rw [hs.out];exact sgn_gt (by have := val_len_lt (B := 10) (by decide) dq.out dp.out tp.out hgt; have := hn.out; omega)
  have h1 : ((ps.length : Int) == (qs.length : Int)) = false := by simp; omega
  have h2 : ¬ (ps.length : Int) < (qs.length : Int) := by omega
  clear hs hn lp lq;go_enter Tryd.func82, Tryd.ntmps82;go_wp2_with (go_at_call 87; first | ((with_reducible refine hTx.out.mono ?_); rintro e w1 ⟨v1, rfl, ⟨A, c, rfl, hc1, hF1⟩, hb1⟩; have hF1 := Sdq.mk hF1; have hb1 := Sdq.mk hb1; clear hc1) | ((with_reducible refine (hTy.out w1 hb1.out).mono ?_); rintro e w2 ⟨v2, rfl, ⟨B, d, rfl, hd1, hG1⟩, hb2⟩; have hG1 := Sdq.mk hG1; have hb2 := Sdq.mk hb2; clear hd1));go_ret;exact ⟨rfl, below_step hb1.out hb2.out⟩
end Go.Proofs.YthpgjgmaamcaoaaDoor.P
end
section
namespace Go.Proofs.YthpgjgmaamcaoaaDoor.P
open Go.RowKit Go.Shelf Go.Proofs.YthpgjgmaamcaoaaDoorW.PrintWords Go.Proofs.YthpgjgmaamcaoaaDoorW.PrintLast Go.Proofs.YthpgjgmaamcaoaaDoorW.PrintMore Go.Proofs.YthpgjgmaamcaoaaDoor.Nm
set_option linter.unusedVariables false
set_option linter.unusedSimpArgs false
theorem sub_stepB {B : Int} {ds xs ys : List Int} {b x y r b' : Int} (h : val B ds - B ^ ds.length * b = val B (xs.take ds.length) - val B (ys.take ds.length)) (hx : x = xs.getD ds.length 0) (hy : y = ys.getD ds.length 0) (hr : r - B * b' = x - y - b) :
  val B (ds ++ [r]) - B ^ (ds.length + 1) * b' = val B (xs.take (ds.length + 1)) - val B (ys.take (ds.length + 1)) := by
 rw [val_take_succ, val_take_succ, val_snoc, Int.pow_succ, ← hx, ← hy];generalize B ^ ds.length = P at *;have e := congrArg (fun t => P * t) hr;simp only [Int.mul_sub] at e;rw [Int.mul_assoc]
 omega
theorem times_stepB {B : Int} {ds xs : List Int} {k c x r q : Int} (h : val B ds + B ^ ds.length * c = val B (xs.take ds.length) * k) (hx : x = xs.getD ds.length 0) (hr : r + B * q = x * k + c) :
  val B (ds ++ [r]) + B ^ (ds.length + 1) * q = val B (xs.take (ds.length + 1)) * k := by
 rw [val_take_succ, val_snoc, Int.pow_succ, ← hx, Int.add_mul, ← h, Int.mul_assoc];generalize B ^ ds.length = P at *;have e := congrArg (fun t => P * t) hr;simp only [Int.mul_add] at e;rw [Int.mul_assoc P x k]
 omega
set_option maxRecDepth 100000 in
theorem r1_Sub (ok : Nat → Prop) (u v : Value) (xs ys : List Int) (w : World) (hok : ∀ k, w.heap.size ≤ k → ok k) (h : Cv (Kd.int .i64) (fun _ => True) w u xs) (h' : Cv (Kd.int .i64) (fun _ => True) w v ys) (dx : Dg 10 xs) (dy : Dg 10 ys) (lx : xs.length ≤ 2000000) (ly : ys.length ≤ 2000000) (hle : val 10 ys ≤ val 10 xs) :
  Calls Tryd.prog 83 #[u, v] w (CPost (Kd.int .i64) ok w (dig 10 (val 10 xs - val 10 ys))) := by
 obtain ⟨A, c, rfl, hc, hF⟩ := h;obtain ⟨B, d, rfl, hd, hG⟩ := h';have ra := Sdq.mk (row_of hF);have rb := Sdq.mk (row_of hG);have hok := Sdq.mk hok;have Dx := Sdq.mk dx;have Dy := Sdq.mk dy;have hle := Sdq.mk hle
 obtain ⟨n, hn0⟩ : ∃ n : Int, n = val 10 xs - val 10 ys := ⟨_, rfl⟩
 rw [← hn0];have hn := Sdq.mk hn0;clear hF hG hc hd dx dy hn0;go_enter Tryd.func83, Tryd.ntmps83;go_wp2
 go_loopg [5, 6, 7] xs.length (fun gk s5 s6 s7 wr => ∃ (ds : List Int) (cr : Int) (v5 : Value), gk + ds.length = xs.length ∧ s5 = v5 ∧ s6 = .int .i64 cr ∧ s7 = .int .i64 ds.length ∧ 0 ≤ cr ∧ cr ≤ 1 ∧ Sdq (Dg 10 ds ∧ val 10 ds - 10 ^ ds.length * cr = val 10 (xs.take ds.length) - val 10 (ys.take ds.length)) ∧ Sdq (wr.ownsRow w.heap.size 3 1 v5 ds.length (nums .i64 ds)) ∧ Sdq (Below w.heap.size w wr))
 case atStart => exact ⟨[], 0, .slice none 0 0, by simp, rfl, rfl, rfl, by omega, by omega, ⟨Dg.nil, by simp⟩, ⟨⟨rfl, .inl ⟨rfl, rfl⟩⟩⟩, ⟨Below.refl _ _⟩⟩
 case round =>
  obtain ⟨ds, cr, v5, hg, rfl, rfl, rfl, c0, c1, hv, ho, hb⟩ := hrel
  cases gk with
  | zero =>
   have hdl : ds.length = xs.length := by omega
   have hT : Sdq (Cv (Kd.int .i64) (fun _ => True) wr u5 ds) := ⟨own_cv ho.out (by omega) (fun _ _ => trivial)⟩
   have hres := Sdq.mk (show trim ds = dig 10 n by
    have h3 := hv.out.2;rw [hdl, List.take_length] at h3
    have h4 : val 10 ys = val 10 (ys.take xs.length) + 10 ^ (ys.take xs.length).length * val 10 (ys.drop xs.length) := by
     conv => lhs; rw [← List.take_append_drop xs.length ys]
     rw [val_append]
    have h5 := val_lt (B := 10) (by decide) Dx.out;have h6 := val_lt (B := 10) (by decide) hv.out.1;rw [hdl] at h6;have h7 := val_nonneg (B := 10) (by decide) (Dy.out.drop xs.length);have h8 := val_nonneg (B := 10) (by decide) (Dy.out.take xs.length);have h9 := val_nonneg (B := 10) (by decide) hv.out.1;have h10 := hle.out
    have h11 : val 10 ys = val 10 (ys.take xs.length) := by
     rcases Nat.lt_or_ge ys.length xs.length with hlt | hge
     ·rw [List.take_of_length_le (by omega)]
     ·rw [List.length_take, Nat.min_eq_left hge] at h4
      have hz : val 10 (ys.drop xs.length) = 0 := by
       refine Classical.byContradiction fun hc => ?_
       have h12 : (10 : Int) ^ xs.length * 1 ≤ 10 ^ xs.length * val 10 (ys.drop xs.length) := Int.mul_le_mul_of_nonneg_left (by omega) (Int.le_of_lt (Int.pow_pos (by decide)))
       omega
      rw [h4, hz]
      omega
    have hc0 : cr = 0 := by
     refine Classical.byContradiction fun hc => ?_
     obtain rfl : cr = 1 := by omega
     rw [Int.mul_one] at h3
     omega
    rw [hc0, Int.mul_zero, Int.sub_zero, ← h11] at h3
    rw [trim_dig (by decide) hv.out.1, h3, hn.out])
   have hlt : ds.length ≤ 2000000 := by omega
   have hx1 : ¬ ((ds.length : Int) < (xs.length : Int)) := by omega
   have hTr := Sdq.mk (r1_Trim (fun k => wr.heap.size ≤ k) wr (fun _ h => h) _ _ hT.out hlt);have hok2 := Sdq.mk (fun k (hk : wr.heap.size ≤ k) => hok.out k (Nat.le_trans hb.out.size hk));clear hv ho hn hdl;go_wp2_with (go_at_call 87; refine hTr.out.mono ?_; rintro e w' ⟨v, rfl, hv, hb2⟩);go_ret;exact ⟨_, rfl, by rw [← hres.out]; exact hv.mono hok2.out, below_step hb.out hb2⟩
  | succ j =>
   have ha : ds.length < xs.length := by omega
   have hxd := dg_getD (by decide) Dx.out ds.length;have hyd := dg_getD (by decide) Dy.out ds.length
   have hy0 : ¬ ds.length < ys.length → ys.getD ds.length 0 = 0 := fun h => getD_none (by omega)
   obtain ⟨ad, rfl, hcx⟩ := row_some (ra.out.below hb.out) ha;have hxc := hcx _ ha;rw [getD_some ha] at hxc
   have hyc : ds.length < ys.length → ∃ bd, B = some bd ∧ wr.cell? (bd.add ds.length) = some (.int .i64 (ys.getD ds.length 0)) := fun h => by
    obtain ⟨ad, rfl, hc⟩ := row_some (rb.out.below hb.out) h;exact ⟨ad, rfl, by rw [hc _ h, getD_some h]⟩
   clear hcx;have hst := Sdq.mk (fun r b' => sub_stepB (B := 10) (r := r) (b' := b') (xs := xs) (ys := ys) hv.out.2 rfl rfl)
   obtain ⟨x, hx⟩ : ∃ x, x = xs.getD ds.length 0 := ⟨_, rfl⟩
   obtain ⟨y, hy⟩ : ∃ y, y = ys.getD ds.length 0 := ⟨_, rfl⟩
   rw [← hx] at hxc hxd;rw [← hy] at hyc hyd hy0
   have hst : Sdq (∀ r b', r - 10 * b' = x - y - cr → val 10 (ds ++ [r]) - 10 ^ (ds.length + 1) * b' = val 10 (xs.take (ds.length + 1)) - val 10 (ys.take (ds.length + 1))) := ⟨fun r b' h => hst.out r b' (by rw [← hx, ← hy]; exact h)⟩
   have hlen := Sdq.mk (show (ds.length + 1) * 8 ≤ 140737488355328 by omega)
   have hlm : ds.length ≤ 2000000 := by omega
   have hdv := Sdq.mk hv.out.1;clear hv hn hx hy;by_cases hb1 : ds.length < ys.length
   ·by_cases hng : x - cr - y < 0
    ·obtain ⟨bd, rfl, hyc⟩ := hyc hb1
     obtain ⟨t, ht⟩ : ∃ t, t = x - cr - y := ⟨_, rfl⟩
     have hs : x - cr - y = t := ht.symm
     have hneg : t < 0 := by omega
     obtain ⟨r, hr⟩ : ∃ r, r = t + 10 := ⟨_, rfl⟩
     have hr2 : t + 10 = r := hr.symm
     have hD : Sdq (Dg 10 (ds ++ [r]) ∧ val 10 (ds ++ [r]) - 10 ^ (ds ++ [r]).length * 1 = val 10 (xs.take (ds ++ [r]).length) - val 10 (ys.take (ds ++ [r]).length)) := ⟨hdv.out.append (Dg.cons (by omega) Dg.nil), by rw [List.length_append]; exact hst.out r 1 (by omega)⟩
     have t0 : -11 ≤ t ∧ t ≤ 20 := by omega
     clear ht hy0 hst hr;go_wp2_with (at_builtin; refine print_append_num (w0 := wr) w.heap.size rfl _ _ 32 3 .i64 8 rfl Tryd.underlying32 info3 (by decide) u5 ds r rfl rfl ho.out (Below.refl _ _) hb.out.size hlen.out ?_; intro v6 w6 hown6 hbe6 hgr6 hat6)
     go_roundg j
     case measure => omega
     case rel => exact ⟨ds ++ [r], 1, v6, by simp; omega, rfl, rfl, by simp, by omega, by omega, hD, ⟨hown6⟩, ⟨hb.out.trans hbe6⟩⟩
    ·obtain ⟨bd, rfl, hyc⟩ := hyc hb1
     obtain ⟨t, ht⟩ : ∃ t, t = x - cr - y := ⟨_, rfl⟩
     have hs : x - cr - y = t := ht.symm
     have hneg : ¬ t < 0 := by omega
     obtain ⟨r, hr⟩ : ∃ r, r = t := ⟨_, rfl⟩
     have hD : Sdq (Dg 10 (ds ++ [r]) ∧ val 10 (ds ++ [r]) - 10 ^ (ds ++ [r]).length * 0 = val 10 (xs.take (ds ++ [r]).length) - val 10 (ys.take (ds ++ [r]).length)) := ⟨hdv.out.append (Dg.cons (by omega) Dg.nil), by rw [List.length_append]; exact hst.out r 0 (by omega)⟩
     subst hr
     have t0 : -11 ≤ r ∧ r ≤ 20 := by omega
     clear ht hy0 hst;go_wp2_with (at_builtin; refine print_append_num (w0 := wr) w.heap.size rfl _ _ 32 3 .i64 8 rfl Tryd.underlying32 info3 (by decide) u5 ds r rfl rfl ho.out (Below.refl _ _) hb.out.size hlen.out ?_; intro v6 w6 hown6 hbe6 hgr6 hat6)
     go_roundg j
     case measure => omega
     case rel => exact ⟨ds ++ [r], 0, v6, by simp; omega, rfl, rfl, by simp, by omega, by omega, hD, ⟨hown6⟩, ⟨hb.out.trans hbe6⟩⟩
   ·by_cases hng : x - cr - y < 0
    ·obtain rfl : y = 0 := hy0 hb1
     clear hyc
     have hb1 : ¬ ((ds.length : Int) < (ys.length : Int)) := by omega
     obtain ⟨t, ht⟩ : ∃ t, t = x - cr := ⟨_, rfl⟩
     have hs : x - cr = t := ht.symm
     have hneg : t < 0 := by omega
     obtain ⟨r, hr⟩ : ∃ r, r = t + 10 := ⟨_, rfl⟩
     have hr2 : t + 10 = r := hr.symm
     have hD : Sdq (Dg 10 (ds ++ [r]) ∧ val 10 (ds ++ [r]) - 10 ^ (ds ++ [r]).length * 1 = val 10 (xs.take (ds ++ [r]).length) - val 10 (ys.take (ds ++ [r]).length)) := ⟨hdv.out.append (Dg.cons (by omega) Dg.nil), by rw [List.length_append]; exact hst.out r 1 (by omega)⟩
     have t0 : -11 ≤ t ∧ t ≤ 20 := by omega
     clear ht hy0 hst hr;go_wp2_with (at_builtin; refine print_append_num (w0 := wr) w.heap.size rfl _ _ 32 3 .i64 8 rfl Tryd.underlying32 info3 (by decide) u5 ds r rfl rfl ho.out (Below.refl _ _) hb.out.size hlen.out ?_; intro v6 w6 hown6 hbe6 hgr6 hat6)
     go_roundg j
     case measure => omega
     case rel => exact ⟨ds ++ [r], 1, v6, by simp; omega, rfl, rfl, by simp, by omega, by omega, hD, ⟨hown6⟩, ⟨hb.out.trans hbe6⟩⟩
    ·obtain rfl : y = 0 := hy0 hb1
     clear hyc
     have hb1 : ¬ ((ds.length : Int) < (ys.length : Int)) := by omega
     obtain ⟨t, ht⟩ : ∃ t, t = x - cr := ⟨_, rfl⟩
     have hs : x - cr = t := ht.symm
     have hneg : ¬ t < 0 := by omega
     obtain ⟨r, hr⟩ : ∃ r, r = t := ⟨_, rfl⟩
     have hD : Sdq (Dg 10 (ds ++ [r]) ∧ val 10 (ds ++ [r]) - 10 ^ (ds ++ [r]).length * 0 = val 10 (xs.take (ds ++ [r]).length) - val 10 (ys.take (ds ++ [r]).length)) := ⟨hdv.out.append (Dg.cons (by omega) Dg.nil), by rw [List.length_append]; exact hst.out r 0 (by omega)⟩
     subst hr
     have t0 : -11 ≤ r ∧ r ≤ 20 := by omega
     clear ht hy0 hst;go_wp2_with (at_builtin; refine print_append_num (w0 := wr) w.heap.size rfl _ _ 32 3 .i64 8 rfl Tryd.underlying32 info3 (by decide) u5 ds r rfl rfl ho.out (Below.refl _ _) hb.out.size hlen.out ?_; intro v6 w6 hown6 hbe6 hgr6 hat6)
     go_roundg j
     case measure => omega
     case rel => exact ⟨ds ++ [r], 0, v6, by simp; omega, rfl, rfl, by simp, by omega, by omega, hD, ⟨hown6⟩, ⟨hb.out.trans hbe6⟩⟩
set_option maxRecDepth 100000 in
theorem r1_Times (ok : Nat → Prop) (u : Value) (xs : List Int) (k : Int) (w : World) (hok : ∀ k, w.heap.size ≤ k → ok k) (h : Cv (Kd.int .i64) (fun _ => True) w u xs) (dx : Dg 10 xs) (lx : xs.length ≤ 1000000) (hk : 0 ≤ k ∧ k ≤ 10) :
  Calls Tryd.prog 102 #[u, .int .i64 k] w (CPost (Kd.int .i64) ok w (dig 10 (val 10 xs * k))) := by
 obtain ⟨A, c, rfl, hc, hF⟩ := h;have ra := Sdq.mk (row_of hF);have hok := Sdq.mk hok;have Dx := Sdq.mk dx
 obtain ⟨n, hn0⟩ : ∃ n : Int, n = val 10 xs * k := ⟨_, rfl⟩
 rw [← hn0];have hn := Sdq.mk hn0;clear hF hc dx hn0;go_enter Tryd.func102, Tryd.ntmps102;go_wp2
 go_loopg [5, 6, 7] (xs.length + 1) (fun gk s5 s6 s7 wr => ∃ (ds : List Int) (cr : Int) (v5 : Value), gk + ds.length = xs.length + 1 ∧ s5 = v5 ∧ s6 = .int .i64 cr ∧ s7 = .int .i64 ds.length ∧ 0 ≤ cr ∧ cr ≤ 9 ∧ (ds.length = xs.length + 1 → cr = 0) ∧ Sdq (Dg 10 ds ∧ val 10 ds + 10 ^ ds.length * cr = val 10 (xs.take ds.length) * k) ∧ Sdq (wr.ownsRow w.heap.size 3 1 v5 ds.length (nums .i64 ds)) ∧ Sdq (Below w.heap.size w wr))
 case atStart => exact ⟨[], 0, .slice none 0 0, by simp, rfl, rfl, rfl, by omega, by omega, fun _ => rfl, ⟨Dg.nil, by simp⟩, ⟨⟨rfl, .inl ⟨rfl, rfl⟩⟩⟩, ⟨Below.refl _ _⟩⟩
 case round =>
  obtain ⟨ds, cr, v5, hg, rfl, rfl, rfl, c0, c1, cM, hv, ho, hb⟩ := hrel;by_cases hend : ¬ ds.length < xs.length ∧ cr = 0
  ·obtain ⟨h1, rfl⟩ := hend
   have hT : Sdq (Cv (Kd.int .i64) (fun _ => True) wr u5 ds) := ⟨own_cv ho.out (by omega) (fun _ _ => trivial)⟩
   have hres := Sdq.mk (show trim ds = dig 10 n by
    have h3 := hv.out.2;rw [Int.mul_zero, Int.add_zero, List.take_of_length_le (by omega), ← hn.out] at h3
    rw [trim_dig (by decide) hv.out.1, h3])
   have hlt : ds.length ≤ 2000000 := by omega
   have hx1 : ¬ ((ds.length : Int) < (xs.length : Int)) := by omega
   have hTr := Sdq.mk (r1_Trim (fun k => wr.heap.size ≤ k) wr (fun _ h => h) _ _ hT.out hlt);have hok2 := Sdq.mk (fun k (hk : wr.heap.size ≤ k) => hok.out k (Nat.le_trans hb.out.size hk));clear hv ho cM hn;go_wp2_with (go_at_call 87; refine hTr.out.mono ?_; rintro e w' ⟨v, rfl, hv, hb2⟩);go_ret;exact ⟨_, rfl, by rw [← hres.out]; exact hv.mono hok2.out, below_step hb.out hb2⟩
  ·have hgk : ds.length ≤ xs.length := by
    refine Classical.byContradiction fun hc => hend ⟨by omega, cM (by omega)⟩
   obtain ⟨j, rfl⟩ : ∃ j, gk = j + 1 := ⟨gk - 1, by omega⟩
   have hxd := dg_getD (by decide) Dx.out ds.length
   have hx0 : ¬ ds.length < xs.length → xs.getD ds.length 0 = 0 := fun h => getD_none (by omega)
   have hxc : ds.length < xs.length → ∃ ad, A = some ad ∧ wr.cell? (ad.add ds.length) = some (.int .i64 (xs.getD ds.length 0)) := fun h => by
    obtain ⟨ad, rfl, hc⟩ := row_some (ra.out.below hb.out) h;exact ⟨ad, rfl, by rw [hc _ h, getD_some h]⟩
   have hst := fun r q => times_stepB (B := 10) (r := r) (q := q) (xs := xs) hv.out.2 rfl
   generalize xs.getD ds.length 0 = x at *
   obtain ⟨p, hp⟩ : ∃ p, p = x * k := ⟨_, rfl⟩
   have hp0 : 0 ≤ p ∧ p ≤ 90 := by
    rw [hp];refine ⟨Int.mul_nonneg hxd.1 hk.1, ?_⟩;have h1 := Int.mul_le_mul (show x ≤ 9 by omega) hk.2 hk.1 (by omega)
    omega
   obtain ⟨t, ht⟩ : ∃ t, t = cr + p := ⟨_, rfl⟩
   obtain ⟨q, hq⟩ : ∃ q, q = t / 10 := ⟨_, rfl⟩
   obtain ⟨r, hr⟩ : ∃ r, r = t % 10 := ⟨_, rfl⟩
   have hst := hst r q (by rw [← hp]; omega)
   have hD : Sdq (Dg 10 (ds ++ [r]) ∧ val 10 (ds ++ [r]) + 10 ^ (ds ++ [r]).length * q = val 10 (xs.take (ds ++ [r]).length) * k) := ⟨hv.out.1.append (Dg.cons (by omega) Dg.nil), by rw [List.length_append]; exact hst⟩
   have hq1 := Sdq.mk (show 0 ≤ q ∧ q ≤ 9 by omega)
   have hqM : Sdq (ds.length + 1 = xs.length + 1 → q = 0) := ⟨fun h => by
    have h1 := hx0 (by omega);rw [h1, Int.zero_mul] at hp
    omega⟩
   have e1 : t.tmod 10 = r := by rw [hr]; exact Int.tmod_eq_emod_of_nonneg (by omega)
   have e2 : t.tdiv 10 = q := by rw [hq]; exact Int.tdiv_eq_ediv_of_nonneg (by omega)
   have t0 : 0 ≤ t ∧ t ≤ 100 := by omega
   have e3 : wrap64 q = q := by have := hq1.out; unfold wrap64; omega
   have hlen := Sdq.mk (show (ds.length + 1) * 8 ≤ 140737488355328 by omega)
   have hlm : ds.length ≤ 1000000 := by omega
   have hpx : x * k = p := hp.symm;have hs : cr + p = t := ht.symm;clear hst hv cM hq hr hn hxd hk;by_cases ha : ds.length < xs.length
   ·obtain ⟨ad, rfl, hxc⟩ := hxc ha
    clear hend hx0 hp ht;go_wp2_with (at_builtin; refine print_append_num (w0 := wr) w.heap.size rfl _ _ 32 3 .i64 8 rfl Tryd.underlying32 info3 (by decide) u5 ds r rfl rfl ho.out (Below.refl _ _) hb.out.size hlen.out ?_; intro v6 w6 hown6 hbe6 hgr6 hat6)
    go_roundg j
    case measure => omega
    case rel => exact ⟨ds ++ [r], q, v6, by simp; omega, rfl, by (first | rfl | rw [e3]), by simp, hq1.out.1, hq1.out.2, fun h => hqM.out (by simpa using h), hD, ⟨hown6⟩, ⟨hb.out.trans hbe6⟩⟩
   ·obtain rfl : x = 0 := hx0 ha
    clear hxc
    have ha : ¬ ((ds.length : Int) < (xs.length : Int)) := by omega
    have hc1 : 0 < cr := by
     refine Classical.byContradiction fun hc => hend ⟨by omega, by omega⟩
    rw [Int.zero_mul] at hp
    obtain rfl : t = cr := by omega
    clear hend hx0 hp ht hpx hs;go_wp2_with (at_builtin; refine print_append_num (w0 := wr) w.heap.size rfl _ _ 32 3 .i64 8 rfl Tryd.underlying32 info3 (by decide) u5 ds r rfl rfl ho.out (Below.refl _ _) hb.out.size hlen.out ?_; intro v6 w6 hown6 hbe6 hgr6 hat6)
    go_roundg j
    case measure => omega
    case rel => exact ⟨ds ++ [r], q, v6, by simp; omega, rfl, by (first | rfl | rw [e3]), by simp, hq1.out.1, hq1.out.2, fun h => hqM.out (by simpa using h), hD, ⟨hown6⟩, ⟨hb.out.trans hbe6⟩⟩
end Go.Proofs.YthpgjgmaamcaoaaDoor.P
end
section
namespace Go.Proofs.YthpgjgmaamcaoaaDoor.P
open Go.RowKit Go.Proofs.YthpgjgmaamcaoaaDoorW.PrintWords
section
variable {P : Program} {ops : Array Oper} {Q : Exit → Act → World → Prop}
theorem fill_other2 {t : Tmp} {e : Nat → Value} {l : Nat → Bool} : ∀ (D : List (Option Tmp)) (k : Nat) (a : Act), (∀ j, D[j]? = some (some t) → l (k + j) = false) → (fill D k e l a).tmps[t]? = a.tmps[t]?
 | [], _, _, _ => rfl
 | x :: D, k, a, h => by
  simp only [fill]
  have h2 : ∀ j, D[j]? = some (some t) → l (k + 1 + j) = false := fun j hj => by
   have := h (j + 1) (by simpa using hj)
   rwa [show k + (j + 1) = k + 1 + j by omega] at this
  rw [fill_other2 D (k + 1) _ h2];by_cases hx : x = some t
  ·have := h 0 (by simp [hx])
   rw [Nat.add_zero] at this;rw [this]
   simp
  ·split
   ·exact put_at hx
   ·rfl
def Step2 (P : Program) (ops : Array Oper) (Q : Exit → Act → World → Prop) (a0 : Act) (C : World → Prop) (R : Nat → Value → World → Prop) (i : Nat) : Prop :=
 ∀ o, ops[i]? = some o → ∀ (e : Nat → Value) (a : Act) (w : World), C w → (∀ x ∈ o.after, Region.binds .any x = true → R x.on (e x.on) w ∧ ∀ t, (ops[x.on]?).bind (·.dst) = some t → a.tmps[t]? = some (e x.on)) →
  (∀ t, (∀ j, (dsts ops)[j]? = some (some t) → i ∈ waits ops j) → a.tmps[t]? = a0.tmps[t]?) → ∀ K : Act → World → Prop, (∀ v w', Below w.heap.size w w' → R i v w' → K (a.put o.dst v) w') →
  if Region.wanted o (yielded ops a.tmps) = true then Oper.wp P o a w K Q else K (a.put o.dst undef) w
section
variable {a0 : Act} {C : World → Prop} {R : Nat → Value → World → Prop}
theorem fi_step2 (hA : apart (dsts ops) = true) (hT : ∀ t, some t ∈ dsts ops → t < a0.tmps.size) (hC : ∀ w w', C w → Below w.heap.size w w' → C w') (hR : ∀ j v w w', R j v w → Below w.heap.size w w' → R j v w')
  {l : Array Bool} {a : Act} {w : World} {i : Nat} (hI : FI ops a0 C R l a w) (hi : i ∈ Region.ready .any ops l) (hS : Step2 P ops Q a0 C R i) {K : Act → World → Prop} (hK : ∀ a' w', FI ops a0 C R (l.setIfInBounds i true) a' w' → K a' w') : wpOp P ops Q i K a w := by
 obtain ⟨hs, hc, hCw, e, rfl, hr⟩ := hI;obtain ⟨o, ho, hli, hisz, hw⟩ := ready_mem hi hs;refine wpOp_step ho (fun K' hK' => ?_)
 refine hS o ho e _ w hCw (fun x hx hb => ⟨hr _ (hw x hx hb), fun t ht => ?_⟩) (fun t ht => fill_other2 _ 0 a0 (fun j hj => by
  rw [Nat.zero_add]
  cases hl : lf l j with
  | false => rfl
  | true => have := hc j hl i (ht j hj); rw [hli] at this; cases this)) K' (fun v w' hb hv => hK' _ _ (hK _ _ ?_))
 ·cases hox : ops[x.on]? with
  | none => rw [hox] at ht; simp at ht
  | some y =>
   rw [hox] at ht;have hd := dst_at hox;rw [show y.dst = some t from ht] at hd;have := fill_at (e := e) (l := lf l) (dsts ops) 0 x.on a0 hA hd (by rw [Nat.zero_add]; exact hw x hx hb) (hT t (List.mem_of_getElem? hd));rw [Nat.zero_add] at this;exact this
 ·refine ⟨by simp [hs], ?_, hC _ _ hCw hb, fun j => if j = i then v else e j, ?_, fun j hj => ?_⟩
  ·intro k hk x hx
   rw [lf_set hisz] at hk ⊢
   dsimp only at hk ⊢
   by_cases hxi : x = i
   ·rw [if_pos hxi]
   ·rw [if_neg hxi]
    by_cases hki : k = i
    ·subst hki
     obtain ⟨o', ho', y, hy, hyb, rfl⟩ := waits_mem hx;obtain rfl := Option.some.inj (ho.symm.trans ho');exact hw y hy hyb
    ·rw [if_neg hki] at hk
     exact hc k hk x hx
  ·rw [lf_set hisz]
   have := fill_set (e := e) (l := lf l) (v := v) (dsts ops) 0 i a0 o.dst hA (dst_at ho) (by rw [Nat.zero_add]; exact hli)
   simpa using this
  ·rw [lf_set hisz] at hj
   dsimp only at hj ⊢
   by_cases hji : j = i
   ·subst hji; simpa using hv
   ·rw [if_neg hji] at hj ⊢
    exact hR _ _ _ _ (hr j hj) hb
theorem flow_all2 (hE : early ops = true) (hA : apart (dsts ops) = true) (hT : ∀ t, some t ∈ dsts ops → t < a0.tmps.size) (hC : ∀ w w', C w → Below w.heap.size w w' → C w') (hR : ∀ j v w w', R j v w → Below w.heap.size w w' → R j v w')
  (hS : ∀ i, i < ops.size → Step2 P ops Q a0 C R i) (hQ : ∀ e w, C w → (∀ j, j < ops.size → R j (e j) w) → Q .normal (fill (dsts ops) 0 e (fun _ => true) a0) w) :
  ∀ fuel l a w, FI ops a0 C R l a w → cnt (lf l) ops.size ≤ fuel → wpAny P .any ops Q fuel l a w
 | 0, l, a, w, hI, hn => by
  have hr := ready_zero hI.1 (Nat.le_zero.1 hn);obtain ⟨e, hCw, rfl, h⟩ := fi_end hE hI hr;exact ⟨hr, hQ e w hCw h⟩
 | fuel + 1, l, a, w, hI, hn => by
  refine ⟨fun hr => ?_, fun i hi => ?_⟩
  ·obtain ⟨e, hCw, rfl, h⟩ := fi_end hE hI hr
   exact hQ e w hCw h
  ·obtain ⟨o, ho, _, _, _⟩ := ready_mem hi hI.1
   have := cnt_next hi hI.1;exact fi_step2 hA hT hC hR hI hi (hS i (Array.getElem?_eq_some_iff.1 ho).1) (fun a' w' hI' => flow_all2 hE hA hT hC hR hS hQ fuel _ a' w' hI' (by omega))
theorem flow2 {id : Nat} {w0 : World} (C : World → Prop) (R : Nat → Value → World → Prop) (hm : P.follows .mixedOrders = true) (hE : early ops = true) (hA : apart (dsts ops) = true) (hT : (dsts ops).all (fun d => (d.map fun t => decide (t < a0.tmps.size)).getD true) = true)
  (hC : ∀ w w', C w → Below w.heap.size w w' → C w') (hR : ∀ j v w w', R j v w → Below w.heap.size w w' → R j v w') (h0 : C w0)
  (hS : ∀ i, i < ops.size → Step2 P ops Q a0 C R i) (hQ : ∀ e w, C w → (∀ j, j < ops.size → R j (e j) w) → Q .normal (fill (dsts ops) 0 e (fun _ => true) a0) w) : (Code.region id ops true).wp P Q a0 w0 :=
 wp_region_any hm (flow_all2 hE hA (fun t ht => by have := List.all_eq_true.1 hT _ ht; simpa using this) hC hR hS hQ _ _ _ _ (fi_start (hC _ _ h0 (below_drew (Below.refl _ _)))) (cnt_le _))
def At2 (P : Program) (ops : Array Oper) (Q : Exit → Act → World → Prop) (D : List (Option Tmp)) (W : List (List Nat)) (a0 : Act) (C : World → Prop) (R : Nat → Value → World → Prop) (i : Nat) : Prop :=
 ∀ (e : Nat → Value) (a : Act) (w : World), C w → (∀ j, j ∈ W.getD i [] → R j (e j) w ∧ ∀ t, D[j]? = some (some t) → a.tmps[t]? = some (e j)) → (∀ t, (∀ j, j < D.length → D[j]? = some (some t) → (W.getD j []).contains i = true) → a.tmps[t]? = a0.tmps[t]?) →
  ∀ K : Act → World → Prop, Sdq (∀ v w', Below w.heap.size w w' → R i v w' → K (a.put (D.getD i none) v) w') →
  match ops[i]? with
  | some o => if Region.wanted o (yielded ops a.tmps) = true then Oper.wp P o a w K Q else K (a.put (D.getD i none) undef) w
  | none => True
theorem step_at2 {D : List (Option Tmp)} {W : List (List Nat)} (h : tabOf ops = (D, W)) {i : Nat} (hs : At2 P ops Q D W a0 C R i) : Step2 P ops Q a0 C R i := by
 intro o ho e a w hC hd hb K hK;have hD : dsts ops = D := congrArg Prod.fst h;have hi := (Array.getElem?_eq_some_iff.1 ho).1
 have := hs e a w hC (fun j hj => ?_) (fun t ht => hb t (fun j hj => by
  rw [hD] at hj;have hjl := (List.getElem?_eq_some_iff.1 hj).1;have h2 := ht j hjl hj;rw [waits_tab h j (by rw [← hD] at hjl; simpa [dsts] using hjl)] at h2
  simpa using h2)) K ⟨fun v w' h1 h2 => by rw [dst_tab h ho]; exact hK v w' h1 h2⟩
 ·rw [ho, dst_tab h ho] at this
  exact this
 ·rw [waits_tab h i hi] at hj
  obtain ⟨o', ho', y, hy, hyb, rfl⟩ := waits_mem hj;obtain rfl := Option.some.inj (ho.symm.trans ho');obtain ⟨h1, h2⟩ := hd y hy hyb;refine ⟨h1, fun t ht => h2 t ?_⟩
  cases hy2 : ops[y.on]? with
  | none =>
   rw [← hD] at ht;unfold dsts at ht;rw [List.getElem?_map, Array.getElem?_toList, hy2] at ht
   simp at ht
  | some oy =>
   have := dst_at hy2;rw [hD, ht] at this
   simpa using (Option.some.inj this).symm
theorem flowT2 {id n : Nat} {w0 : World} {D : List (Option Tmp)} {W : List (List Nat)} (h : tabOf ops = (D, W)) (hn : ops.size = n) (C : World → Prop) (R : Nat → Value → World → Prop) (hm : P.follows .mixedOrders = true) (hc : (earlyW W && apart D && D.all (fun d => (d.map fun t => decide (t < a0.tmps.size)).getD true)) = true)
  (hC : ∀ w w', C w → Below w.heap.size w w' → C w') (hR : ∀ j v w w', R j v w → Below w.heap.size w w' → R j v w') (h0 : C w0)
  (hS : Steps (At2 P ops Q D W a0 C R) n) (hQ : ∀ e w, C w → Steps (fun j => R j (e j) w) n → Q .normal (fill D 0 e (fun _ => true) a0) w) : (Code.region id ops true).wp P Q a0 w0 := by
 subst hn;simp only [Bool.and_eq_true] at hc;have hD : dsts ops = D := congrArg Prod.fst h;refine flow2 C R hm (early_tab h hc.1.1) (by rw [hD]; exact hc.1.2) (by rw [hD]; exact hc.2) hC hR h0 (fun i hi => step_at2 h (hS.all i hi)) (fun e w hCw hr => ?_);rw [hD];refine hQ e w hCw ?_
 have hall : ∀ n, n ≤ ops.size → Steps (fun j => R j (e j) w) n := fun n => by
  induction n with
  | zero => intro _; trivial
  | succ n ih => intro hn; exact ⟨ih (by omega), hr n (by omega)⟩
 exact hall _ (Nat.le_refl _)
theorem At2.of {D : List (Option Tmp)} {W : List (List Nat)} {i : Nat} (o : Oper) (ho : ops[i]? = some o) (h : ∀ (e : Nat → Value) (a : Act) (w : World), C w → (∀ j, j ∈ W.getD i [] → R j (e j) w ∧ ∀ t, D[j]? = some (some t) → a.tmps[t]? = some (e j)) → (∀ t, (∀ j, j < D.length → D[j]? = some (some t) → (W.getD j []).contains i = true) → a.tmps[t]? = a0.tmps[t]?) →
  ∀ K : Act → World → Prop, Sdq (∀ v w', Below w.heap.size w w' → R i v w' → K (a.put (D.getD i none) v) w') → if Region.wanted o (yielded ops a.tmps) = true then Oper.wp P o a w K Q else K (a.put (D.getD i none) undef) w) : At2 P ops Q D W a0 C R i := by
 intro e a w h1 h2 h3 K h4;rw [ho];exact h e a w h1 h2 h3 K h4
end
end
end Go.Proofs.YthpgjgmaamcaoaaDoor.P
end
section
namespace Go.Proofs.YthpgjgmaamcaoaaDoor.P
open Go.RowKit Go.Shelf Go.Proofs.YthpgjgmaamcaoaaDoorW.PrintWords Go.Proofs.YthpgjgmaamcaoaaDoorW.PrintLast Go.Proofs.YthpgjgmaamcaoaaDoorW.PrintMore Go.Proofs.YthpgjgmaamcaoaaDoor.Nm
set_option linter.unusedVariables false
set_option linter.unusedSimpArgs false
theorem mul_lt {B : Int} (hB : 2 ≤ B) {a b : List Int} (ha : Dg B a) (hb : Dg B b) : 0 ≤ val B a * val B b ∧ val B a * val B b < B ^ (a.length + b.length) := by
 have h1 := val_nonneg (B := B) (by omega) ha;have h2 := val_nonneg (B := B) (by omega) hb;have h3 := val_lt (B := B) (by omega) ha;have h4 := val_lt (B := B) (by omega) hb;refine ⟨Int.mul_nonneg h1 h2, ?_⟩;rw [Int.pow_add];have h5 : val B a * val B b ≤ val B a * B ^ b.length := Int.mul_le_mul_of_nonneg_left (Int.le_of_lt h4) h1;have h6 : val B a * B ^ b.length < B ^ a.length * B ^ b.length := Int.mul_lt_mul_of_pos_right h3 (by omega)
 omega
theorem r1_Mul.tab5 : tabOf (opsOf Tryd.f85 5) = ([some 14, some 15, some 16, some 17, some 18, some 19, some 20, some 21, some 22, some 5], [[], [0], [], [], [], [3, 4], [5], [2, 6, 1], [1, 7, 7], [8, 8, 0, 1, 2, 3, 4, 5, 6, 7, 8]]) := by kernel_rfl
set_option maxRecDepth 100000 in
theorem r1_Mul (ok : Nat → Prop) (u v : Value) (xs ys : List Int) (w0 : World) (hok : ∀ k, w0.heap.size ≤ k → ok k) (h : Cv (Kd.int .i64) (fun _ => True) w0 u xs) (h' : Cv (Kd.int .i64) (fun _ => True) w0 v ys) (dx : Dg 10 xs) (dy : Dg 10 ys) (lx : xs.length ≤ 400000) (ly : ys.length ≤ 400000) :
  Calls Tryd.prog 85 #[u, v] w0 (CPost (Kd.int .i64) ok w0 (dig 10 (val 10 xs * val 10 ys))) := by
 obtain ⟨B, d, rfl, hd, hG⟩ := h';have rb := Sdq.mk (row_of hG);have hok := Sdq.mk hok;have Dx := Sdq.mk dx;have Dy := Sdq.mk dy
 obtain ⟨T, hT⟩ : ∃ T : Nat → Int, T = fun m => val 10 xs * val 10 (ys.drop m) := ⟨_, rfl⟩
 have hTb : ∀ m, 0 ≤ T m ∧ T m < 10 ^ (xs.length + ys.length) := fun m => by
  rw [hT];have h1 := mul_lt (B := 10) (by decide) dx (dy.drop m);refine ⟨h1.1, Int.lt_of_lt_of_le h1.2 (pow_mono (by decide) (by rw [List.length_drop]; omega))⟩
 have hTs : ∀ m (hm : m < ys.length), T m = T (m + 1) * 10 + val 10 xs * ys[m] := fun m hm => by
  rw [hT]
  dsimp only
  rw [List.drop_eq_getElem_cons hm, val_cons, Int.mul_add, Int.add_comm, Int.mul_left_comm, Int.mul_comm 10]
 have hT0 := Sdq.mk (show T 0 = val 10 xs * val 10 ys by rw [hT]; rfl);have hTn := Sdq.mk (show T ys.length = 0 by rw [hT]; simp);rw [← hT0.out];have hTb := Sdq.mk hTb;have hTs := Sdq.mk hTs;have h := Sdq.mk h;clear hG hd dx dy hT;go_enter Tryd.func85, Tryd.ntmps85;go_wp2
 go_loopg [5, 6] ys.length (fun m s5 s6 wr => m ≤ ys.length ∧ s6 = .int .i64 ((m : Int) - 1) ∧ Sdq (Cv (Kd.int .i64) (fun k => w0.heap.size ≤ k) wr s5 (dig 10 (T m))) ∧ Sdq (Below w0.heap.size w0 wr))
 case atStart => exact ⟨Nat.le_refl _, by go_num, ⟨by rw [hTn.out]; exact Cv.nil⟩, ⟨Below.refl _ _⟩⟩
 case round =>
  obtain ⟨hm, rfl, hv, hb⟩ := hrel
  cases gk with
  | zero =>
   go_wp2;go_ret;exact ⟨_, rfl, hv.out.mono hok.out, hb.out⟩
  | succ j =>
   rw [show ((j + 1 : Nat) : Int) - 1 = j by omega]
   have hjl : j < ys.length := by omega
   obtain ⟨y, hy⟩ : ∃ y, y = ys[j] := ⟨_, rfl⟩
   have hts := hTs.out j hjl;rw [← hy] at hts;have hyb := Dy.out _ (List.getElem_mem hjl);rw [← hy] at hyb;have hx0 := val_nonneg (B := 10) (by decide) Dx.out;have hb1 := hTb.out j;have hb2 := hTb.out (j + 1);have hxy : 0 ≤ val 10 xs * y := Int.mul_nonneg hx0 hyb.1
   have hl1 : (dig 10 (T (j + 1))).length ≤ 800000 := by have := dig_len (B := 10) (by decide) hb2.2; omega
   have hl2 : (dig 10 (T (j + 1) * 10)).length ≤ 800000 := by have := dig_len (B := 10) (n := T (j + 1) * 10) (k := xs.length + ys.length) (by decide) (by omega); omega
   have hl3 : (dig 10 (val 10 xs * y)).length ≤ 800000 := by have := dig_len (B := 10) (n := val 10 xs * y) (k := xs.length + ys.length) (by decide) (by omega); omega
   have hokw : ∀ W : World, Below w0.heap.size w0 W → ∀ k, W.heap.size ≤ k → w0.heap.size ≤ k := fun W h k hk => Nat.le_trans h.size hk
   have hc1 := fun (W : World) (hB : Below w0.heap.size w0 W) (hc : Cv (Kd.int .i64) (fun k => w0.heap.size ≤ k) W u5 (dig 10 (T (j + 1)))) => r1_Times (fun k => w0.heap.size ≤ k) u5 (dig 10 (T (j + 1))) 10 W (hokw W hB) (hc.mono (fun _ _ => trivial)) (dig_Dg (by decide) _) (by omega) (by omega)
   rw [val_dig (by decide) _ hb2.1] at hc1
   have hc2 := fun (W : World) (hB : Below w0.heap.size w0 W) (hc : Cv (Kd.int .i64) (fun _ => True) W u xs) => r1_Times (fun k => w0.heap.size ≤ k) u xs y W (hokw W hB) hc Dx.out (by omega) (by omega)
   have hc3 := fun (W : World) (a b : Value) (hB : Below w0.heap.size w0 W) (ha : Cv (Kd.int .i64) (fun k => w0.heap.size ≤ k) W a (dig 10 (T (j + 1) * 10))) (hb : Cv (Kd.int .i64) (fun k => w0.heap.size ≤ k) W b (dig 10 (val 10 xs * y))) => r1_Add (fun k => w0.heap.size ≤ k) a b _ _ W (hokw W hB) (ha.mono (fun _ _ => trivial)) (hb.mono (fun _ _ => trivial)) (dig_Dg (by decide) _) (dig_Dg (by decide) _) (by omega) (by omega)
   rw [val_dig (by decide) _ (show 0 ≤ T (j + 1) * 10 by omega), val_dig (by decide) _ hxy, ← hts] at hc3;obtain ⟨bd, rfl, hcb⟩ := row_some (rb.out.below hb.out) hjl
   have C : Ctx [uB w0, uCv (Kd.int .i64) (fun _ => True) xs u, uCv (Kd.int .i64) (fun k => w0.heap.size ≤ k) (dig 10 (T (j + 1))) u5, uIs .i64 (some bd) ys] wr := ⟨hb.out, h.out.below hb.out, hv.out, rb.out.below hb.out, trivial⟩
   clear hcb hl1 hl2 hl3 hb1 hb2 hxy hts hv
   go_upto_region 5 with fail
   refine flowT2 (n := 10) r1_Mul.tab5 rfl (Ctx _) (Rl [uEq (u5), uCv (Kd.int .i64) (fun k => w0.heap.size ≤ k) (dig 10 (T (j + 1) * 10)), uEq (u), uEq (.slice (some bd) ys.length d), uEq (.int .i64 (j : Int)), uEq (.pointer (some (bd.add j))), uEq (.int .i64 y), uCv (Kd.int .i64) (fun k => w0.heap.size ≤ k) (dig 10 (val 10 xs * y)), uCv (Kd.int .i64) (fun k => w0.heap.size ≤ k) (dig 10 (T j)), uCv (Kd.int .i64) (fun k => w0.heap.size ≤ k) (dig 10 (T j))]) rfl (by kernel_rfl) (fun _ _ h hb => h.below hb) (Rl.up _) C ⟨⟨⟨⟨⟨⟨⟨⟨⟨⟨trivial, ?_⟩, ?_⟩, ?_⟩, ?_⟩, ?_⟩, ?_⟩, ?_⟩, ?_⟩, ?_⟩, ?_⟩ ?_
   ·refine At2.of _ rfl (fun e a w hC hd hb K hK => ?_)
    have b5 : a.tmps[5]? = some (u5) := hb 5 (by decide);refine value_ (w1 := w) (v := u5) (by rfl) rfl ?_ (hK.out _ _ (Below.refl _ _) rfl);clear hC hd hb hK
    first | (go_simp; done) | (go_simp; rfl)
   ·refine At2.of _ rfl (fun e a w hC hd hb K hK => ?_)
    have q0 := (hd 0 (by decide)).2 14 rfl;rw [show e 0 = _ from (hd 0 (by decide)).1] at q0;refine goes_ Tryd.func102 (by kernel_rfl) rfl #[u5, .int .i64 10] (by rfl) rfl rfl (by first | (simp [Act.eval, q0]; done) | (simp [Act.eval, q0]; rfl)) ?_;refine (hc1 w hC.1 hC.2.2.1).mono ?_;rintro en w' ⟨v, rfl, hv, hb'⟩;exact ⟨v, rfl, hK.out v w' hb' hv⟩
   ·refine At2.of _ rfl (fun e a w hC hd hb K hK => ?_)
    have b0 : a.tmps[0]? = some (u) := hb 0 (by decide);refine value_ (w1 := w) (v := u) (by rfl) rfl ?_ (hK.out _ _ (Below.refl _ _) rfl);clear hC hd hb hK
    first | (go_simp; done) | (go_simp; rfl)
   ·refine At2.of _ rfl (fun e a w hC hd hb K hK => ?_)
    have b1 : a.tmps[1]? = some (.slice (some bd) ys.length d) := hb 1 (by decide);refine value_ (w1 := w) (v := .slice (some bd) ys.length d) (by rfl) rfl ?_ (hK.out _ _ (Below.refl _ _) rfl);clear hC hd hb hK
    first | (go_simp; done) | (go_simp; rfl)
   ·refine At2.of _ rfl (fun e a w hC hd hb K hK => ?_)
    have b6 : a.tmps[6]? = some (.int .i64 (j : Int)) := hb 6 (by decide);refine value_ (w1 := w) (v := .int .i64 (j : Int)) (by rfl) rfl ?_ (hK.out _ _ (Below.refl _ _) rfl);clear hC hd hb hK
    first | (go_simp; done) | (go_simp; rfl)
   ·refine At2.of _ rfl (fun e a w hC hd hb K hK => ?_)
    have q3 := (hd 3 (by decide)).2 17 rfl;rw [show e 3 = _ from (hd 3 (by decide)).1] at q3;have q4 := (hd 4 (by decide)).2 18 rfl;rw [show e 4 = _ from (hd 4 (by decide)).1] at q4;refine value_ (w1 := w) (v := .pointer (some (bd.add j))) (by rfl) rfl ?_ (hK.out _ _ (Below.refl _ _) rfl);clear hC hd hb hK
    first | (go_simp; done) | (go_simp; rfl)
   ·refine At2.of _ rfl (fun e a w hC hd hb K hK => ?_)
    have q5 := (hd 5 (by decide)).2 19 rfl;rw [show e 5 = _ from (hd 5 (by decide)).1] at q5
    have cc : w.cell? (bd.add j) = some (.int .i64 y) := by
     obtain ⟨bd', e1, hcb⟩ := row_some hC.2.2.2.1 hjl;cases e1;rw [hcb j hjl, ← hy]
    clear hy;refine value_ (w1 := w) (v := .int .i64 y) (by rfl) rfl ?_ (hK.out _ _ (Below.refl _ _) rfl);clear hC hd hb hK
    first | (go_simp; done) | (go_simp; rfl)
   ·refine At2.of _ rfl (fun e a w hC hd hb K hK => ?_)
    have q2 := (hd 2 (by decide)).2 16 rfl;rw [show e 2 = _ from (hd 2 (by decide)).1] at q2;have q6 := (hd 6 (by decide)).2 20 rfl;rw [show e 6 = _ from (hd 6 (by decide)).1] at q6;refine goes_ Tryd.func102 (by kernel_rfl) rfl #[u, .int .i64 y] (by rfl) rfl rfl (by first | (simp [Act.eval, q2, q6]; done) | (simp [Act.eval, q2, q6]; rfl)) ?_;refine (hc2 w hC.1 hC.2.1).mono ?_;rintro en w' ⟨v, rfl, hv, hb'⟩;exact ⟨v, rfl, hK.out v w' hb' hv⟩
   ·refine At2.of _ rfl (fun e a w hC hd hb K hK => ?_)
    have q1 := (hd 1 (by decide)).2 15 rfl;have q7 := (hd 7 (by decide)).2 21 rfl;refine goes_ Tryd.func81 (by kernel_rfl) rfl #[e 1, e 7] (by rfl) rfl rfl (by first | (simp [Act.eval, q1, q7]; done) | (simp [Act.eval, q1, q7]; rfl)) ?_;refine (hc3 w (e 1) (e 7) hC.1 (hd 1 (by decide)).1 (hd 7 (by decide)).1).mono ?_;rintro en w' ⟨v, rfl, hv, hb'⟩;exact ⟨v, rfl, hK.out v w' hb' hv⟩
   ·refine At2.of _ rfl (fun e a w hC hd hb K hK => ?_)
    have q8 := (hd 8 (by decide)).2 22 rfl;refine value_ (w1 := w) (v := e 8) (by rfl) rfl ?_ (hK.out _ _ (Below.refl _ _) (hd 8 (by decide)).1);clear hC hd hb hK
    first | (go_simp; done) | (go_simp; rfl)
   ·intro e w hC hr
    have h9 : Cv (Kd.int .i64) (fun k => w0.heap.size ≤ k) w (e 9) (dig 10 (T j)) := hr.2;have hC := Sdq.mk hC;have h9 := Sdq.mk h9;clear hr C hc1 hc2 hc3 hokw hy;simp only [fill, Act.put, if_true, List.setIfInBounds_toArray, List.set_cons_zero, List.set_cons_succ, Nat.reduceAdd];generalize e 9 = v9 at h9 ⊢;go_wp2
    go_roundg j
    case measure => omega
    case rel => exact ⟨by omega, by go_num, h9, ⟨hC.out.1⟩⟩
end Go.Proofs.YthpgjgmaamcaoaaDoor.P
end
section
namespace Go.Proofs.YthpgjgmaamcaoaaDoor.P
open Go.RowKit Go.Shelf Go.Proofs.YthpgjgmaamcaoaaDoorW.PrintWords Go.Proofs.YthpgjgmaamcaoaaDoorW.PrintLast Go.Proofs.YthpgjgmaamcaoaaDoorW.PrintMore Go.Proofs.YthpgjgmaamcaoaaDoor.Nm
set_option linter.unusedVariables false
set_option linter.unusedSimpArgs false
theorem val_drop_le {B : Int} (hB : 2 ≤ B) {l : List Int} (h : Dg B l) (m : Nat) : val B (l.drop m) ≤ val B l := by
 rcases Nat.lt_or_ge m l.length with hlt | hge
 ·have e := val_drop B l m (by omega)
  have h1 := val_nonneg (B := B) (by omega) (h.take m);have h2 := val_nonneg (B := B) (by omega) (h.drop m);have h3 : (1 : Int) ≤ B ^ m := Int.pow_pos (by omega);have h4 : 1 * val B (l.drop m) ≤ B ^ m * val B (l.drop m) := Int.mul_le_mul_of_nonneg_right h3 h2
  omega
 ·rw [List.drop_eq_nil_of_le hge]
  exact val_nonneg (B := B) (by omega) h
theorem val_at {B : Int} {l : List Int} {m : Nat} (h : m < l.length) : val B (l.drop m) = l[m] + B * val B (l.drop (m + 1)) := by rw [List.drop_eq_getElem_cons h, val_cons]
theorem dig_lt_len {B : Int} (hB : 2 ≤ B) {n : Int} {k : Nat} (h0 : 0 ≤ n) (h : (dig B n).length ≤ k) : n < B ^ k := by
 have h1 := val_lt (B := B) (by omega) (dig_Dg hB n);rw [val_dig hB n h0] at h1;exact Int.lt_of_lt_of_le h1 (pow_mono (by omega) h)
set_option maxRecDepth 100000 in
theorem r1_Number (v : Value) (xs : List Int) (w : World) (h : Cv (Kd.int .i64) (fun _ => True) w v xs) (dx : Dg 10 xs) (hl : xs.length ≤ 2000000) (hn : val 10 xs < 18446744073709551616) :
  Calls Tryd.prog 93 #[v] w fun e w' => e = .returned (.int .u64 (val 10 xs)) ∧ w' = w := by
 obtain ⟨A, c, rfl, hc, hF⟩ := h;have ra := Sdq.mk (row_of hF)
 obtain ⟨T, hT⟩ : ∃ T : Nat → Int, T = fun m => val 10 (xs.drop m) := ⟨_, rfl⟩
 have hT0 := Sdq.mk (show T 0 = val 10 xs by rw [hT]; rfl);have hTn := Sdq.mk (show T xs.length = 0 by rw [hT]; simp);have hTs := Sdq.mk (show ∀ m (hm : m < xs.length), T m = xs[m] + 10 * T (m + 1) from fun m hm => by rw [hT]; exact val_at hm);have hTb := Sdq.mk (show ∀ m, 0 ≤ T m ∧ T m < 18446744073709551616 from fun m => by rw [hT]; exact ⟨val_nonneg (by decide) (dx.drop m), Int.lt_of_le_of_lt (val_drop_le (by decide) dx m) hn⟩);have Dx := Sdq.mk dx;rw [← hT0.out];clear hF hc dx hn hT;go_enter Tryd.func93, Tryd.ntmps93;go_wp2
 go_loopg [3, 4] xs.length (fun m a b wr => m ≤ xs.length ∧ a = .int .u64 (T m) ∧ b = .int .i64 ((m : Int) - 1) ∧ wr = w)
 case atStart => exact ⟨Nat.le_refl _, by rw [hTn.out], by go_num, rfl⟩
 case round =>
  obtain ⟨hm, rfl, rfl, rfl⟩ := hrel
  cases gk with
  | zero =>
   go_wp2;go_ret;exact ⟨rfl, rfl⟩
  | succ j =>
   rw [show ((j + 1 : Nat) : Int) - 1 = j by omega]
   have hj : j < xs.length := by omega
   obtain ⟨ad, rfl, hc⟩ := row_some ra.out hj;have hx := hc j hj;have hs := hTs.out j hj;have hxb := Dx.out _ (List.getElem_mem hj)
   obtain ⟨x, hx0⟩ : ∃ x, x = xs[j] := ⟨_, rfl⟩
   rw [← hx0] at hx hs hxb;have b0 := hTb.out j;have b1 := hTb.out (j + 1)
   obtain ⟨t, ht⟩ : ∃ t, t = T (j + 1) := ⟨_, rfl⟩
   rw [← ht] at hs b1 ⊢
   have hr : t * 10 + x = T j := by omega
   have hs := Sdq.mk hs;clear hx0 hc ht;have e1 : IntKind.u64.wrap (t * 10) = t * 10 := u64_in (by omega) (by omega);have e2 : IntKind.u64.wrap x = x := u64_in (by omega) (by omega);have e3 : IntKind.u64.wrap (T j) = T j := u64_in (by omega) (by omega);go_wp2
   go_roundg j
   case measure => omega
   case rel => exact ⟨by omega, by (first | rfl | rw [hs.out]), by go_num, rfl⟩
theorem r1_From.tab6 : tabOf (opsOf Tryd.f86 6) = ([some 14, some 15, some 16, some 17, some 18, some 19, some 20, some 21, some 22, some 23, some 3], [[], [], [0, 1], [], [], [3, 4], [5], [6], [7, 2], [2, 8, 8], [9, 9, 0, 1, 2, 3, 4, 5, 6, 7, 8, 9]]) := by kernel_rfl
set_option maxRecDepth 100000 in
theorem r1_From (ok : Nat → Prop) (v : Value) (xs : List Int) (w0 : World) (hok : ∀ k, w0.heap.size ≤ k → ok k) (h : Cv (Kd.int .u32) (fun _ => True) w0 v xs) (dx : Dg B32 xs) (lx : xs.length ≤ 30000) :
  Calls Tryd.prog 86 #[v] w0 (CPost (Kd.int .i64) ok w0 (dig 10 (val B32 xs))) := by
 obtain ⟨B, d, rfl, hd, hG⟩ := h;have rb := Sdq.mk (row_of hG);have hok := Sdq.mk hok;have Dx := Sdq.mk dx
 obtain ⟨T, hT⟩ : ∃ T : Nat → Int, T = fun m => val B32 (xs.drop m) := ⟨_, rfl⟩
 have hTb := Sdq.mk (show ∀ m, 0 ≤ T m ∧ (dig 10 (T m)).length ≤ 300000 from fun m => by
  rw [hT]
  dsimp only
  refine ⟨val_nonneg (by decide) (dx.drop m), ?_⟩;have h1 := dec_len (dx.drop m);rw [List.length_drop] at h1
  omega)
 have hTs := Sdq.mk (show ∀ m (hm : m < xs.length), T m = xs[m] + B32 * T (m + 1) from fun m hm => by rw [hT]; exact val_at hm);have hT0 := Sdq.mk (show T 0 = val B32 xs by rw [hT]; rfl);have hTn := Sdq.mk (show T xs.length = 0 by rw [hT]; simp);rw [← hT0.out]
 have hS := fun (W : World) (hB : Below w0.heap.size w0 W) (n : Int) (hn : 0 ≤ n ∧ n < 18446744073709551616) => r1_Small (fun k => w0.heap.size ≤ k) n W (fun k hk => Nat.le_trans hB.size hk) hn
 have hS := Sdq.mk hS;clear hG hd dx hT;go_enter Tryd.func86, Tryd.ntmps86;go_wp2_with (go_at_call 84; refine (hS.out w0 (Below.refl _ _) 4294967296 (by omega)).mono ?_; rintro e w1 ⟨v1, rfl, hv1, hb1⟩; have hv1 := Sdq.mk hv1; have hb1 := Sdq.mk hb1)
 go_loopg [3, 5] xs.length (fun m s3 s5 wr => m ≤ xs.length ∧ s5 = .int .i64 ((m : Int) - 1) ∧ Sdq (Cv (Kd.int .i64) (fun k => w0.heap.size ≤ k) wr s3 (dig 10 (T m))) ∧ Sdq (Cv (Kd.int .i64) (fun k => w0.heap.size ≤ k) wr v1 (dig 10 4294967296)) ∧ Sdq (Below w0.heap.size w0 wr))
 case atStart => exact ⟨Nat.le_refl _, by go_num, ⟨by rw [hTn.out]; exact Cv.nil⟩, hv1, hb1⟩
 case round =>
  clear hv1 hb1;obtain ⟨hm, rfl, hv, hv1, hb⟩ := hrel
  cases gk with
  | zero =>
   go_wp2;go_ret;exact ⟨_, rfl, hv.out.mono hok.out, hb.out⟩
  | succ j =>
   rw [show ((j + 1 : Nat) : Int) - 1 = j by omega]
   have hjl : j < xs.length := by omega
   obtain ⟨y, hy⟩ : ∃ y, y = xs[j] := ⟨_, rfl⟩
   have hts := hTs.out j hjl;rw [← hy] at hts;have hyb := Dx.out _ (List.getElem_mem hjl);rw [← hy] at hyb;unfold B32 at hyb;have hb1 := hTb.out j;have hb2 := hTb.out (j + 1)
   obtain ⟨P, hP⟩ : ∃ P, P = T (j + 1) * 4294967296 := ⟨_, rfl⟩
   have hts : T j = P + y := by rw [hts, hP]; unfold B32; omega
   have hP0 : 0 ≤ P := by rw [hP]; omega
   have hl1 : (dig 10 4294967296).length ≤ 400000 := by have := dig_len (B := 10) (n := 4294967296) (k := 10) (by decide) (by decide); omega
   have hl2 : (dig 10 P).length ≤ 400000 := by
    have h1 := dig_lt_len (B := 10) (by decide) hb1.1 hb1.2;have := dig_len (B := 10) (n := P) (k := 300000) (by decide) (by omega)
    omega
   have hl3 : (dig 10 y).length ≤ 400000 := by have := dig_len (B := 10) (n := y) (k := 10) (by decide) (by omega); omega
   have hokw : ∀ W : World, Below w0.heap.size w0 W → ∀ k, W.heap.size ≤ k → w0.heap.size ≤ k := fun W h k hk => Nat.le_trans h.size hk
   have hc1 := fun (W : World) (hB : Below w0.heap.size w0 W) (hc : Cv (Kd.int .i64) (fun k => w0.heap.size ≤ k) W u3 (dig 10 (T (j + 1)))) (hc' : Cv (Kd.int .i64) (fun k => w0.heap.size ≤ k) W v1 (dig 10 4294967296)) => r1_Mul (fun k => w0.heap.size ≤ k) u3 v1 (dig 10 (T (j + 1))) (dig 10 4294967296) W (hokw W hB) (hc.mono (fun _ _ => trivial)) (hc'.mono (fun _ _ => trivial)) (dig_Dg (by decide) _) (dig_Dg (by decide) _) (by omega) (by omega)
   rw [val_dig (by decide) _ hb2.1, val_dig (by decide) _ (by decide), ← hP] at hc1
   have hc3 := fun (W : World) (a b : Value) (hB : Below w0.heap.size w0 W) (ha : Cv (Kd.int .i64) (fun k => w0.heap.size ≤ k) W a (dig 10 P)) (hb : Cv (Kd.int .i64) (fun k => w0.heap.size ≤ k) W b (dig 10 y)) => r1_Add (fun k => w0.heap.size ≤ k) a b _ _ W (hokw W hB) (ha.mono (fun _ _ => trivial)) (hb.mono (fun _ _ => trivial)) (dig_Dg (by decide) _) (dig_Dg (by decide) _) (by omega) (by omega)
   rw [val_dig (by decide) _ hP0, val_dig (by decide) _ hyb.1, ← hts] at hc3;obtain ⟨bd, rfl, hcb⟩ := row_some (rb.out.below hb.out) hjl
   have C : Ctx [uB w0, uCv (Kd.int .i64) (fun k => w0.heap.size ≤ k) (dig 10 (T (j + 1))) u3, uCv (Kd.int .i64) (fun k => w0.heap.size ≤ k) (dig 10 4294967296) v1, uIs .u32 (some bd) xs] wr := ⟨hb.out, hv.out, hv1.out, rb.out.below hb.out, trivial⟩
   have e2 : IntKind.u64.wrap y = y := u64_in (by omega) (by omega);clear hcb hl1 hl2 hl3 hb1 hb2 hts hv hP hv1
   go_upto_region 6 with fail
   refine flowT2 (n := 11) r1_From.tab6 rfl (Ctx _) (Rl [uEq (u3), uEq (v1), uCv (Kd.int .i64) (fun k => w0.heap.size ≤ k) (dig 10 P), uEq (.slice (some bd) xs.length d), uEq (.int .i64 (j : Int)), uEq (.pointer (some (bd.add j))), uEq (.int .u32 y), uEq (.int .u64 y), uCv (Kd.int .i64) (fun k => w0.heap.size ≤ k) (dig 10 y), uCv (Kd.int .i64) (fun k => w0.heap.size ≤ k) (dig 10 (T j)), uCv (Kd.int .i64) (fun k => w0.heap.size ≤ k) (dig 10 (T j))]) rfl (by kernel_rfl) (fun _ _ h hb => h.below hb) (Rl.up _) C ⟨⟨⟨⟨⟨⟨⟨⟨⟨⟨⟨trivial, ?_⟩, ?_⟩, ?_⟩, ?_⟩, ?_⟩, ?_⟩, ?_⟩, ?_⟩, ?_⟩, ?_⟩, ?_⟩ ?_
   ·refine At2.of _ rfl (fun e a w hC hd hb K hK => ?_)
    have b3 : a.tmps[3]? = some (u3) := hb 3 (by decide);refine value_ (w1 := w) (v := u3) (by rfl) rfl ?_ (hK.out _ _ (Below.refl _ _) rfl);clear hC hd hb hK
    first | (go_simp; done) | (go_simp; rfl)
   ·refine At2.of _ rfl (fun e a w hC hd hb K hK => ?_)
    have b4 : a.tmps[4]? = some (v1) := hb 4 (by decide);refine value_ (w1 := w) (v := v1) (by rfl) rfl ?_ (hK.out _ _ (Below.refl _ _) rfl);clear hC hd hb hK
    first | (go_simp; done) | (go_simp; rfl)
   ·refine At2.of _ rfl (fun e a w hC hd hb K hK => ?_)
    have q0 := (hd 0 (by decide)).2 14 rfl;rw [show e 0 = _ from (hd 0 (by decide)).1] at q0;have q1 := (hd 1 (by decide)).2 15 rfl;rw [show e 1 = _ from (hd 1 (by decide)).1] at q1;refine goes_ Tryd.func85 (by kernel_rfl) rfl #[u3, v1] (by rfl) rfl rfl (by first | (simp [Act.eval, q0, q1]; done) | (simp [Act.eval, q0, q1]; rfl)) ?_;refine (hc1 w hC.1 hC.2.1 hC.2.2.1).mono ?_;rintro en w' ⟨v, rfl, hv, hb'⟩;exact ⟨v, rfl, hK.out v w' hb' hv⟩
   ·refine At2.of _ rfl (fun e a w hC hd hb K hK => ?_)
    have b0 : a.tmps[0]? = some (.slice (some bd) xs.length d) := hb 0 (by decide);refine value_ (w1 := w) (v := .slice (some bd) xs.length d) (by rfl) rfl ?_ (hK.out _ _ (Below.refl _ _) rfl);clear hC hd hb hK
    first | (go_simp; done) | (go_simp; rfl)
   ·refine At2.of _ rfl (fun e a w hC hd hb K hK => ?_)
    have b5 : a.tmps[5]? = some (.int .i64 (j : Int)) := hb 5 (by decide);refine value_ (w1 := w) (v := .int .i64 (j : Int)) (by rfl) rfl ?_ (hK.out _ _ (Below.refl _ _) rfl);clear hC hd hb hK
    first | (go_simp; done) | (go_simp; rfl)
   ·refine At2.of _ rfl (fun e a w hC hd hb K hK => ?_)
    have q3 := (hd 3 (by decide)).2 17 rfl;rw [show e 3 = _ from (hd 3 (by decide)).1] at q3;have q4 := (hd 4 (by decide)).2 18 rfl;rw [show e 4 = _ from (hd 4 (by decide)).1] at q4;refine value_ (w1 := w) (v := .pointer (some (bd.add j))) (by rfl) rfl ?_ (hK.out _ _ (Below.refl _ _) rfl);clear hC hd hb hK
    first | (go_simp; done) | (go_simp; rfl)
   ·refine At2.of _ rfl (fun e a w hC hd hb K hK => ?_)
    have q5 := (hd 5 (by decide)).2 19 rfl;rw [show e 5 = _ from (hd 5 (by decide)).1] at q5
    have cc : w.cell? (bd.add j) = some (.int .u32 y) := by
     obtain ⟨bd', e1, hcb⟩ := row_some hC.2.2.2.1 hjl;cases e1;rw [hcb j hjl, ← hy]
    clear hy;refine value_ (w1 := w) (v := .int .u32 y) (by rfl) rfl ?_ (hK.out _ _ (Below.refl _ _) rfl);clear hC hd hb hK
    first | (go_simp; done) | (go_simp; rfl)
   ·refine At2.of _ rfl (fun e a w hC hd hb K hK => ?_)
    have q6 := (hd 6 (by decide)).2 20 rfl;rw [show e 6 = _ from (hd 6 (by decide)).1] at q6;clear hy;refine value_ (w1 := w) (v := .int .u64 y) (by rfl) rfl ?_ (hK.out _ _ (Below.refl _ _) rfl);clear hC hd hb hK
    first | (go_simp; done) | (go_simp; rfl)
   ·refine At2.of _ rfl (fun e a w hC hd hb K hK => ?_)
    have q7 := (hd 7 (by decide)).2 21 rfl;rw [show e 7 = _ from (hd 7 (by decide)).1] at q7;refine goes_ Tryd.func84 (by kernel_rfl) rfl #[.int .u64 y] (by rfl) rfl rfl (by first | (simp [Act.eval, q7]; done) | (simp [Act.eval, q7]; rfl)) ?_;refine (hS.out w hC.1 y ⟨hyb.1, by omega⟩).mono ?_;rintro en w' ⟨v, rfl, hv, hb'⟩;exact ⟨v, rfl, hK.out v w' hb' hv⟩
   ·refine At2.of _ rfl (fun e a w hC hd hb K hK => ?_)
    have q2 := (hd 2 (by decide)).2 16 rfl;have q8 := (hd 8 (by decide)).2 22 rfl;refine goes_ Tryd.func81 (by kernel_rfl) rfl #[e 2, e 8] (by rfl) rfl rfl (by first | (simp [Act.eval, q2, q8]; done) | (simp [Act.eval, q2, q8]; rfl)) ?_;refine (hc3 w (e 2) (e 8) hC.1 (hd 2 (by decide)).1 (hd 8 (by decide)).1).mono ?_;rintro en w' ⟨v, rfl, hv, hb'⟩;exact ⟨v, rfl, hK.out v w' hb' hv⟩
   ·refine At2.of _ rfl (fun e a w hC hd hb K hK => ?_)
    have q9 := (hd 9 (by decide)).2 23 rfl;refine value_ (w1 := w) (v := e 9) (by rfl) rfl ?_ (hK.out _ _ (Below.refl _ _) (hd 9 (by decide)).1);clear hC hd hb hK
    first | (go_simp; done) | (go_simp; rfl)
   ·intro e w hC hr
    have h9 : Cv (Kd.int .i64) (fun k => w0.heap.size ≤ k) w (e 10) (dig 10 (T j)) := hr.2;have hC := Sdq.mk hC;have h9 := Sdq.mk h9;clear hr C hc1 hc3 hokw hy;simp only [fill, Act.put, if_true, List.setIfInBounds_toArray, List.set_cons_zero, List.set_cons_succ, Nat.reduceAdd];generalize e 10 = v9 at h9 ⊢;go_wp2
    go_roundg j
    case measure => omega
    case rel => exact ⟨by omega, by go_num, h9, ⟨hC.out.2.2.1⟩, ⟨hC.out.1⟩⟩
end Go.Proofs.YthpgjgmaamcaoaaDoor.P
end
section
namespace Go.Proofs.YthpgjgmaamcaoaaDoor.P
open Go.RowKit Go.Shelf Go.Proofs.YthpgjgmaamcaoaaDoorW.PrintWords Go.Proofs.YthpgjgmaamcaoaaDoorW.PrintLast Go.Proofs.YthpgjgmaamcaoaaDoorW.PrintMore Go.Proofs.YthpgjgmaamcaoaaDoor.Nm
set_option linter.unusedVariables false
set_option linter.unusedSimpArgs false
theorem r1_DivMod.tab6 : tabOf (opsOf Tryd.f92 6) = ([some 19, some 20, some 21, some 22, some 23, some 24, some 25, some 26, some 27, some 7], [[], [0], [], [], [2, 3], [4], [5], [6, 1], [1, 7, 7], [8, 8, 0, 1, 2, 3, 4, 5, 6, 7, 8]]) := by kernel_rfl
theorem Cv.far {α : Type} {d : Kd α} {ok : Nat → Prop} {w : World} {v : Value} {xs : List α} {p : Addr} (h : Cv d ok w v xs) (hok : ∀ k, ok k → k ≠ p.block) (u : Value) : Cv d ok (w.setCell p u) v xs := by
 obtain ⟨A, c, e, hc, h⟩ := h;exact ⟨A, c, e, hc, Kd.F_far h hok u⟩
def DMPost (ok : Nat → Prop) (q r : Int) (w : World) (e : Ending) (w' : World) : Prop := ∃ v u, e = .returned (.tuple #[v, u]) ∧ Cv (Kd.int .i64) ok w' v (dig 10 q) ∧ Cv (Kd.int .i64) ok w' u (dig 10 r) ∧ Below w.heap.size w w'
structure DvAt (xs : List Int) (b : Int) (m : Nat) (qs : List Int) : Prop where
 len : qs.length = xs.length
 dg : Dg 10 qs
 low : qs.take m = List.replicate m 0
 num : val 10 (qs.drop m) = val 10 (xs.drop m) / b
theorem DvAt.step {xs qs : List Int} {b r R : Int} {j : Nat} (h : DvAt xs b (j + 1) qs) (hb : 0 < b) (hj : j < xs.length) (hr : r = val 10 (xs.drop (j + 1)) % b) (hR : R = r * 10 + xs[j]) (hq : 0 ≤ R / b ∧ R / b < 10) : DvAt xs b j (qs.set j (R / b)) := by
 have e0 := Int.emod_add_mul_ediv (val 10 (xs.drop (j + 1))) b;have e1 := val_at (B := 10) hj
 have hjq : j < qs.length := by rw [h.len]; exact hj
 refine ⟨by rw [List.length_set]; exact h.len, dg_set h.dg hq j, ?_, ?_⟩
 ·rw [List.take_set]
  have : qs.take j = List.replicate j 0 := by
   have := congrArg (List.take j) h.low;rw [List.take_take, Nat.min_eq_left (by omega)] at this;rw [this]; simp
  rw [this];exact List.set_eq_of_length_le (by simp)
 ·have hd1 : (qs.set j (R / b)).drop j = (R / b) :: qs.drop (j + 1) := by
   rw [List.drop_eq_getElem_cons (by simpa using hjq), List.drop_set, if_pos (by omega)]
   simp
  rw [hd1, val_cons, h.num, e1];rw [← hr] at e0;generalize val 10 (xs.drop (j + 1)) / b = Q at *;generalize val 10 (xs.drop (j + 1)) = V at *;rw [← e0, show xs[j] + 10 * (r + b * Q) = R + b * (10 * Q) by rw [hR, Int.mul_add, Int.mul_left_comm b]; omega, Int.add_mul_ediv_left _ _ (by omega)]
theorem DvAt.rem {xs : List Int} {b r R : Int} {j : Nat} (hb : 0 < b) (hj : j < xs.length) (hr : r = val 10 (xs.drop (j + 1)) % b) (hR : R = r * 10 + xs[j]) : R % b = val 10 (xs.drop j) % b := by
 have e0 := Int.emod_add_mul_ediv (val 10 (xs.drop (j + 1))) b;have e1 := val_at (B := 10) hj;rw [e1, hR];rw [← hr] at e0;generalize val 10 (xs.drop (j + 1)) / b = Q at *;generalize val 10 (xs.drop (j + 1)) = V at *;rw [← e0, show xs[j] + 10 * (r + b * Q) = (r * 10 + xs[j]) + b * (10 * Q) by rw [Int.mul_add, Int.mul_left_comm b]; omega, Int.add_mul_emod_self_left]
set_option maxRecDepth 100000 in
set_option maxHeartbeats 1600000 in
theorem r1_DivMod (ok : Nat → Prop) (u v : Value) (xs ys : List Int) (w0 : World) (hok : ∀ k, w0.heap.size ≤ k → ok k) (h : Cv (Kd.int .i64) (fun _ => True) w0 u xs) (h' : Cv (Kd.int .i64) (fun _ => True) w0 v ys) (dx : Dg 10 xs) (dy : Dg 10 ys) (lx : xs.length ≤ 300000) (ly : ys.length ≤ 300000) (hb0 : 0 < val 10 ys) :
  Calls Tryd.prog 92 #[u, v] w0 (DMPost ok (val 10 xs / val 10 ys) (val 10 xs % val 10 ys) w0) := by
 obtain ⟨A, c, rfl, hc, hF⟩ := h;have ra := Sdq.mk (row_of hF);have hok := Sdq.mk hok;have Dx := Sdq.mk dx;have Dy := Sdq.mk dy;have hvb := Sdq.mk h';have hblt := val_lt (B := 10) (by decide) dy
 obtain ⟨b, hbE⟩ : ∃ b, b = val 10 ys := ⟨_, rfl⟩
 obtain ⟨q0, hq0E⟩ : ∃ q, q = val 10 xs / b := ⟨_, rfl⟩
 obtain ⟨r0, hr0E⟩ : ∃ r, r = val 10 xs % b := ⟨_, rfl⟩
 rw [← hbE] at hb0 hblt ⊢;rw [← hq0E, ← hr0E];have hb := Sdq.mk hbE;have hq0 := Sdq.mk hq0E;have hr0 := Sdq.mk hr0E;clear hbE hq0E hr0E;have hblt := Sdq.mk hblt;have hmk := print_make_int (P := Tryd.prog) 32 3 (.int .i64 0) 8 Tryd.underlying32 info3 rfl (by decide) (xs.length : Int) (by omega) (by omega);rw [Int.toNat_natCast] at hmk;have hO := Sdq.mk (Own.made (k := .i64) (e := 3) w0 xs.length);have hB := Sdq.mk (bal (Below.refl w0.heap.size w0) (.cells (madeCells #[.int .i64 0] xs.length) 3));have hsz := Sdq.mk (show w0.heap.size < (w0.alloc (.cells (madeCells #[.int .i64 0] xs.length) 3)).heap.size by simp);clear hF hc dx dy h';go_enter Tryd.func92, Tryd.ntmps92
 go_wp2_with fail
 clear hmk;generalize w0.alloc _ = w1 at hO hB hsz ⊢
 obtain ⟨g, hgE⟩ : ∃ g, g = w0.heap.size := ⟨_, rfl⟩
 rw [← hgE]
 have hO : Sdq (Own .i64 3 g w1 (List.replicate xs.length 0)) := ⟨by rw [hgE]; exact hO.out⟩
 have hg := Sdq.mk hgE;clear hgE
 go_loopg [7, 8] xs.length (fun m s7 s8 wr => m ≤ xs.length ∧ s8 = .int .i64 ((m : Int) - 1) ∧ Sdq (Cv (Kd.int .i64) (fun k => w0.heap.size ≤ k ∧ k ≠ g) wr s7 (dig 10 (val 10 (xs.drop m) % b))) ∧ Sdq (∃ qs, DvAt xs b m qs ∧ Own .i64 3 g wr qs) ∧ Sdq (Below w0.heap.size w0 wr))
 case atStart => exact ⟨Nat.le_refl _, by go_num, ⟨by rw [List.drop_eq_nil_of_le (Nat.le_refl _), val_nil, Int.zero_emod, dig_zero]; exact Cv.nil⟩, ⟨_, ⟨by simp, fun x hx => by rw [List.eq_of_mem_replicate hx]; decide, by simp, by simp⟩, hO.out⟩, hB⟩
 case round =>
  clear hO hB hsz;obtain ⟨hm, rfl, hv, hq, hbl⟩ := hrel
  cases gk with
  | zero =>
   obtain ⟨qs, hD, hO⟩ := hq.out
   have hres := Sdq.mk (show trim qs = dig 10 q0 by
    rw [trim_dig (by decide) hD.dg, show val 10 qs = q0 by have := hD.num; simpa [hq0.out] using this])
   have hre := Sdq.mk (show val 10 (xs.drop 0) % b = r0 by rw [hr0.out]; rfl);have hql := hD.len;have hT := Sdq.mk (r1_Trim (fun k => wr.heap.size ≤ k) wr (fun _ h => h) (.slice (some ⟨g, 0, none⟩) xs.length xs.length) qs (by have := Own.cv hO (by omega) (ok := fun _ => True) trivial xs.length (by omega); rwa [hql] at this) (by omega));clear hq hD hO hql;go_wp2_with (go_at_call 87; (with_reducible refine hT.out.mono ?_); rintro e w' ⟨v, rfl, hv2, hb2⟩);refine bodyPost_ret (by first | (simp [results, Tryd.results92, go_sem]; done) | (simp [results, Tryd.results92, go_sem]; rfl)) rfl ?_;exact ⟨_, _, rfl, by rw [← hres.out]; exact hv2.mono (fun k hk => hok.out k (Nat.le_trans hbl.out.size hk)), by rw [← hre.out]; exact (hv.out.below hb2).mono (fun k hk => hok.out k hk.1), below_step hbl.out hb2⟩
  | succ j =>
   rw [show ((j + 1 : Nat) : Int) - 1 = j by omega]
   have hjl : j < xs.length := by omega
   obtain ⟨qs, hD, hO⟩ := hq.out
   obtain ⟨y, hyE⟩ : ∃ y, y = xs[j] := ⟨_, rfl⟩
   have hyb := Dx.out _ (List.getElem_mem hjl);rw [← hyE] at hyb
   obtain ⟨r, hrE⟩ : ∃ r, r = val 10 (xs.drop (j + 1)) % b := ⟨_, rfl⟩
   rw [← hrE] at hv
   have hr1 : 0 ≤ r ∧ r < b := by rw [hrE]; exact ⟨Int.emod_nonneg _ (by omega), Int.emod_lt_of_pos _ hb0⟩
   obtain ⟨P, hPE⟩ : ∃ P, P = r * 10 := ⟨_, rfl⟩
   obtain ⟨R, hRE⟩ : ∃ R, R = P + y := ⟨_, rfl⟩
   have hP0 : 0 ≤ P := by omega
   have hR0 : 0 ≤ R ∧ R < b * 10 := by omega
   have hRb : 0 ≤ R / b ∧ R / b < 10 := ⟨Int.ediv_nonneg hR0.1 (by omega), Int.ediv_lt_of_lt_mul hb0 (by omega)⟩
   have hbl0 := hblt.out;have hp10 : (10 : Int) ^ (ys.length + 1) = 10 ^ ys.length * 10 := Int.pow_succ ..
   have hl1 : (dig 10 r).length ≤ 400000 := by have := dig_len (B := 10) (n := r) (k := ys.length) (by decide) (by omega); omega
   have hl2 : (dig 10 P).length ≤ 400000 := by have := dig_len (B := 10) (n := P) (k := ys.length + 1) (by decide) (by omega); omega
   have hl3 : (dig 10 y).length ≤ 400000 := by have := dig_len (B := 10) (n := y) (k := 10) (by decide) (by omega); omega
   have hl4 : ∀ Z, Z ≤ R → (dig 10 Z).length ≤ 400000 := fun Z hZ => by have := dig_len (B := 10) (n := Z) (k := ys.length + 1) (by decide) (by omega); omega
   have hl4 := Sdq.mk hl4;have hstep := Sdq.mk (hD.step hb0 hjl hrE (by rw [hRE, hPE, hyE]) hRb);have hrem := Sdq.mk (DvAt.rem hb0 hjl hrE (show R = r * 10 + xs[j] by rw [hRE, hPE, hyE]))
   have hset0 := Sdq.mk (show qs.set j 0 = qs by
    have h1 : qs[j]'(by rw [hD.len]; exact hjl) = 0 := by
     have h2 : (qs.take (j + 1))[j]? = (List.replicate (j + 1) (0 : Int))[j]? := by rw [hD.low]
     rw [List.getElem?_take_of_lt (by omega), List.getElem?_replicate, if_pos (by omega), List.getElem?_eq_getElem (by rw [hD.len]; exact hjl)] at h2;exact Option.some.inj h2
    rw [← h1]; exact List.set_getElem_self _)
   have hql := hD.len
   have hgs : ∀ W : World, Below w0.heap.size w0 W → Own .i64 3 g W qs → ∀ k, W.heap.size ≤ k → w0.heap.size ≤ k ∧ k ≠ g := fun W hB hO k hk => ⟨Nat.le_trans hB.size hk, by have := hO.lt; omega⟩
   have hc1 := fun (W : World) (hB : Below w0.heap.size w0 W) (hO : Own .i64 3 g W qs) (hc : Cv (Kd.int .i64) (fun k => w0.heap.size ≤ k ∧ k ≠ g) W u7 (dig 10 r)) => r1_Times (fun k => w0.heap.size ≤ k ∧ k ≠ g) u7 (dig 10 r) 10 W (hgs W hB hO) (hc.mono (fun _ _ => trivial)) (dig_Dg (by decide) _) (by omega) (by omega)
   rw [val_dig (by decide) _ hr1.1, ← hPE] at hc1
   have hc2 := fun (W : World) (hB : Below w0.heap.size w0 W) (hO : Own .i64 3 g W qs) => r1_Small (fun k => w0.heap.size ≤ k ∧ k ≠ g) y W (hgs W hB hO) (by omega)
   have hc3 := fun (W : World) (a b : Value) (hB : Below w0.heap.size w0 W) (hO : Own .i64 3 g W qs) (ha : Cv (Kd.int .i64) (fun k => w0.heap.size ≤ k ∧ k ≠ g) W a (dig 10 P)) (hb : Cv (Kd.int .i64) (fun k => w0.heap.size ≤ k ∧ k ≠ g) W b (dig 10 y)) => r1_Add (fun k => w0.heap.size ≤ k ∧ k ≠ g) a b _ _ W (hgs W hB hO) (ha.mono (fun _ _ => trivial)) (hb.mono (fun _ _ => trivial)) (dig_Dg (by decide) _) (dig_Dg (by decide) _) (by omega) (by omega)
   rw [val_dig (by decide) _ hP0, val_dig (by decide) _ hyb.1, ← hRE] at hc3;have hg0 := hg.out;obtain ⟨ad, rfl, hcb⟩ := row_some (ra.out.below hbl.out) hjl
   have C : Ctx [uB w0, uCv (Kd.int .i64) (fun k => w0.heap.size ≤ k ∧ k ≠ g) (dig 10 r) u7, uIs .i64 (some ad) xs, uOwn .i64 3 g qs] wr := ⟨hbl.out, hv.out, ra.out.below hbl.out, hO, trivial⟩
   have e2 : IntKind.u64.wrap y = y := u64_in (by omega) (by omega);have hy := Sdq.mk hyE;have hb1 := Sdq.mk (And.intro hR0 hRb);have hgs := Sdq.mk hgs;clear hcb hl1 hl2 hl3 hP0 hPE hRE hrE hyE hv hq hO hD hr1 hR0 hRb hbl0 hp10 hg0
   go_upto_region 6 with fail
   refine flowT2 (n := 10) r1_DivMod.tab6 rfl (Ctx _) (Rl [uEq (u7), uCv (Kd.int .i64) (fun k => w0.heap.size ≤ k ∧ k ≠ g) (dig 10 P), uEq (.slice (some ad) xs.length c), uEq (.int .i64 (j : Int)), uEq (.pointer (some (ad.add j))), uEq (.int .i64 y), uEq (.int .u64 y), uCv (Kd.int .i64) (fun k => w0.heap.size ≤ k ∧ k ≠ g) (dig 10 y), uCv (Kd.int .i64) (fun k => w0.heap.size ≤ k ∧ k ≠ g) (dig 10 R), uCv (Kd.int .i64) (fun k => w0.heap.size ≤ k ∧ k ≠ g) (dig 10 R)]) rfl (by kernel_rfl) (fun _ _ h hb => h.below hb) (Rl.up _) C ⟨⟨⟨⟨⟨⟨⟨⟨⟨⟨trivial, ?_⟩, ?_⟩, ?_⟩, ?_⟩, ?_⟩, ?_⟩, ?_⟩, ?_⟩, ?_⟩, ?_⟩ ?_
   ·refine At2.of _ rfl (fun e a w hC hd hb K hK => ?_)
    have b7 : a.tmps[7]? = some (u7) := hb 7 (by decide);refine value_ (w1 := w) (v := u7) (by rfl) rfl ?_ (hK.out _ _ (Below.refl _ _) rfl);clear hC hd hb hK
    first | (go_simp; done) | (go_simp; rfl)
   ·refine At2.of _ rfl (fun e a w hC hd hb K hK => ?_)
    have q0 := (hd 0 (by decide)).2 19 rfl;rw [show e 0 = _ from (hd 0 (by decide)).1] at q0;refine goes_ Tryd.func102 (by kernel_rfl) rfl #[u7, .int .i64 10] (by rfl) rfl rfl (by first | (simp [Act.eval, q0]; done) | (simp [Act.eval, q0]; rfl)) ?_;refine (hc1 w hC.1 hC.2.2.2.1 hC.2.1).mono ?_;rintro en w' ⟨v, rfl, hv, hb'⟩;exact ⟨v, rfl, hK.out v w' hb' hv⟩
   ·refine At2.of _ rfl (fun e a w hC hd hb K hK => ?_)
    have b0 : a.tmps[0]? = some (.slice (some ad) xs.length c) := hb 0 (by decide);refine value_ (w1 := w) (v := .slice (some ad) xs.length c) (by rfl) rfl ?_ (hK.out _ _ (Below.refl _ _) rfl);clear hC hd hb hK
    first | (go_simp; done) | (go_simp; rfl)
   ·refine At2.of _ rfl (fun e a w hC hd hb K hK => ?_)
    have b8 : a.tmps[8]? = some (.int .i64 (j : Int)) := hb 8 (by decide);refine value_ (w1 := w) (v := .int .i64 (j : Int)) (by rfl) rfl ?_ (hK.out _ _ (Below.refl _ _) rfl);clear hC hd hb hK
    first | (go_simp; done) | (go_simp; rfl)
   ·refine At2.of _ rfl (fun e a w hC hd hb K hK => ?_)
    have q2 := (hd 2 (by decide)).2 21 rfl;rw [show e 2 = _ from (hd 2 (by decide)).1] at q2;have q3 := (hd 3 (by decide)).2 22 rfl;rw [show e 3 = _ from (hd 3 (by decide)).1] at q3;refine value_ (w1 := w) (v := .pointer (some (ad.add j))) (by rfl) rfl ?_ (hK.out _ _ (Below.refl _ _) rfl);clear hC hd hb hK
    first | (go_simp; done) | (go_simp; rfl)
   ·refine At2.of _ rfl (fun e a w hC hd hb K hK => ?_)
    have q4 := (hd 4 (by decide)).2 23 rfl;rw [show e 4 = _ from (hd 4 (by decide)).1] at q4
    have cc : w.cell? (ad.add j) = some (.int .i64 y) := by
     obtain ⟨ad', e1, hcb⟩ := row_some hC.2.2.1 hjl;cases e1;rw [hcb j hjl, ← hy.out]
    refine value_ (w1 := w) (v := .int .i64 y) (by rfl) rfl ?_ (hK.out _ _ (Below.refl _ _) rfl);clear hC hd hb hK
    first | (go_simp; done) | (go_simp; rfl)
   ·refine At2.of _ rfl (fun e a w hC hd hb K hK => ?_)
    have q5 := (hd 5 (by decide)).2 24 rfl;rw [show e 5 = _ from (hd 5 (by decide)).1] at q5;refine value_ (w1 := w) (v := .int .u64 y) (by rfl) rfl ?_ (hK.out _ _ (Below.refl _ _) rfl);clear hC hd hb hK
    first | (go_simp; done) | (go_simp; rfl)
   ·refine At2.of _ rfl (fun e a w hC hd hb K hK => ?_)
    have q6 := (hd 6 (by decide)).2 25 rfl;rw [show e 6 = _ from (hd 6 (by decide)).1] at q6;refine goes_ Tryd.func84 (by kernel_rfl) rfl #[.int .u64 y] (by rfl) rfl rfl (by first | (simp [Act.eval, q6]; done) | (simp [Act.eval, q6]; rfl)) ?_;refine (hc2 w hC.1 hC.2.2.2.1).mono ?_;rintro en w' ⟨v, rfl, hv, hb'⟩;exact ⟨v, rfl, hK.out v w' hb' hv⟩
   ·refine At2.of _ rfl (fun e a w hC hd hb K hK => ?_)
    have q1 := (hd 1 (by decide)).2 20 rfl;have q7 := (hd 7 (by decide)).2 26 rfl;refine goes_ Tryd.func81 (by kernel_rfl) rfl #[e 1, e 7] (by rfl) rfl rfl (by first | (simp [Act.eval, q1, q7]; done) | (simp [Act.eval, q1, q7]; rfl)) ?_;refine (hc3 w (e 1) (e 7) hC.1 hC.2.2.2.1 (hd 1 (by decide)).1 (hd 7 (by decide)).1).mono ?_;rintro en w' ⟨v, rfl, hv, hb'⟩;exact ⟨v, rfl, hK.out v w' hb' hv⟩
   ·refine At2.of _ rfl (fun e a w hC hd hb K hK => ?_)
    have q8 := (hd 8 (by decide)).2 27 rfl;refine value_ (w1 := w) (v := e 8) (by rfl) rfl ?_ (hK.out _ _ (Below.refl _ _) (hd 8 (by decide)).1);clear hC hd hb hK
    first | (go_simp; done) | (go_simp; rfl)
   ·intro e w hC hr
    have h9 : Cv (Kd.int .i64) (fun k => w0.heap.size ≤ k ∧ k ≠ g) w (e 9) (dig 10 R) := hr.2;have hC := Sdq.mk hC;have h9 := Sdq.mk h9;clear hr C hc1 hc2 hc3 e2;simp only [fill, Act.put, if_true, List.setIfInBounds_toArray, List.set_cons_zero, List.set_cons_succ, Nat.reduceAdd];generalize e 9 = v9 at h9 ⊢;go_wp2
    go_loopg [7] (R / b).toNat (fun gk s7 wq => ∃ k : Nat, gk + k = (R / b).toNat ∧ Sdq (Cv (Kd.int .i64) (fun k => w0.heap.size ≤ k ∧ k ≠ g) wq s7 (dig 10 (R - k * b))) ∧ Sdq (Own .i64 3 g wq (qs.set j k)) ∧ Sdq (Below w0.heap.size w0 wq))
    case atStart => exact ⟨0, rfl, ⟨by simpa using h9.out⟩, ⟨by rw [show ((0 : Nat) : Int) = 0 from rfl, hset0.out]; exact hC.out.2.2.2.1⟩, ⟨hC.out.1⟩⟩
    case round =>
     clear h9 hC;obtain ⟨k, hgk, hv, hO, hbq⟩ := hrel;have hRb := hb1.out.2;have hdm := Int.emod_add_mul_ediv R b;have hme := Int.emod_nonneg R (show b ≠ 0 by omega);have hml := Int.emod_lt_of_pos R hb0
     have hk1 : (k : Int) ≤ R / b := by omega
     have hkb : (k : Int) * b ≤ (R / b) * b := Int.mul_le_mul_of_nonneg_right hk1 (by omega);rw [Int.mul_comm (R / b) b] at hkb
     obtain ⟨Z, hZE⟩ : ∃ Z, Z = R - k * b := ⟨_, rfl⟩
     rw [← hZE] at hv
     have hZ0 : 0 ≤ Z := by omega
     have hZR : Z ≤ R := by have : 0 ≤ (k : Int) * b := Int.mul_nonneg (by omega) (by omega); omega
     have hlz := hl4.out Z hZR;have hcmp := r1_Cmp u7 v (dig 10 Z) ys wr (hv.out.mono (fun _ _ => trivial)) (hvb.out.below hbq.out) (dig_Dg (by decide) _) Dy.out (by omega) (by omega);rw [val_dig (by decide) _ hZ0, ← hb.out] at hcmp
     cases gk with
     | zero =>
      have hke : (k : Int) = R / b := by omega
      have hZe : Z = R % b := by rw [hZE, hke, Int.mul_comm]; omega
      rw [sgn_lt (n := Z - b) (by omega)] at hcmp;have hvn := Sdq.mk hv.out;rw [hZe, hrem.out] at hvn;have hOn := Sdq.mk hO.out;rw [hke] at hOn;have hcmp := Sdq.mk hcmp;clear hv hO hZE hke hdm hkb hRb hk1 hZe hZ0 hZR hlz hml hme;go_wp2_with (go_at_call 82; refine hcmp.out.mono ?_; rintro e w2 ⟨rfl, hb2⟩)
      go_roundg j
      case measure => omega
      case rel => exact ⟨by omega, by go_num, ⟨hvn.out.below hb2⟩, ⟨_, hstep.out, hOn.out.below hb2⟩, ⟨below_step hbq.out hb2⟩⟩
     | succ i =>
      have hk2 : (k : Int) + 1 ≤ R / b := by omega
      have hkb2 : ((k : Int) + 1) * b ≤ (R / b) * b := Int.mul_le_mul_of_nonneg_right hk2 (by omega);rw [Int.mul_comm (R / b) b, Int.add_mul, Int.one_mul] at hkb2
      have hZb : b ≤ Z := by omega
      have hs0 : 0 ≤ sgn (Z - b) := by unfold sgn; split <;> (try split) <;> omega
      obtain ⟨sg, hsgE⟩ : ∃ s, s = sgn (Z - b) := ⟨_, rfl⟩
      rw [← hsgE] at hcmp hs0;have hsub := Sdq.mk (fun (W : World) (hB : Below wr.heap.size wr W) => r1_Sub (fun k => w0.heap.size ≤ k ∧ k ≠ g) u7 v (dig 10 Z) ys W (fun k hk => ⟨Nat.le_trans (Nat.le_trans hbq.out.size hB.size) hk, by have h1 := hO.out.lt; have h2 := hB.size; omega⟩) ((hv.out.below hB).mono (fun _ _ => trivial)) ((hvb.out.below hbq.out).below hB) (dig_Dg (by decide) _) Dy.out (by omega) (by omega) (by rw [val_dig (by decide) _ hZ0, ← hb.out]; exact hZb));rw [val_dig (by decide) _ hZ0, ← hb.out] at hsub;have hcmp := Sdq.mk hcmp;have hZn := Sdq.mk (show Z - b = R - ((k + 1 : Nat) : Int) * b by rw [hZE]; push_cast; rw [Int.add_mul, Int.one_mul]; omega)
      have hkl : k ≤ 10 := by omega
      have hjs : j < (qs.set j (k : Int)).length := by rw [List.length_set, hql]; exact hjl
      have hOp := Sdq.mk (fun (W : World) (hB : Below wr.heap.size wr W) => And.intro (by have := (Own.below hO.out hB).at_ hjs; rwa [List.getElem_set_self] at this : W.cell? ⟨g, j, none⟩ = some (.int .i64 (k : Int))) (And.intro ((Own.below hO.out hB).free j) (by have := (Own.below hO.out hB).put j ((k : Int) + 1); rwa [List.set_set] at this : Own .i64 3 g (W.setCell ⟨g, j, none⟩ (.int .i64 ((k : Int) + 1))) (qs.set j ((k : Int) + 1)))));clear hv hO hZE hdm hkb hRb hk1 hZ0 hZR hlz hml hme hkb2 hk2 hsgE hZb;go_wp2_with (first | (go_at_call 82; refine hcmp.out.mono ?_; rintro e w2 ⟨rfl, hb2⟩; have hb2 := Sdq.mk hb2) | (go_at_call 83; refine (hsub.out w2 hb2.out).mono ?_; rintro e w3 ⟨v3, rfl, hv3, hb3⟩; have hB3 := below_step hb2.out hb3; have c0 := (hOp.out w3 hB3).1; have f0 := (hOp.out w3 hB3).2.1; have hOn := Sdq.mk (hOp.out w3 hB3).2.2; have hv3 := Sdq.mk hv3; have hB3 := Sdq.mk hB3; clear hb3))
      go_roundg i
      case measure => omega
      case rel =>
       have hg0 := hg.out;exact ⟨k + 1, by omega, ⟨by rw [← hZn.out]; exact (hv3.out.far (fun k hk => hk.2) _)⟩, ⟨hOn.out⟩, ⟨(below_step hbq.out hB3.out).setCell (by dsimp only; omega) _⟩⟩
end Go.Proofs.YthpgjgmaamcaoaaDoor.P
end
section
namespace Go.Proofs.YthpgjgmaamcaoaaDoor.P
open Go.RowKit Go.Shelf Go.Proofs.YthpgjgmaamcaoaaDoorW.PrintWords Go.Proofs.YthpgjgmaamcaoaaDoorW.PrintLast Go.Proofs.YthpgjgmaamcaoaaDoorW.PrintMore Go.Proofs.YthpgjgmaamcaoaaDoor.Nm
set_option linter.unusedVariables false
set_option linter.unusedSimpArgs false
theorem blk_le {w W : World} (h : Below w.heap.size w W) : w.heap.size ≤ W.heap.size := h.size
theorem dig_mono {B m n : Int} (hB : 2 ≤ B) (h0 : 0 ≤ m) (h : m ≤ n) : (dig B m).length ≤ (dig B n).length := by
 refine dig_len hB (Int.lt_of_le_of_lt h ?_);exact dig_lt_len hB (by omega) (Nat.le_refl _)
theorem pow_base : ∀ k : Nat, (10 : Int) ^ k ≤ B32 ^ k
 | 0 => by simp
 | k + 1 => by
  rw [Int.pow_succ, Int.pow_succ];have h := pow_base k;have h0 : (0 : Int) ≤ B32 ^ k := Int.le_of_lt (Int.pow_pos (by decide));exact Int.mul_le_mul h (by decide) (by decide) h0
set_option maxRecDepth 100000 in
set_option maxHeartbeats 1600000 in
theorem r1_Limbs (ok : Nat → Prop) (v : Value) (xs : List Int) (w0 : World) (hok : ∀ k, w0.heap.size ≤ k → ok k) (h : Cv (Kd.int .i64) (fun _ => True) w0 v xs) (dx : Dg 10 xs) (lx : xs.length ≤ 300000) :
  Calls Tryd.prog 69 #[v] w0 (CPost (Kd.int .u32) ok w0 (dig B32 (val 10 xs))) := by
 have hT := r1_Trim (fun _ => True) w0 (fun _ _ => trivial) v xs h (by omega);have htl := trim_length xs
 obtain ⟨n, hnE⟩ : ∃ n, n = val 10 xs := ⟨_, rfl⟩
 have hn0 : 0 ≤ n := by rw [hnE]; exact val_nonneg (by decide) dx
 rw [trim_dig (by decide) dx] at hT htl;rw [← hnE] at hT htl ⊢
 have hlen : (dig 10 n).length ≤ 300000 := by omega
 have hnb := dig_lt_len (B := 10) (by decide) hn0 hlen;have hnl : (dig B32 n).length ≤ 300000 := dig_len (B := B32) (by decide) (Int.lt_of_lt_of_le hnb (pow_base 300000));have hT := Sdq.mk hT;have hok := Sdq.mk hok;have hS := Sdq.mk (fun (W : World) => r1_Small (fun _ => True) 4294967296 W (fun _ _ => trivial) (by omega));clear h dx lx hnE htl hnb;go_enter Tryd.func69, Tryd.ntmps69;go_wp2_with (first | (go_at_call 87; refine hT.out.mono ?_; rintro e w1 ⟨v1, rfl, hv1, hb1⟩; have hv1 := Sdq.mk hv1; have hb1 := Sdq.mk hb1) | (go_at_call 84; refine (hS.out w1).mono ?_; rintro e w2 ⟨v2, rfl, hv2, hb2⟩; have hv2 := Sdq.mk hv2; have hb2 := Sdq.mk hb2));have hb := Sdq.mk (below_step hb1.out hb2.out);have hv := Sdq.mk (hv1.out.below hb2.out);clear hv1 hb1 hb2;have hB10 : val 10 (dig 10 4294967296) = 4294967296 := val_dig (by decide) _ (by decide);have hBl : (dig 10 4294967296).length ≤ 10 := dig_len (B := 10) (by decide) (by decide)
 obtain ⟨Bd, hBd⟩ : ∃ Bd, Bd = dig 10 4294967296 := ⟨_, rfl⟩
 have hBg : Dg 10 Bd := by rw [hBd]; exact dig_Dg (by decide) _
 rw [← hBd] at hB10 hBl hv2;have hB10 := Sdq.mk hB10;have hBg := Sdq.mk hBg;have hsw := Sdq.mk (blk_le hb.out);clear hBd hS hT
 go_loopg [3, 4] (dig B32 n).length (fun gk s3 s4 wr => ∃ (m : Int) (out : List Int) (A4 : Option Addr) (c4 : Nat), s4 = .slice A4 (dig 10 m).length c4 ∧ Sdq (0 ≤ m ∧ m ≤ n) ∧ gk = (dig B32 m).length ∧ Sdq (dig B32 n = out ++ dig B32 m) ∧ Sdq (Cv (Kd.int .i64) (fun k => some k ≠ s3.ownBlock) wr s4 (dig 10 m)) ∧ Sdq (wr.ownsRow w2.heap.size 93 1 s3 out.length (nums .u32 out)) ∧ Sdq (Below w2.heap.size w2 wr))
 case atStart =>
  obtain ⟨A4, c4, rfl, hc4, hF4⟩ := hv.out;exact ⟨n, [], A4, c4, rfl, ⟨hn0, Int.le_refl _⟩, rfl, ⟨rfl⟩, ⟨⟨A4, c4, rfl, hc4, Kd.F_mono hF4 (fun k _ h => by simp [Value.ownBlock] at h)⟩⟩, ⟨⟨rfl, .inl ⟨rfl, rfl⟩⟩⟩, ⟨Below.refl _ _⟩⟩
 case round =>
  clear hv;obtain ⟨m, out, A4, c4, rfl, hm, hg, he, hv, ho, hb2⟩ := hrel;by_cases hm0 : m = 0
  ·subst hm0
   obtain rfl : out = dig B32 n := by rw [he.out]; simp [dig_zero]
   clear hv hm hg he;simp only [dig_zero, List.length_nil];go_wp2;go_ret;exact ⟨_, rfl, own_cv ho.out (by omega) (fun k hk => hok.out k (Nat.le_trans hsw.out hk)), below_step hb.out hb2.out⟩
  ·have hmp : 0 < m := by have := hm.out; omega
   have hlm : (dig 10 m).length ≤ 300000 := Nat.le_trans (dig_mono (by decide) hm.out.1 hm.out.2) hlen
   have hnz : 0 < (dig 10 m).length := by rw [dig_succ (by decide) hmp]; simp
   have hdm := dig_succ (B := B32) (by decide) hmp;have hdv := r1_DivMod (fun k => some k ≠ u3.ownBlock) (.slice A4 (dig 10 m).length c4) v2 (dig 10 m) Bd wr (own_new ho.out) (hv.out.mono (fun _ _ => trivial)) (hv2.out.below hb2.out) (dig_Dg (by decide) m) hBg.out hlm (by omega) (by rw [hB10.out]; decide);rw [val_dig (by decide) m (by omega), hB10.out] at hdv;unfold B32 at hdm
   obtain ⟨q, hqE⟩ : ∃ q, q = m / 4294967296 := ⟨_, rfl⟩
   obtain ⟨r, hrE⟩ : ∃ r, r = m % 4294967296 := ⟨_, rfl⟩
   rw [← hqE, ← hrE] at hdv hdm
   have hr0 : 0 ≤ r ∧ r < 4294967296 := by omega
   have hnum := Sdq.mk (fun (W : World) (v : Value) (hc : Cv (Kd.int .i64) (fun _ => True) W v (dig 10 r)) => r1_Number v (dig 10 r) W hc (dig_Dg (by decide) r) (by have := dig_len (B := 10) (n := r) (k := 10) (by decide) (by omega); omega) (by rw [val_dig (by decide) r hr0.1]; omega));rw [val_dig (by decide) r hr0.1] at hnum;have hq0 := Sdq.mk (show 0 ≤ q ∧ q ≤ n by have := hm.out; omega);have hdm : dig B32 m = r :: dig B32 q := hdm
   have hgl : (dig B32 n).length = out.length + gk := by rw [he.out, List.length_append, hg]
   have hol := Sdq.mk (show (out.length + 1) * 4 ≤ 140737488355328 by omega);have he := Sdq.mk (show dig B32 n = (out ++ [r]) ++ dig B32 q by rw [he.out, hdm]; simp);have hg := Sdq.mk (show gk = (dig B32 q).length + 1 by rw [hg, hdm]; rfl)
   have hsz2 : ∀ W : World, Below wr.heap.size wr W → w2.heap.size ≤ W.heap.size := fun W h => Nat.le_trans hb2.out.size h.size
   have e1 : IntKind.u32.wrap r = r := by rw [IntKind.wrap_u32']; exact Int.emod_eq_of_lt hr0.1 hr0.2
   have hdv := Sdq.mk hdv;clear hqE hrE hdm hm hm0 hgl hv
   go_wp2_with (first
    | (go_at_call 92; refine hdv.out.mono ?_; rintro e w3 ⟨vq, vr, rfl, hvq, hvr, hb3⟩; have hvq := Sdq.mk hvq; have hvr := Sdq.mk hvr; have hb3 := Sdq.mk hb3)
    | (go_at_call 93; refine (hnum.out w3 _ (hvr.out.mono (fun _ _ => trivial))).mono ?_; rintro e w4 ⟨rfl, rfl⟩)
    | (at_builtin; refine print_append_num (w0 := w4) w2.heap.size rfl _ _ 22 93 .u32 4 rfl Tryd.underlying22 info93 (by decide) u3 out r rfl rfl (own_bel ho.out hb3.out) (Below.refl _ _) (hsz2 w4 hb3.out) hol.out ?_; intro v5 w5 hown5 hbe5 hgr5 hat5))
   obtain ⟨A5, c5, rfl, hc5, hF5⟩ := hvq.out
   have hV5 := ((Cv.within (ok' := fun k => some k ≠ u3.ownBlock ∧ k < w4.heap.size) ⟨A5, c5, rfl, hc5, hF5⟩ (fun k h1 h2 => ⟨h1, h2⟩)).grown hgr5 (fun k h => h.1)).mono (ok' := fun k => some k ≠ v5.ownBlock) (fun k h => by
    rcases hat5 with h5 | ⟨b, h5, h6⟩
    ·rw [h5]; exact h.1
    ·rw [h5]
     simp only [ne_eq, Option.some.injEq];have := h.2
     omega)
   go_roundg (dig B32 q).length
   case measure => have := hg.out; omega
   case rel => exact ⟨q, out ++ [r], A5, c5, rfl, hq0, rfl, he, ⟨hV5⟩, ⟨hown5⟩, ⟨(hb2.out.trans (hb3.out.mono hb2.out.size)).trans hbe5⟩⟩
end Go.Proofs.YthpgjgmaamcaoaaDoor.P
end
section
namespace Go.Proofs.YthpgjgmaamcaoaaDoor.P
open Go.RowKit Go.Shelf Go.Proofs.YthpgjgmaamcaoaaDoorW.PrintWords Go.Proofs.YthpgjgmaamcaoaaDoorW.PrintLast Go.Proofs.YthpgjgmaamcaoaaDoorW.PrintMore Go.Proofs.YthpgjgmaamcaoaaDoor.Nm
set_option linter.unusedVariables false
set_option linter.unusedSimpArgs false
set_option maxRecDepth 100000 in
theorem r1_Words (u v : Value) (xs ys : List Int) (w : World) (h : Cv (Kd.int .u32) (fun _ => True) w u xs) (h' : Cv (Kd.int .u32) (fun _ => True) w v ys) (lx : xs.length ≤ 1000000) :
  Calls Tryd.prog 20 #[u, v] w fun e w' => e = .returned (.bool (decide (xs = ys))) ∧ Below w.heap.size w w' := by
 obtain ⟨A, c, rfl, -, hF⟩ := h;obtain ⟨B, d, rfl, -, hG⟩ := h';have ra := Sdq.mk (row_of hF);have rb := Sdq.mk (row_of hG)
 obtain ⟨s, hsE⟩ : ∃ s, s = decide (xs = ys) := ⟨_, rfl⟩
 rw [← hsE];have hs := Sdq.mk hsE;clear hF hG hsE;by_cases hl : xs.length = ys.length
 ·have h1 : ((xs.length : Int) == (ys.length : Int)) = true := by simp; omega
  have hl' := Sdq.mk hl;clear hl;go_enter Tryd.func20, Tryd.ntmps20;go_wp2;rw [show ((xs.length : Int) != (ys.length : Int)) = false by have := hl'.out; simp; omega]
  go_loopg [5] xs.length (fun gk i wr => ∃ m : Nat, gk + m = xs.length ∧ i = .int .i64 m ∧ Sdq (xs.take m = ys.take m) ∧ Sdq (Below w.heap.size w wr))
  case atStart => exact ⟨0, rfl, rfl, ⟨rfl⟩, ⟨Below.refl _ _⟩⟩
  case round =>
   obtain ⟨m, hm, rfl, hd, hb⟩ := hrel
   cases gk with
   | zero =>
    obtain rfl : s = true := by
     rw [hs.out];have h := hd.out;rw [List.take_of_length_le (by omega), List.take_of_length_le (by have := hl'.out; omega)] at h
     simpa using h
    have hnl : ¬ (m : Int) < (xs.length : Int) := by omega
    clear hs;go_wp2;go_ret;exact ⟨rfl, hb.out⟩
   | succ j =>
    have hmx : m < xs.length := by omega
    have hmy : m < ys.length := by have := hl'.out; omega
    obtain ⟨ad, rfl, hca⟩ := row_some (ra.out.below hb.out) hmx;obtain ⟨bd, rfl, hcb⟩ := row_some (rb.out.below hb.out) hmy;have ca := hca m hmx;have cb := hcb m hmy
    obtain ⟨x, hxE⟩ : ∃ x, x = xs[m] := ⟨_, rfl⟩
    obtain ⟨y, hyE⟩ : ∃ y, y = ys[m] := ⟨_, rfl⟩
    rw [← hxE] at ca;rw [← hyE] at cb;have hx := Sdq.mk hxE;have hy := Sdq.mk hyE;clear hca hcb hxE hyE;by_cases hxy : x = y
    ·subst hxy
     have hd' := Sdq.mk (show xs.take (m + 1) = ys.take (m + 1) by rw [List.take_succ_eq_append_getElem hmx, List.take_succ_eq_append_getElem hmy, hd.out, ← hx.out, ← hy.out]);go_wp2;refine wp_region_still_tail 8 (by kernel_rfl) (by kernel_rfl) ?_;simp only [List.take_succ_cons, List.take_zero, List.drop_succ_cons, List.drop_zero]
     repeat still_step
     refine wpStill_nil ?_;go_wp2
     go_roundg j
     case measure => omega
     case rel => exact ⟨m + 1, by omega, by go_num, hd', ⟨hb.out.drew⟩⟩
    ·obtain rfl : s = false := by
      rw [hs.out];simp only [decide_eq_false_iff_not];intro he;refine hxy ?_;rw [hx.out, hy.out];subst he
      rfl
     have hne : (x == y) = false := by simpa using hxy
     clear hs;go_wp2;refine wp_region_still_tail 8 (by kernel_rfl) (by kernel_rfl) ?_;simp only [List.take_succ_cons, List.take_zero, List.drop_succ_cons, List.drop_zero]
     repeat still_step
     refine wpStill_nil ?_;go_wp2;go_ret;exact ⟨rfl, hb.out.drew⟩
 ·obtain rfl : s = false := by
   rw [hs.out];simp only [decide_eq_false_iff_not];intro he;exact hl (by rw [he])
  have h1 : ((xs.length : Int) == (ys.length : Int)) = false := by simp; omega
  clear hs hl;go_enter Tryd.func20, Tryd.ntmps20;go_wp2;go_ret;exact ⟨rfl, Below.refl _ _⟩
end Go.Proofs.YthpgjgmaamcaoaaDoor.P
end
section
namespace Go.Proofs.YthpgjgmaamcaoaaDoor.P
open Go.RowKit Go.Shelf Go.Proofs.YthpgjgmaamcaoaaDoorW.PrintWords Go.Proofs.YthpgjgmaamcaoaaDoorW.PrintLast Go.Proofs.YthpgjgmaamcaoaaDoorW.PrintMore Go.Proofs.YthpgjgmaamcaoaaDoor.Nm
set_option maxRecDepth 100000
set_option linter.unusedVariables false
set_option linter.unusedSimpArgs false
def nv (x : S34) : Int := sg x.f0 (val 10 x.f1)
def cn (n : Int) : S34 := ⟨decide (n < 0), dig 10 n.natAbs⟩
structure Dec (x : S34) : Prop where
 dg : Dg 10 x.f1
 len : x.f1.length ≤ 200000
theorem nv_cn (n : Int) : nv (cn n) = n := by
 unfold nv cn sg;simp only [decide_eq_true_eq];rw [val_dig (by decide) _ (by omega)]
 split <;> omega
theorem cn_dg (n : Int) : Dg 10 (cn n).f1 := dig_Dg (by decide) _
theorem cn_len {n : Int} {k : Nat} (h : (n.natAbs : Int) < 10 ^ k) : (cn n).f1.length ≤ k := dig_len (by decide) h
theorem norm_cn (b : Bool) {xs : List Int} (h : Dg 10 xs) : cn (sg b (val 10 xs)) = if trim xs = [] then ⟨false, []⟩ else ⟨b, trim xs⟩ := by
 have h0 := val_nonneg (B := 10) (by decide) h;have e := trim_dig (by decide) h;unfold cn;rw [show ((sg b (val 10 xs)).natAbs : Int) = val 10 xs by unfold sg; split <;> omega, ← e]
 split
 ·rename_i ht
  rw [ht];rw [ht] at e
  have : val 10 xs = 0 := by
   have := val_dig (B := 10) (by decide) (val 10 xs) h0;rw [← e] at this
   simpa using this.symm
  rw [this];unfold sg
  cases b <;> rfl
 ·rename_i ht
  have hp : 0 < val 10 xs := by
   rw [← trim_val xs];exact val_pos (by decide) (trim_Dg h) (trim_Tm _) ht
  congr 1
  unfold sg;cases b
  ·simp; omega
  ·simp; omega
section
variable {ok : Nat → Prop} {w : World} {v : Value}
theorem Kv.openN {x : S34} (h : Kv k34 ok w v x) : ∃ A c, v = .agg #[.bool x.f0, .slice A x.f1.length c] ∧ x.f1.length ≤ c ∧ Kd.F (Kd.int .i64) w ok A x.f1.length x.f1 := by
 obtain ⟨cs, rfl, hk⟩ := h;obtain ⟨A, c, rfl, h⟩ := k34_openF hk;exact ⟨A, c, rfl, h⟩
theorem Kv.mkN {x : S34} {A : Option Addr} {c : Nat} (hc : x.f1.length ≤ c) (h : Kd.F (Kd.int .i64) w ok A x.f1.length x.f1) : Kv k34 ok w (.agg #[.bool x.f0, .slice A x.f1.length c]) x := ⟨_, rfl, k34_mkF w ok x hc h⟩
end
set_option maxHeartbeats 1600000 in
theorem r2_Norm (ok : Nat → Prop) (v : Value) (x : S34) (w0 : World) (hok : ∀ k, w0.heap.size ≤ k → ok k) (h : Kv k34 (fun _ => True) w0 v x) (dx : Dg 10 x.f1) (lx : x.f1.length ≤ 1000000) :
  Calls Tryd.prog 57 #[v] w0 (KPost k34 ok w0 (cn (nv x))) := by
 obtain ⟨O, hO, hO1⟩ : ∃ O : Nat → Prop, (∀ k, O k → ok k ∧ k ≠ w0.heap.size + 1) ∧ (∀ k, w0.heap.size + 1 < k → O k) := ⟨fun k => ok k ∧ k ≠ w0.heap.size + 1, fun _ h => h, fun k hk => ⟨hok k (by omega), by omega⟩⟩
 obtain ⟨xA, xc, rfl, xl, xF⟩ := h.openN;have C := Ctx.new (cs := [.bool false, .slice none 0 0]) (t := 34) (Ctx.new (cs := [.bool x.f0, .slice xA x.f1.length xc]) (t := 34) (Ctx.cons (uB w0) (Below.refl _ _) (Ctx.cons (uCv (Kd.int .i64) (fun _ => True) x.f1 (.slice xA x.f1.length xc)) ⟨_, _, rfl, xl, xF⟩ Ctx.nil)));simp only [World.size_alloc] at C;rw [show nv x = sg x.f0 (val 10 x.f1) from rfl, norm_cn x.f0 dx]
 obtain ⟨r0, hr0⟩ : ∃ r0 : S34, r0 = if trim x.f1 = [] then ⟨false, []⟩ else ⟨x.f0, trim x.f1⟩ := ⟨_, rfl⟩
 rw [← hr0];have hr := Sdq.mk hr0;clear hr0 h hok xl xF;go_enter Tryd.func57, Tryd.ntmps57
 go_upto_region 1 with fail
 refine absW _ C ?_;clear C;intro w1 C;have y0 := Ctx.blk C.2.1 0 rfl;have y1 := Ctx.blk C.2.1 1 rfl;have C := Sdq.mk C
 go_upto_region 2 with (go_at_call 87; refine (r1_Trim O w1 (fun k hk => hO1 k (by have := blk_lt C.out.1; omega)) _ x.f1 C.out.2.2.2.1 (by omega)).mono ?_; rintro e w2 ⟨v2, rfl, hv, hb⟩)
 have C2 := Ctx.cons (uCv (Kd.int .i64) O (trim x.f1) v2) hv (C.out.below hb);clear C hv hb dx lx y0 y1;refine absW _ C2 ?_;clear C2;intro w3 C;generalize trim x.f1 = ps at C hr
 obtain ⟨A, c, rfl, hc, hF⟩ := (show Cv (Kd.int .i64) O w3 v2 ps from C.1)
 have z0 := Ctx.blk C.2.1 0 rfl;have z1 := Ctx.blk C.2.1 1 rfl;have f0 := Ctx.frz C.2.1 0;have f1 := Ctx.frz C.2.1 1;have y0 := Ctx.blk C.2.2.1 0 rfl
 by_cases hp : ps = []
 ·subst hp
  obtain rfl : r0 = ⟨false, []⟩ := by rw [hr.out, if_pos rfl]
  have E := Sdq.mk (end2 (d := k34) (ok := ok) (x := ⟨false, []⟩) (c0 := .bool false) (c1 := .slice none 0 0) C.2.1 C.2.2.2.1 (by omega) hO (Kv.mkN (x := ⟨false, []⟩) (Nat.le_refl _) (Kd.F_nil _ _ _)) _ rfl);clear C hc hF hO hO1;go_wp2;have E := E.out;clear z0 z1 f0 f1 y0;generalize World.setCell _ _ _ = wf at E ⊢;obtain ⟨EP, c0, c1⟩ := E;exact bodyPost_ret (v := .agg #[.bool false, .slice none 0 0]) (by simp [results, Tryd.results57, go_sem, c0, c1]) rfl EP
 ·have hz : ((ps.length : Int) == 0) = false := by
   simp; exact hp
  obtain rfl : r0 = ⟨x.f0, ps⟩ := by rw [hr.out, if_neg hp]
  clear hp hr;have E := Sdq.mk (end2 (d := k34) (ok := ok) (x := ⟨x.f0, ps⟩) (c0 := .bool x.f0) (c1 := .slice A ps.length c) C.2.1 C.2.2.2.1 (by omega) hO (Kv.mkN (x := ⟨x.f0, ps⟩) hc hF) _ rfl);clear C hc hF hO hO1;go_wp2;have E := E.out;clear z0 z1 f0 f1 y0;generalize World.setCell _ _ _ = wf at E ⊢;obtain ⟨EP, c0, c1⟩ := E;exact bodyPost_ret (v := .agg #[.bool x.f0, .slice A ps.length c]) (by simp [results, Tryd.results57, go_sem, c0, c1]) rfl EP
end Go.Proofs.YthpgjgmaamcaoaaDoor.P
end
section
namespace Go.Proofs.YthpgjgmaamcaoaaDoor.P
open Go.RowKit Go.Shelf Go.Proofs.YthpgjgmaamcaoaaDoorW.PrintWords Go.Proofs.YthpgjgmaamcaoaaDoorW.PrintLast Go.Proofs.YthpgjgmaamcaoaaDoorW.PrintMore Go.Proofs.YthpgjgmaamcaoaaDoor.Nm
set_option maxRecDepth 100000
set_option linter.unusedVariables false
set_option linter.unusedSimpArgs false
set_option maxHeartbeats 1600000 in
theorem r2_From (ok : Nat → Prop) (b : Bool) (v : Value) (xs : List Int) (w0 : World) (hok : ∀ k, w0.heap.size ≤ k → ok k) (h : Cv (Kd.int .u32) (fun _ => True) w0 v xs) (dx : Dg B32 xs) (lx : xs.length ≤ 30000) :
  Calls Tryd.prog 55 #[.bool b, v] w0 (KPost k34 ok w0 (cn (sg b (val B32 xs)))) := by
 obtain ⟨O, hO, hO1⟩ : ∃ O : Nat → Prop, (∀ k, O k → ok k ∧ k ≠ w0.heap.size) ∧ (∀ k, w0.heap.size < k → O k) := ⟨fun k => ok k ∧ k ≠ w0.heap.size, fun _ h => h, fun k hk => ⟨hok k (by omega), by omega⟩⟩
 have C := Ctx.new (cs := [.bool false, .slice none 0 0]) (t := 34) (Ctx.cons (uB w0) (Below.refl _ _) (Ctx.cons (uCv (Kd.int .u32) (fun _ => True) xs v) h Ctx.nil));have h0 := val_nonneg (B := B32) (by decide) dx;have hdl := dec_len dx
 have hnv : nv (⟨b, dig 10 (val B32 xs)⟩ : S34) = sg b (val B32 xs) := by unfold nv; rw [val_dig (by decide) _ h0]
 have hF := fun (W : World) (hc : Cv (Kd.int .u32) (fun _ => True) W v xs) => r1_From (fun _ => True) v xs W (fun _ _ => trivial) hc dx lx
 have hN := fun (W : World) (A : Option Addr) (c : Nat) (hW : w0.heap.size < W.heap.size) (hc : (dig 10 (val B32 xs)).length ≤ c) (hf : Kd.F (Kd.int .i64) W (fun _ => True) A (dig 10 (val B32 xs)).length (dig 10 (val B32 xs))) => r2_Norm O _ ⟨b, dig 10 (val B32 xs)⟩ W (fun k hk => hO1 k (by omega)) (Kv.mkN (x := ⟨b, dig 10 (val B32 xs)⟩) hc hf) (dig_Dg (by decide) _) (by dsimp only; omega)
 rw [hnv] at hN;have hF := Sdq.mk hF;have hN := Sdq.mk hN;clear h hok hnv hdl h0 dx lx;generalize cn (sg b (val B32 xs)) = r at *;go_enter Tryd.func55, Tryd.ntmps55
 go_upto_region 1 with fail
 refine absW _ C ?_;clear C;intro w1 C;have C := Sdq.mk C
 go_wp2_with (first
  | (go_at_call 86; refine (hF.out w1 C.out.2.2.1).mono ?_; rintro e w2 ⟨v2, rfl, ⟨A, c, rfl, hc, hf⟩, hb⟩; have hb := Sdq.mk hb; have hf := Sdq.mk hf; have hc := Sdq.mk hc)
  | (go_at_call 57; refine (hN.out w2 A c (by have := blk_lt C.out.1; have := hb.out.size; omega) hc.out hf.out).mono ?_; rintro e w3 ⟨v3, rfl, hv3, hb3⟩; have C := Ctx.cons (uK k34 O v3 r) hv3 ((C.out.below hb.out).below hb3); obtain ⟨zA, zc, rfl, zl, zF⟩ := hv3.openN; have E := Sdq.mk (end2 (ok := ok) C.2.1 C.2.2.1 (Nat.le_refl _) hO C.1 _ rfl); have z0 := Ctx.blk C.2.1 0 rfl; have z1 := Ctx.blk C.2.1 1 rfl; have f0 := Ctx.frz C.2.1 0; have f1 := Ctx.frz C.2.1 1; clear C hv3 hb3 zl zF))
 have E := E.out;clear z0 z1 f0 f1;generalize World.setCell _ _ _ = wf at E ⊢;obtain ⟨EP, c0, c1⟩ := E;exact bodyPost_ret (by first | (simp [results, Tryd.results55, go_sem, c0, c1]; done) | (simp [results, Tryd.results55, go_sem, c0, c1]; rfl)) rfl EP
end Go.Proofs.YthpgjgmaamcaoaaDoor.P
end
section
namespace Go.Proofs.YthpgjgmaamcaoaaDoor.P
open Go.RowKit Go.Shelf Go.Proofs.YthpgjgmaamcaoaaDoorW.PrintWords Go.Proofs.YthpgjgmaamcaoaaDoorW.PrintLast Go.Proofs.YthpgjgmaamcaoaaDoorW.PrintMore Go.Proofs.YthpgjgmaamcaoaaDoor.Nm
set_option maxRecDepth 100000
set_option linter.unusedVariables false
set_option linter.unusedSimpArgs false
theorem r2_Mul.tab1 : tabOf (opsOf Tryd.f54 1) = ([some 5, some 6, some 7, some 8, some 9, some 10, some 11, some 12, some 13, some 14, some 15, some 16, none], [[], [0], [], [2], [1, 3], [], [5], [], [7], [6, 8], [4, 9], [10, 9], [11, 11, 0, 1, 2, 3, 4, 5, 6, 7, 8, 9, 10, 11]]) := by kernel_rfl
set_option maxHeartbeats 3200000 in
theorem r2_Mul (ok : Nat → Prop) (u v : Value) (x y : S34) (w0 : World) (hok : ∀ k, w0.heap.size ≤ k → ok k) (h : Kv k34 (fun _ => True) w0 u x) (h' : Kv k34 (fun _ => True) w0 v y) (hx : Dec x) (hy : Dec y) : Calls Tryd.prog 54 #[u, v] w0 (KPost k34 ok w0 (cn (nv x * nv y))) := by
 obtain ⟨xA, xc, rfl, xl, xF⟩ := h.openN;obtain ⟨yA, yc, rfl, yl, yF⟩ := h'.openN
 obtain ⟨O, hO, hO1⟩ : ∃ O : Nat → Prop, (∀ k, O k → ok k ∧ k ≠ w0.heap.size + 2) ∧ (∀ k, w0.heap.size + 2 < k → O k) := ⟨fun k => ok k ∧ k ≠ w0.heap.size + 2, fun _ h => h, fun k hk => ⟨hok k (by omega), by omega⟩⟩
 have hO2 : ∀ (w : World), Ctx [uBlk (w0.heap.size + 2) [.bool false, .slice none 0 0] 34, uBlk (w0.heap.size + 1) [.bool y.f0, .slice yA y.f1.length yc] 34, uBlk w0.heap.size [.bool x.f0, .slice xA x.f1.length xc] 34, uCv (Kd.int .i64) (fun _ => True) x.f1 (.slice xA x.f1.length xc), uCv (Kd.int .i64) (fun _ => True) y.f1 (.slice yA y.f1.length yc), uB w0] w → ∀ k, w.heap.size ≤ k → O k := fun w hC k hk => hO1 k (by have := blk_lt hC.1; omega)
 have C := Ctx.new (cs := [.bool false, .slice none 0 0]) (t := 34) (Ctx.new (cs := [.bool y.f0, .slice yA y.f1.length yc]) (t := 34) (Ctx.new (cs := [.bool x.f0, .slice xA x.f1.length xc]) (t := 34) (show Ctx [uCv (Kd.int .i64) (fun _ => True) x.f1 (.slice xA x.f1.length xc), uCv (Kd.int .i64) (fun _ => True) y.f1 (.slice yA y.f1.length yc), uB w0] w0 from ⟨⟨_, _, rfl, xl, xF⟩, ⟨_, _, rfl, yl, yF⟩, Below.refl _ _, trivial⟩)));simp only [World.size_alloc] at C;clear h h' hok xl xF yl yF
 have hn : ∀ (W : World) (v : Value), (∀ k, W.heap.size ≤ k → O k) → Kv k34 (fun _ => True) W v (⟨x.f0 != y.f0, dig 10 (val 10 x.f1 * val 10 y.f1)⟩ : S34) → Calls Tryd.prog 57 #[v] W (KPost k34 O W (cn (nv x * nv y))) := fun W v hO hv => by
  have hx0 := val_nonneg (B := 10) (by decide) hx.dg;have hy0 := val_nonneg (B := 10) (by decide) hy.dg;have hxy := Int.mul_nonneg hx0 hy0;have hl : (dig 10 (val 10 x.f1 * val 10 y.f1)).length ≤ 1000000 := Nat.le_trans (dig_len (by decide) (k := x.f1.length + y.f1.length) (mul_lt (by decide) hx.dg hy.dg).2) (by have := hx.len; have := hy.len; omega);have := r2_Norm O v _ W hO hv (dig_Dg (by decide) _) hl
  rwa [show nv (⟨x.f0 != y.f0, dig 10 (val 10 x.f1 * val 10 y.f1)⟩ : S34) = nv x * nv y by unfold nv; rw [val_dig (by decide) _ hxy]; unfold sg; cases x.f0 <;> cases y.f0 <;> simp [Int.neg_mul, Int.mul_neg]] at this
 go_enter Tryd.func54, Tryd.ntmps54
 go_upto_region 1 with fail
 refine absW _ C ?_;clear C;intro w1 C;refine flowL (m := 12) r2_Mul.tab1 rfl (Ctx _) (Rl [uEq (.pointer (some ⟨w0.heap.size, 0, none⟩)), uEq (.bool x.f0), uEq (.pointer (some ⟨w0.heap.size + 1, 0, none⟩)), uEq (.bool y.f0), uEq (.bool (x.f0 != y.f0)), uEq (.pointer (some ⟨w0.heap.size, 1, none⟩)), uEq (.slice xA x.f1.length xc), uEq (.pointer (some ⟨w0.heap.size + 1, 1, none⟩)), uEq (.slice yA y.f1.length yc), uCv (Kd.int .i64) (fun _ => True) (dig 10 (val 10 x.f1 * val 10 y.f1)), uKd k34 (fun _ => True) (⟨x.f0 != y.f0, dig 10 (val 10 x.f1 * val 10 y.f1)⟩ : S34), uKd k34 O (cn (nv x * nv y))]) rfl (by kernel_rfl) (fun _ _ h hb => h.below hb) (Rl.up _) C ⟨⟨⟨⟨⟨⟨⟨⟨⟨⟨⟨⟨trivial, ?_⟩, ?_⟩, ?_⟩, ?_⟩, ?_⟩, ?_⟩, ?_⟩, ?_⟩, ?_⟩, ?_⟩, ?_⟩, ?_⟩ _ rfl ?_
 ·refine At.of _ rfl (fun e a w hC hd hb K hK => ?_)
  have b2 : a.tmps[2]? = some (.pointer (some ⟨w0.heap.size, 0, none⟩)) := hb 2 (by decide);refine value_ (w1 := w) (v := .pointer (some ⟨w0.heap.size, 0, none⟩)) (by rfl) rfl ?_ (hK.out _ _ (Below.refl _ _) rfl);clear hC hd hb hK
  first | (go_simp; done) | (go_simp; rfl)
 ·refine At.of _ rfl (fun e a w hC hd hb K hK => ?_)
  have q0 := (hd 0 (by decide)).2 5 rfl;rw [show e 0 = _ from (hd 0 (by decide)).1] at q0;have cc0 : w.cell? ⟨w0.heap.size, 0, none⟩ = some (.bool x.f0) := Ctx.blk hC.2.2.1 0 rfl;refine value_ (w1 := w) (v := .bool x.f0) (by rfl) rfl ?_ (hK.out _ _ (Below.refl _ _) rfl);clear hC hd hb hK
  first | (go_simp; done) | (go_simp; rfl)
 ·refine At.of _ rfl (fun e a w hC hd hb K hK => ?_)
  have b3 : a.tmps[3]? = some (.pointer (some ⟨w0.heap.size + 1, 0, none⟩)) := hb 3 (by decide);refine value_ (w1 := w) (v := .pointer (some ⟨w0.heap.size + 1, 0, none⟩)) (by rfl) rfl ?_ (hK.out _ _ (Below.refl _ _) rfl);clear hC hd hb hK
  first | (go_simp; done) | (go_simp; rfl)
 ·refine At.of _ rfl (fun e a w hC hd hb K hK => ?_)
  have q2 := (hd 2 (by decide)).2 7 rfl;rw [show e 2 = _ from (hd 2 (by decide)).1] at q2;have cc0 : w.cell? ⟨w0.heap.size + 1, 0, none⟩ = some (.bool y.f0) := Ctx.blk hC.2.1 0 rfl;refine value_ (w1 := w) (v := .bool y.f0) (by rfl) rfl ?_ (hK.out _ _ (Below.refl _ _) rfl);clear hC hd hb hK
  first | (go_simp; done) | (go_simp; rfl)
 ·refine At.of _ rfl (fun e a w hC hd hb K hK => ?_)
  have q1 := (hd 1 (by decide)).2 6 rfl;rw [show e 1 = _ from (hd 1 (by decide)).1] at q1;have q3 := (hd 3 (by decide)).2 8 rfl;rw [show e 3 = _ from (hd 3 (by decide)).1] at q3;refine value_ (w1 := w) (v := .bool (x.f0 != y.f0)) (by rfl) rfl ?_ (hK.out _ _ (Below.refl _ _) rfl);clear hC hd hb hK
  first | (go_simp; done) | (go_simp; rfl) | (go_simp; cases x.f0 <;> cases y.f0 <;> first | rfl | simp)
 ·refine At.of _ rfl (fun e a w hC hd hb K hK => ?_)
  have b2 : a.tmps[2]? = some (.pointer (some ⟨w0.heap.size, 0, none⟩)) := hb 2 (by decide);refine value_ (w1 := w) (v := .pointer (some ⟨w0.heap.size, 1, none⟩)) (by rfl) rfl ?_ (hK.out _ _ (Below.refl _ _) rfl);clear hC hd hb hK
  first | (go_simp; done) | (go_simp; rfl)
 ·refine At.of _ rfl (fun e a w hC hd hb K hK => ?_)
  have q5 := (hd 5 (by decide)).2 10 rfl;rw [show e 5 = _ from (hd 5 (by decide)).1] at q5;have cc1 : w.cell? ⟨w0.heap.size, 1, none⟩ = some (.slice xA x.f1.length xc) := Ctx.blk hC.2.2.1 1 rfl;refine value_ (w1 := w) (v := .slice xA x.f1.length xc) (by rfl) rfl ?_ (hK.out _ _ (Below.refl _ _) rfl);clear hC hd hb hK
  first | (go_simp; done) | (go_simp; rfl)
 ·refine At.of _ rfl (fun e a w hC hd hb K hK => ?_)
  have b3 : a.tmps[3]? = some (.pointer (some ⟨w0.heap.size + 1, 0, none⟩)) := hb 3 (by decide);refine value_ (w1 := w) (v := .pointer (some ⟨w0.heap.size + 1, 1, none⟩)) (by rfl) rfl ?_ (hK.out _ _ (Below.refl _ _) rfl);clear hC hd hb hK
  first | (go_simp; done) | (go_simp; rfl)
 ·refine At.of _ rfl (fun e a w hC hd hb K hK => ?_)
  have q7 := (hd 7 (by decide)).2 12 rfl;rw [show e 7 = _ from (hd 7 (by decide)).1] at q7;have cc1 : w.cell? ⟨w0.heap.size + 1, 1, none⟩ = some (.slice yA y.f1.length yc) := Ctx.blk hC.2.1 1 rfl;refine value_ (w1 := w) (v := .slice yA y.f1.length yc) (by rfl) rfl ?_ (hK.out _ _ (Below.refl _ _) rfl);clear hC hd hb hK
  first | (go_simp; done) | (go_simp; rfl)
 ·refine At.of _ rfl (fun e a w hC hd hb K hK => ?_)
  have q6 := (hd 6 (by decide)).2 11 rfl;rw [show e 6 = _ from (hd 6 (by decide)).1] at q6;have q8 := (hd 8 (by decide)).2 13 rfl;rw [show e 8 = _ from (hd 8 (by decide)).1] at q8;refine goes_ Tryd.func85 (by kernel_rfl) rfl #[.slice xA x.f1.length xc, .slice yA y.f1.length yc] (by rfl) rfl rfl (by first | (simp [Act.eval, q6, q8]; done) | (simp [Act.eval, q6, q8]; rfl)) ?_;refine (r1_Mul (fun _ => True) _ _ x.f1 y.f1 w (fun _ _ => trivial) hC.2.2.2.1 hC.2.2.2.2.1 hx.dg hy.dg (by have := hx.len; omega) (by have := hy.len; omega)).mono ?_;rintro en w' ⟨v, rfl, hv, hb'⟩;exact ⟨v, rfl, hK.out v w' hb' hv⟩
 ·refine At.of _ rfl (fun e a w hC hd hb K hK => ?_)
  have q4 := (hd 4 (by decide)).2 9 rfl;rw [show e 4 = _ from (hd 4 (by decide)).1] at q4;have q9 := (hd 9 (by decide)).2 14 rfl
  obtain ⟨A9, c9, e9, hc9, hF9⟩ := (show Cv (Kd.int .i64) (fun _ => True) w (e 9) (dig 10 (val 10 x.f1 * val 10 y.f1)) from (hd 9 (by decide)).1)
  have hkv : Kv k34 (fun _ => True) w (.agg #[.bool (x.f0 != y.f0), e 9]) (⟨x.f0 != y.f0, dig 10 (val 10 x.f1 * val 10 y.f1)⟩ : S34) := by rw [e9]; exact Kv.mkN (x := (⟨x.f0 != y.f0, dig 10 (val 10 x.f1 * val 10 y.f1)⟩ : S34)) hc9 hF9
  clear hc9 hF9;refine value_ (w1 := w) (v := .agg #[.bool (x.f0 != y.f0), e 9]) (by rfl) rfl ?_ (hK.out _ _ (Below.refl _ _) hkv);clear hC hd hb hK
  first | (go_simp; done) | (go_simp; rfl)
 ·refine At.of _ rfl (fun e a w hC hd hb K hK => ?_)
  have q10 := (hd 10 (by decide)).2 15 rfl;refine goes_ Tryd.func57 (by kernel_rfl) rfl #[e 10] (by rfl) rfl rfl (by first | (simp [Act.eval, q10]; done) | (simp [Act.eval, q10]; rfl)) ?_;refine (hn w (e 10) (hO2 w hC) (hd 10 (by decide)).1).mono ?_;rintro en w' ⟨v, rfl, hv, hb'⟩;exact ⟨v, rfl, hK.out v w' hb' hv⟩
 ·intro e w hC hr a ha K hK
  have hv : Kv k34 O w (e 11) (cn (nv x * nv y)) := hr.2;obtain ⟨zA, zc, ze, -⟩ := hv.openN;rw [ze] at hv;simp only [fill, Act.put, ze, Nat.reduceAdd, Nat.reduceLT, decide_true, decide_false, if_true, Bool.false_eq_true, if_false, List.setIfInBounds_toArray, List.set_cons_zero, List.set_cons_succ] at ha;subst ha;have E := end2 hC.1 hC.2.2.2.2.2.1 (by omega) hO hv _ rfl;have z0_ := Ctx.blk hC.1 0 rfl;have z1_ := Ctx.blk hC.1 1 rfl;have f0_ := Ctx.frz hC.1 0;have f1_ := Ctx.frz hC.1 1;refine skip_ (w1 := ?_) (by rfl) rfl ?_ ?_
  rotate_left
  ·go_simp
   rfl
  refine hK.out _ _ ?_;go_wp2;clear hC hK hr z0_ f0_ z1_ f1_;generalize World.setCell _ _ _ = wf at E ⊢;obtain ⟨EP, c0, c1⟩ := E;exact bodyPost_ret (by first | (simp [results, Tryd.results54, go_sem, c0, c1]; done) | (simp [results, Tryd.results54, go_sem, c0, c1]; rfl)) rfl EP
end Go.Proofs.YthpgjgmaamcaoaaDoor.P
end
