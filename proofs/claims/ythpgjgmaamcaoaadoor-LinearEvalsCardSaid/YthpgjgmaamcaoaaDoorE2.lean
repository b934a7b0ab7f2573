/- Walks and words of this session, put together by a program of this session (pack.py). Conditions: as each text says. -/
import Derived.BigRegionIn
import Derived.RegionIn
import Derived.Test.YthpgjgmaamcaoaaDoorE1
set_option linter.unusedVariables false
set_option linter.unusedSimpArgs false
section
namespace Go.Proofs.YthpgjgmaamcaoaaDoor.P
open Go.RowKit Go.Shelf Go.Proofs.YthpgjgmaamcaoaaDoorW.PrintWords Go.Proofs.YthpgjgmaamcaoaaDoorW.PrintLast Go.Proofs.YthpgjgmaamcaoaaDoorW.PrintMore Go.Proofs.YthpgjgmaamcaoaaDoor.Nm
set_option maxRecDepth 100000
theorem val_set (B : Int) : ∀ (l : List Int) (j : Nat) (x : Int) (h : j < l.length), val B (l.set j x) = val B l + B ^ j * (x - l[j])
 | y :: l, 0, x, _ => by simp [val_cons]; omega
 | y :: l, j + 1, x, h => by
  rw [List.set_cons_succ, val_cons, val_cons, val_set B l j x (by simpa using h), Int.pow_succ, Int.mul_add, List.getElem_cons_succ, ← Int.mul_assoc, Int.mul_comm B (B ^ j), Int.add_assoc]
theorem dg_set {B : Int} {l : List Int} (h : Dg B l) {x : Int} (hx : 0 ≤ x ∧ x < B) (j : Nat) : Dg B (l.set j x) := fun y hy => by
 rcases List.mem_or_eq_of_mem_set hy with hy | rfl
 ·exact h y hy
 ·exact hx
theorem prod_le {x y : Int} (hx : 0 ≤ x ∧ x < B32) (hy : 0 ≤ y ∧ y < B32) : 0 ≤ x * y ∧ x * y ≤ 18446744065119617025 := by
 unfold B32 at *;refine ⟨Int.mul_nonneg hx.1 hy.1, ?_⟩;have := Int.mul_le_mul (show x ≤ 4294967295 by omega) (show y ≤ 4294967295 by omega) hy.1 (by omega)
 omega
theorem addto_step {l : List Int} {i : Nat} {c p T r q z : Int} (hi : i < l.length) (h : val B32 l + B32 ^ i * c + B32 ^ i * p = T) (hz : l[i] = z) (hr : p + z + c = r + B32 * q) : val B32 (l.set i r) + B32 ^ (i + 1) * q = T := by
 rw [val_set B32 l i r hi, hz, Int.pow_succ];generalize B32 ^ i = P at *;have e := congrArg (fun t => P * t) hr;rw [Int.mul_add, Int.mul_add, Int.mul_add, ← Int.mul_assoc] at e;rw [Int.mul_sub]
 omega
def AddToPost (g : Nat) (n : Nat) (T : Int) (w : World) (e : Ending) (w' : World) : Prop := e = .returned (.tuple #[]) ∧ ∃ l, Own .u32 93 g w' l ∧ l.length = n ∧ Dg B32 l ∧ val B32 l = T ∧ Kbt w w' g none ∧ Below g w w'
theorem nat_addTo (g cap : Nat) (rs : List Int) (k : Nat) (x : Int) (v : Value) (bs : List Int) (w : World) (hO : Own .u32 93 g w rs) (dr : Dg B32 rs) (hx : 0 ≤ x ∧ x < B32) (h : Cv (Kd.int .u32) (fun b => b ≠ g) w v bs) (db : Dg B32 bs) (hl : rs.length ≤ 1000000) (hk : k + bs.length ≤ rs.length) (hT : val B32 rs + B32 ^ k * (x * val B32 bs) < B32 ^ rs.length) :
  Calls Tryd.prog 99 #[.slice (some ⟨g, 0, none⟩) rs.length cap, .int .i64 k, .int .u32 x, v] w (AddToPost g rs.length (val B32 rs + B32 ^ k * (x * val B32 bs)) w) := by
 obtain ⟨T, hTe⟩ : ∃ T : Int, T = val B32 rs + B32 ^ k * (x * val B32 bs) := ⟨_, rfl⟩
 rw [← hTe] at hT ⊢;have HTe := Sdq.mk hTe;clear hTe;obtain ⟨A, c, rfl, hc, hF⟩ := h;have rb := Sdq.mk (fun (W : World) (hW : Kbt w W g none) => row_of (Kd.F_keep hF hW (fun _ h => h)));have hO := Sdq.mk hO;have dr := Sdq.mk dr;have db := Sdq.mk db;have hT := Sdq.mk hT;clear hc hF;go_enter Tryd.func99, Tryd.ntmps99
 go_wp2_with fail
 go_loopg [8, 16] bs.length (fun gk s8 s16 wr => ∃ (i : Nat) (c : Int) (l : List Int), gk + i = bs.length ∧ s16 = .int .i64 i ∧ s8 = .int .u64 c ∧ 0 ≤ c ∧ c ≤ 4294967295 ∧ Sdq (l.length = rs.length ∧ Dg B32 l ∧ val B32 l + B32 ^ (k + i) * c = val B32 rs + B32 ^ k * (x * val B32 (bs.take i))) ∧ Sdq (Own .u32 93 g wr l) ∧ Sdq (Kbt w wr g none ∧ Below g w wr))
 case atStart => exact ⟨0, 0, rs, rfl, rfl, rfl, by omega, by omega, ⟨rfl, dr.out, by simp⟩, hO, ⟨Kbt.refl _ _ _, Below.refl _ _⟩⟩
 case round =>
  clear hO dr;obtain ⟨i, c, l, hg, rfl, rfl, c0, c1, hv, hO, hK⟩ := hrel
  cases gk with
  | zero =>
   obtain rfl : i = bs.length := by omega
   have hv : Sdq (l.length = rs.length ∧ Dg B32 l ∧ val B32 l + B32 ^ (k + bs.length) * c = T) := ⟨by have := hv.out; rwa [List.take_length, ← HTe.out] at this⟩
   clear db rb hx hg
   go_wp2_with fail
   go_loopg [8, 12] (rs.length - (k + bs.length)) (fun gk s8 s12 wq => ∃ (i : Nat) (c : Int) (l : List Int), gk + i = rs.length ∧ s12 = .int .i64 i ∧ s8 = .int .u64 c ∧ 0 ≤ c ∧ c ≤ 4294967295 ∧ Sdq (l.length = rs.length ∧ Dg B32 l ∧ val B32 l + B32 ^ i * c = T) ∧ Sdq (Own .u32 93 g wq l) ∧ Sdq (Kbt w wq g none ∧ Below g w wq))
   case atStart => exact ⟨k + bs.length, c, l, by omega, rfl, rfl, c0, c1, hv, hO, hK⟩
   case round =>
    clear hO hK c0 c1;obtain ⟨i, c, l, hg, rfl, rfl, c0, c1, hv, hO, hK⟩ := hrel;by_cases hc : 0 < c
    ·have hi : i < rs.length := by
      refine Classical.byContradiction fun hn => ?_
      obtain rfl : i = rs.length := by omega
      have h1 := val_nonneg (B := B32) (by decide) hv.out.2.1;have h2 := Int.mul_le_mul_of_nonneg_left (show (1 : Int) ≤ c by omega) (show 0 ≤ B32 ^ rs.length from Int.le_trans (by decide) (pow_pos' (B := B32) (by decide) rs.length));have h3 := hT.out;have h4 := hv.out.2.2
      omega
     obtain ⟨j, rfl⟩ : ∃ j, gk = j + 1 := ⟨gk - 1, by omega⟩
     have hki : i < l.length := by have := hv.out.1; omega
     have hz := hO.out.at_ hki;have hfree := hO.out.free i;have hzb := hv.out.2.1 _ (List.getElem_mem hki)
     obtain ⟨z, ez⟩ : ∃ z, z = l[i] := ⟨_, rfl⟩
     rw [← ez] at hz hzb;unfold B32 at hzb;have hq0 := Sdq.mk (show 0 ≤ (z + c) / 4294967296 ∧ (z + c) / 4294967296 ≤ 4294967295 by omega);have hX := Sdq.mk (hO.out.put i ((z + c) % 4294967296));have hKX := Sdq.mk (And.intro (hK.out.1.set_ i (.int .u32 ((z + c) % 4294967296))) (hK.out.2.setCell (p := ⟨g, i, none⟩) (Nat.le_refl g) (.int .u32 ((z + c) % 4294967296))))
     have hW : Sdq ((l.set i ((z + c) % 4294967296)).length = rs.length ∧ Dg B32 (l.set i ((z + c) % 4294967296)) ∧ val B32 (l.set i ((z + c) % 4294967296)) + B32 ^ (i + 1) * ((z + c) / 4294967296) = T) :=
      ⟨by rw [List.length_set]; exact hv.out.1, dg_set hv.out.2.1 (by unfold B32; omega) _, addto_step (p := 0) (z := z) (c := c) hki (by rw [Int.mul_zero, Int.add_zero]; exact hv.out.2.2) ez.symm (by unfold B32; omega)⟩
     clear ez hv hO hK;go_wp2
     go_roundg j
     case measure => omega
     case rel => exact ⟨i + 1, (z + c) / 4294967296, _, by omega, by go_num, rfl, hq0.out.1, hq0.out.2, hW, hX, hKX⟩
    ·have hv : Sdq (l.length = rs.length ∧ Dg B32 l ∧ val B32 l = T) := ⟨hv.out.1, hv.out.2.1, by
      have := hv.out.2.2;rw [show c = 0 by omega, Int.mul_zero, Int.add_zero] at this
      exact this⟩
     go_wp2
     go_end0
     exact ⟨rfl, l, hO.out, hv.out.1, hv.out.2.1, hv.out.2.2, hK.out.1, hK.out.2⟩
  | succ j =>
   have hi : i < bs.length := by omega
   obtain ⟨ad, rfl, hc⟩ := row_some (rb.out wr hK.out.1) hi;have hy := hc i hi;clear hc;have hyb := db.out _ (List.getElem_mem hi)
   have hki : k + i < l.length := by have := hv.out.1; omega
   have hz := hO.out.at_ hki;have hfree := hO.out.free (k + i);have hzb := hv.out.2.1 _ (List.getElem_mem hki);obtain ⟨p0, p1⟩ := prod_le hx hyb
   obtain ⟨y, ey⟩ : ∃ y, y = bs[i] := ⟨_, rfl⟩
   obtain ⟨z, ez⟩ : ∃ z, z = l[k + i] := ⟨_, rfl⟩
   rw [← ey] at hy hyb p0 p1;rw [← ez] at hz hzb;unfold B32 at hx hyb hzb
   have hq0 : 0 ≤ (x * y + z + c) / 4294967296 ∧ (x * y + z + c) / 4294967296 ≤ 4294967295 := by omega
   have hq0 := Sdq.mk hq0;have hX := Sdq.mk (hO.out.put (k + i) ((x * y + z + c) % 4294967296));have hKX := Sdq.mk (And.intro (hK.out.1.set_ (k + i) (.int .u32 ((x * y + z + c) % 4294967296))) (hK.out.2.setCell (p := ⟨g, k + i, none⟩) (Nat.le_refl g) (.int .u32 ((x * y + z + c) % 4294967296))))
   have hW : Sdq ((l.set (k + i) ((x * y + z + c) % 4294967296)).length = rs.length ∧ Dg B32 (l.set (k + i) ((x * y + z + c) % 4294967296)) ∧ val B32 (l.set (k + i) ((x * y + z + c) % 4294967296)) + B32 ^ (k + (i + 1)) * ((x * y + z + c) / 4294967296) = val B32 rs + B32 ^ k * (x * val B32 (bs.take (i + 1)))) :=
    ⟨by rw [List.length_set]; exact hv.out.1, dg_set hv.out.2.1 (by unfold B32; omega) _, by
     refine addto_step (T := _) (p := x * y) (z := z) (c := c) hki ?_ ez.symm (by unfold B32; omega);rw [hv.out.2.2, List.take_succ_eq_append_getElem hi, val_snoc, List.length_take, Nat.min_eq_left (by omega), ← ey, Int.mul_add, Int.mul_add, Int.pow_add, Int.add_assoc]
     congr 2
     rw [Int.mul_assoc, Int.mul_left_comm x]⟩
   clear ey ez hv hO hK;go_wp2
   go_roundg j
   case measure => omega
   case rel => exact ⟨i + 1, (x * y + z + c) / 4294967296, _, by omega, by go_num, rfl, hq0.out.1, hq0.out.2, hW, hX, hKX⟩
theorem mul_bound {a b : List Int} (ha : Dg B32 a) (hb : Dg B32 b) : val B32 a * val B32 b < B32 ^ (a.length + b.length) ∨ (a.length = 0 ∨ b.length = 0) := by
 by_cases h0 : b.length = 0
 ·exact .inr (.inr h0)
 refine .inl ?_;have h1 := val_lt (B := B32) (by decide) ha;have h2 := val_lt (B := B32) (by decide) hb;have h3 := val_nonneg (B := B32) (by decide) ha;have h4 := val_nonneg (B := B32) (by decide) hb;have hp := pow_pos' (B := B32) (by decide) b.length;rw [Int.pow_add];have e1 : val B32 a * val B32 b ≤ val B32 a * B32 ^ b.length := Int.mul_le_mul_of_nonneg_left (by omega) h3;have e2 : (val B32 a + 1) * B32 ^ b.length ≤ B32 ^ a.length * B32 ^ b.length := Int.mul_le_mul_of_nonneg_right (by omega) (by omega);rw [Int.add_mul, Int.one_mul] at e2
 omega
theorem val_zero (n : Nat) : val B32 (List.replicate n 0) = 0 := by
 induction n with
 | zero => rfl
 | succ n ih => rw [List.replicate_succ, val_cons, ih]; omega
theorem dg_zero (n : Nat) : Dg B32 (List.replicate n 0) := fun x hx => by
 rw [List.eq_of_mem_replicate hx]
 decide
theorem nat_Mul (ok : Nat → Prop) (u v : Value) (xs ys : List Int) (w : World) (hok : ∀ k, w.heap.size ≤ k → ok k) (h : Cv (Kd.int .u32) (fun _ => True) w u xs) (h' : Cv (Kd.int .u32) (fun _ => True) w v ys) (dx : Dg B32 xs) (dy : Dg B32 ys) (lx : xs.length ≤ 100000) (ly : ys.length ≤ 100000) :
  Calls Tryd.prog 76 #[u, v] w (CPost (Kd.int .u32) ok w (dig B32 (val B32 xs * val B32 ys))) := by
 obtain ⟨A, c, rfl, hc, hF⟩ := h;obtain ⟨B, d, rfl, hd, hG⟩ := h'
 have tx := fun W hb => nat_trim0 (fun _ => True) A c xs W hc (Kd.F_below hF hb)
 have ty := fun W hb => nat_trim0 (fun _ => True) B d ys W hd (Kd.F_below hG hb)
 have tx := tx w (Below.refl _ _);have ty := ty w (Below.refl _ _);have fx := Sdq.mk (trim_cv hc hF);have fy := Sdq.mk (trim_cv hd hG);have dx := Sdq.mk (trim_Dg dx);have dy := Sdq.mk (trim_Dg dy);have lx := Nat.le_trans (trim_length xs) lx;have ly := Nat.le_trans (trim_length ys) ly;rw [← trim_val xs, ← trim_val ys];have hok := Sdq.mk hok;clear hc hd hF hG;go_enter Tryd.func76, Tryd.ntmps76;generalize trim xs = ps at *;generalize trim ys = qs at *
 go_upto_region 2 with (first | (go_at_call 94; (with_reducible refine tx.mono ?_); rintro e w' ⟨rfl, rfl⟩) | (go_at_call 94; (with_reducible refine ty.mono ?_); rintro e w' ⟨rfl, rfl⟩))
 clear tx ty
 cases hp : ps with
 | nil =>
  subst hp;go_wp2;go_ret;exact ⟨_, rfl, by rw [show val B32 [] * val B32 qs = 0 by simp]; exact Cv.nil, Below.refl _ _⟩
 | cons p ps' =>
  cases hq : qs with
  | nil =>
   subst hq
   have hz : (((p :: ps').length : Int) == 0) = false := by simp; omega
   subst hp;generalize p :: ps' = ps at *;go_wp2;go_ret;exact ⟨_, rfl, by rw [show val B32 ps * val B32 [] = 0 by simp]; exact Cv.nil, Below.refl _ _⟩
  | cons q qs' =>
   have hz : ((ps.length : Int) == 0) = false := by rw [hp]; simp; omega
   have hz2 : ((qs.length : Int) == 0) = false := by rw [hq]; simp; omega
   have hT := Sdq.mk ((mul_bound dx.out dy.out).resolve_right (by rw [hp, hq]; simp));rw [← hp, ← hq];clear hp hq;clear p ps' q qs';have hmk := print_make_int (P := Tryd.prog) 22 93 (.int .u32 0) 4 Tryd.underlying22 info93 rfl (by decide) ((ps.length : Int) + qs.length) (by omega) (by omega);rw [show ((ps.length : Int) + qs.length).toNat = ps.length + qs.length by omega] at hmk;have hO := Sdq.mk (Own.made (k := .u32) (e := 93) w' (ps.length + qs.length));have hB := Sdq.mk (bal (Below.refl w'.heap.size w') (.cells (madeCells #[.int .u32 0] (ps.length + qs.length)) 93))
   go_wp2_with fail
   clear hmk hz hz2;generalize w'.alloc _ = w1 at hO hB ⊢
   go_loopg [28] ps.length (fun gk s28 wr => ∃ (i : Nat) (l : List Int), gk + i = ps.length ∧ s28 = .int .i64 i ∧ Sdq (l.length = ps.length + qs.length ∧ Dg B32 l ∧ val B32 l = val B32 (ps.take i) * val B32 qs) ∧ Sdq (Own .u32 93 w'.heap.size wr l) ∧ Sdq (Below w'.heap.size w' wr))
   case atStart => exact ⟨0, _, rfl, rfl, ⟨by simp, dg_zero _, by rw [val_zero]; simp⟩, hO, hB⟩
   case round =>
    clear hO hB;obtain ⟨i, l, hg, rfl, hv, hO, hB⟩ := hrel
    cases gk with
    | zero =>
     obtain rfl : i = ps.length := by omega
     have hT2 := Sdq.mk (hO.out.cv (by have := hv.out.1; omega) (ok := fun k => w'.heap.size ≤ k) (Nat.le_refl _) (ps.length + qs.length) (by have := hv.out.1; omega));rw [hv.out.1] at hT2;have hres := Sdq.mk (show trim l = dig B32 (val B32 ps * val B32 qs) by rw [trim_dig (by decide) hv.out.2.1, hv.out.2.2, List.take_length]);clear hO hv;go_wp2_with (go_at_call 94; refine (nat_trim _ _ _ _ hT2.out).mono ?_; rintro e w2 ⟨v, rfl, hv, hb2⟩);have hv := Sdq.mk (hv.mono hok.out);have hb3 := Sdq.mk (below_step hB.out hb2);go_ret;exact ⟨_, rfl, hres.out ▸ hv.out, hb3.out⟩
    | succ j =>
     have hi : i < ps.length := by omega
     have hrow : IsRow .u32 wr A ps := by
      obtain ⟨A', c', e, _, f⟩ := fx.out.below hB.out
      injection e with e _ _
      subst e;exact row_of f
     obtain ⟨ad, rfl, hc⟩ := row_some hrow hi;have hx := hc i hi;clear hc hrow;have hxb := dx.out _ (List.getElem_mem hi)
     have fq : Cv (Kd.int .u32) (fun b => b ≠ w'.heap.size) wr (.slice B qs.length d) qs := (fy.out.within (ok' := fun b => b < w'.heap.size) (fun k _ h => h)).below hB.out |>.mono (fun k hk => by omega)
     obtain ⟨x, ex⟩ : ∃ x, x = ps[i] := ⟨_, rfl⟩
     rw [← ex] at hx hxb
     have hn : Sdq (val B32 l + B32 ^ i * (x * val B32 qs) = val B32 (ps.take (i + 1)) * val B32 qs) := ⟨by
      rw [hv.out.2.2, List.take_succ_eq_append_getElem hi, val_snoc, List.length_take, Nat.min_eq_left (by omega), Int.add_mul, ← ex, Int.mul_assoc]⟩
     have hlt : Sdq (val B32 l + B32 ^ i * (x * val B32 qs) < B32 ^ l.length) := ⟨by
      rw [hn.out, hv.out.1];refine Int.lt_of_le_of_lt (Int.mul_le_mul_of_nonneg_right ?_ (val_nonneg (B := B32) (by decide) dy.out)) hT.out;have := val_drop B32 ps (i + 1) (by omega);have h1 := val_nonneg (B := B32) (by decide) (dx.out.drop (i + 1));have h2 := Int.mul_nonneg (show 0 ≤ B32 ^ (i + 1) from Int.le_trans (by decide) (pow_pos' (B := B32) (by decide) (i + 1))) h1
      omega⟩
     have hadd := nat_addTo w'.heap.size (ps.length + qs.length) l i x _ qs wr hO.out hv.out.2.1 hxb fq dy.out (by have := hv.out.1; omega) (by have := hv.out.1; omega) hlt.out;rw [hn.out, hv.out.1] at hadd;clear ex hxb fq hn hlt hO;go_wp2_with (go_at_call 99; refine hadd.mono ?_; rintro e w2 ⟨rfl, l2, hO2, hl2, hd2, hv2, _, hb2⟩);have hO2 := Sdq.mk hO2;have hv2 := Sdq.mk (And.intro hl2 (And.intro hd2 hv2));have hB2 := Sdq.mk (hB.out.trans hb2);clear hl2 hd2 hb2 hadd hB
     go_roundg j
     case measure => omega
     case rel => exact ⟨i + 1, l2, by omega, by go_num, hv2, hO2, hB2⟩
end Go.Proofs.YthpgjgmaamcaoaaDoor.P
end
section
namespace Go.Proofs.YthpgjgmaamcaoaaDoor.P
open Go.RowKit Go.Shelf Go.Proofs.YthpgjgmaamcaoaaDoorW.PrintWords Go.Proofs.YthpgjgmaamcaoaaDoorW.PrintLast Go.Proofs.YthpgjgmaamcaoaaDoorW.PrintMore Go.Proofs.YthpgjgmaamcaoaaDoor.Nm
set_option maxRecDepth 100000
set_option linter.unusedVariables false
def sg (b : Bool) (n : Int) : Int := if b = true then -n else n
def bv (x : S24) : Int := sg x.f0 (val B32 x.f1)
def can (n : Int) : S24 := ⟨decide (n < 0), dig B32 n.natAbs⟩
structure Big (x : S24) : Prop where
 dg : Dg B32 x.f1
 len : x.f1.length ≤ 10000
theorem bv_can (n : Int) : bv (can n) = n := by
 unfold bv can sg;simp only [decide_eq_true_eq];rw [val_dig (by decide) _ (by omega)]
 split <;> omega
theorem can_dg (n : Int) : Dg B32 (can n).f1 := dig_Dg (by decide) _
theorem can_len {n : Int} {k : Nat} (h : (n.natAbs : Int) < B32 ^ k) : (can n).f1.length ≤ k := dig_len (by decide) h
theorem norm_can (b : Bool) {xs : List Int} (h : Dg B32 xs) : can (sg b (val B32 xs)) = if trim xs = [] then ⟨false, []⟩ else ⟨b, trim xs⟩ := by
 have h0 := val_nonneg (B := B32) (by decide) h;have e := trim_dig (by decide) h;unfold can;rw [show ((sg b (val B32 xs)).natAbs : Int) = val B32 xs by unfold sg; split <;> omega, ← e]
 split
 ·rename_i ht
  rw [ht];rw [ht] at e
  have : val B32 xs = 0 := by
   have := val_dig (B := B32) (by decide) (val B32 xs) h0;rw [← e] at this
   simpa using this.symm
  rw [this];unfold sg
  cases b <;> rfl
 ·rename_i ht
  have hp : 0 < val B32 xs := by
   rw [← trim_val xs];exact val_pos (by decide) (trim_Dg h) (trim_Tm _) ht
  congr 1
  unfold sg;cases b
  ·simp; omega
  ·simp; omega
section
variable {ok : Nat → Prop} {w : World} {v : Value}
theorem Kv.openB {x : S24} (h : Kv k24 ok w v x) : ∃ A c, v = .agg #[.bool x.f0, .slice A x.f1.length c] ∧ x.f1.length ≤ c ∧ Kd.F (Kd.int .u32) w ok A x.f1.length x.f1 := by
 obtain ⟨cs, rfl, hk⟩ := h;obtain ⟨A, c, rfl, h⟩ := k24_openF hk;exact ⟨A, c, rfl, h⟩
theorem Kv.mkB {x : S24} {A : Option Addr} {c : Nat} (hc : x.f1.length ≤ c) (h : Kd.F (Kd.int .u32) w ok A x.f1.length x.f1) : Kv k24 ok w (.agg #[.bool x.f0, .slice A x.f1.length c]) x := ⟨_, rfl, k24_mkF w ok x hc h⟩
end
theorem end2 {α : Type} {d : Kd α} {O ok : Nat → Prop} {w0 W : World} {g t : Nat} {z0 z1 c0 c1 : Value} {x : α} (hz : (uBlk g [z0, z1] t).p W) (hB : Below w0.heap.size w0 W) (hg : w0.heap.size ≤ g) (hO : ∀ k, O k → ok k ∧ k ≠ g) (h : Kv d O W (.agg #[c0, c1]) x) (wf : World)
  (hw : wf = (W.setCell ⟨g, 0, none⟩ c0).setCell ⟨g, 1, none⟩ c1) : KPost d ok w0 x (.returned (.agg #[c0, c1])) wf ∧ wf.cell? ⟨g, 0, none⟩ = some c0 ∧ wf.cell? ⟨g, 1, none⟩ = some c1 := by
 subst hw;have hp := Ctx.put (Ctx.put hz 0 c0) 1 c1
 have hne : ∀ k, O k → k ≠ g := fun k hk => (hO k hk).2
 exact ⟨⟨_, rfl, ((h.far (p := ⟨g, 0, none⟩) hne c0).far (p := ⟨g, 1, none⟩) hne c1).mono (fun k hk => (hO k hk).1), bstq (bstq hB hg) hg⟩, Ctx.blk hp 0 rfl, Ctx.blk hp 1 rfl⟩
theorem big_norm (ok : Nat → Prop) (b : Bool) (v : Value) (xs : List Int) (w : World) (hok : ∀ k, w.heap.size ≤ k → ok k) (h : Cv (Kd.int .u32) (fun _ => True) w v xs) (dx : Dg B32 xs) (lx : xs.length ≤ 1000000) :
  Calls Tryd.prog 72 #[.bool b, v] w (KPost k24 ok w (can (sg b (val B32 xs)))) := by
 obtain ⟨O, hO, hO1⟩ : ∃ O : Nat → Prop, (∀ k, O k → ok k ∧ k ≠ w.heap.size) ∧ (∀ k, w.heap.size < k → O k) := ⟨fun k => ok k ∧ k ≠ w.heap.size, fun _ h => h, fun k hk => ⟨hok k (by omega), by omega⟩⟩
 have C := Ctx.new (cs := [.bool false, .slice none 0 0]) (t := 24) (Ctx.cons (uB w) (Below.refl _ _) (Ctx.cons (uCv (Kd.int .u32) (fun _ => True) xs v) h Ctx.nil));rw [norm_can b dx]
 obtain ⟨r0, hr0⟩ : ∃ r0 : S24, r0 = if trim xs = [] then ⟨false, []⟩ else ⟨b, trim xs⟩ := ⟨_, rfl⟩
 rw [← hr0];have hr := Sdq.mk hr0;clear hr0;clear h hok;go_enter Tryd.func72, Tryd.ntmps72
 go_upto_region 1 with fail
 refine absW _ C ?_;clear C;intro w1 C;have C := Sdq.mk C
 go_upto_region 2 with (go_at_call 96; refine (nat_Norm O w1 (fun k hk => hO1 k (by have := blk_lt C.out.1; omega)) _ xs C.out.2.2.1 lx).mono ?_; rintro e w2 ⟨v2, rfl, hv, hb⟩)
 have C2 := Ctx.cons (uCv (Kd.int .u32) O (trim xs) v2) hv (C.out.below hb);clear C hv hb dx lx;refine absW _ C2 ?_;clear C2;intro w3 C;generalize trim xs = ps at C hr
 obtain ⟨A, c, rfl, hc, hF⟩ := (show Cv (Kd.int .u32) O w3 v2 ps from C.1)
 have z0 := Ctx.blk C.2.1 0 rfl;have z1 := Ctx.blk C.2.1 1 rfl;have f0 := Ctx.frz C.2.1 0;have f1 := Ctx.frz C.2.1 1
 by_cases hp : ps = []
 ·subst hp
  obtain rfl : r0 = ⟨false, []⟩ := by rw [hr.out, if_pos rfl]
  have E := Sdq.mk (end2 (d := k24) (ok := ok) (x := ⟨false, []⟩) (c0 := .bool false) (c1 := .slice none 0 0) C.2.1 C.2.2.1 (Nat.le_refl _) hO (Kv.mkB (x := ⟨false, []⟩) (Nat.le_refl _) (Kd.F_nil _ _ _)) _ rfl);clear C hc hF hO hO1;go_wp2;have E := E.out;clear z0 z1 f0 f1;generalize World.setCell _ _ _ = wf at E ⊢;obtain ⟨EP, c0, c1⟩ := E;exact bodyPost_ret (v := .agg #[.bool false, .slice none 0 0]) (by simp [results, Tryd.results72, go_sem, c0, c1]) rfl EP
 ·have hz : ((ps.length : Int) == 0) = false := by
   simp; exact hp
  obtain rfl : r0 = ⟨b, ps⟩ := by rw [hr.out, if_neg hp]
  clear hp hr;have E := Sdq.mk (end2 (d := k24) (ok := ok) (x := ⟨b, ps⟩) (c0 := .bool b) (c1 := .slice A ps.length c) C.2.1 C.2.2.1 (Nat.le_refl _) hO (Kv.mkB (x := ⟨b, ps⟩) hc hF) _ rfl);clear C hc hF hO hO1;go_wp2;have E := E.out;clear z0 z1 f0 f1;generalize World.setCell _ _ _ = wf at E ⊢;obtain ⟨EP, c0, c1⟩ := E;exact bodyPost_ret (v := .agg #[.bool b, .slice A ps.length c]) (by simp [results, Tryd.results72, go_sem, c0, c1]) rfl EP
end Go.Proofs.YthpgjgmaamcaoaaDoor.P
end
section
namespace Go.Proofs.YthpgjgmaamcaoaaDoor.P
open Go.RowKit Go.Shelf Go.Proofs.YthpgjgmaamcaoaaDoorW.PrintWords Go.Proofs.YthpgjgmaamcaoaaDoorW.PrintLast Go.Proofs.YthpgjgmaamcaoaaDoorW.PrintMore Go.Proofs.YthpgjgmaamcaoaaDoor.Nm
set_option maxRecDepth 100000
set_option linter.unusedVariables false
set_option linter.unusedSimpArgs false
set_option maxHeartbeats 3200000 in
theorem big_Norm (ok : Nat → Prop) (v : Value) (x : S24) (w0 : World) (hok : ∀ k, w0.heap.size ≤ k → ok k) (h : Kv k24 (fun _ => True) w0 v x) (hx : Big x) : Calls Tryd.prog 50 #[v] w0 (KPost k24 ok w0 (can (bv x))) := by
 have hn := fun (O : Nat → Prop) (W : World) (hO : ∀ k, W.heap.size ≤ k → O k) (A : Option Addr) (c : Nat) (hF : Cv (Kd.int .u32) (fun _ => True) W (.slice A x.f1.length c) x.f1) => big_norm O (x.f0) _ x.f1 W hO hF hx.dg (by have := hx.len; omega)
 rw [show sg (x.f0) (val B32 x.f1) = bv x by unfold bv sg; cases x.f0 <;> simp] at hn
 obtain ⟨O, hO, hO1⟩ : ∃ O : Nat → Prop, (∀ k, O k → ok k ∧ k ≠ w0.heap.size + 1) ∧ (∀ k, w0.heap.size + 1 < k → O k) := ⟨fun k => ok k ∧ k ≠ w0.heap.size + 1, fun _ h => h, fun k hk => ⟨hok k (by omega), by omega⟩⟩
 obtain ⟨xA, xc, rfl, xl, xF⟩ := h.openB;have C := Ctx.new (cs := [.bool false, .slice none 0 0]) (t := 24) (Ctx.new (cs := [.bool x.f0, .slice xA x.f1.length xc]) (t := 24) (Ctx.cons (uB w0) (Below.refl _ _) (Ctx.cons (uCv (Kd.int .u32) (fun _ => True) x.f1 (.slice xA x.f1.length xc)) ⟨_, _, rfl, xl, xF⟩ Ctx.nil)));simp only [World.size_alloc] at C;clear h hok xl xF hx;go_enter Tryd.func50, Tryd.ntmps50
 go_upto_region 1 with fail
 refine absW _ C ?_;clear C;intro w1 C;have y0 := Ctx.blk C.2.1 0 rfl;have y1 := Ctx.blk C.2.1 1 rfl;have hn := hn O w1 (fun k hk => hO1 k (by have := blk_lt C.1; omega)) _ _ C.2.2.2.1;have C := Sdq.mk C
 go_wp2_with fail
 refine hn.mono ?_;rintro e w2 ⟨v2, rfl, hv, hb⟩;have C := Ctx.cons (uK k24 O v2 (can (bv x))) hv (C.out.below hb);obtain ⟨zA, zc, rfl, zl, zF⟩ := hv.openB;clear hn hb y0 y1 hv zl zF;generalize can (bv x) = r at *;have E := Sdq.mk (end2 (ok := ok) C.2.1 C.2.2.2.1 (by omega) hO C.1 _ rfl);have z0 := Ctx.blk C.2.1 0 rfl;have z1 := Ctx.blk C.2.1 1 rfl;have f0 := Ctx.frz C.2.1 0;have f1 := Ctx.frz C.2.1 1;clear C hO hO1
 go_wp2_with fail
 have E := E.out;clear z0 z1 f0 f1;generalize World.setCell _ _ _ = wf at E ⊢;obtain ⟨EP, c0, c1⟩ := E;exact bodyPost_ret (by first | (simp [results, Tryd.results50, go_sem, c0, c1]; done) | (simp [results, Tryd.results50, go_sem, c0, c1]; rfl)) rfl EP
theorem big_Mul.tab1 : tabOf (opsOf Tryd.f40 1) = ([some 5, some 6, some 7, some 8, some 9, some 10, some 11, some 12, some 13, some 14, some 15, none], [[], [0], [], [2], [1, 3], [], [5], [], [7], [6, 8], [4, 9, 9], [10, 10, 0, 1, 2, 3, 4, 5, 6, 7, 8, 9, 10]]) := by kernel_rfl
set_option maxHeartbeats 3200000 in
theorem big_Mul (ok : Nat → Prop) (u v : Value) (x y : S24) (w0 : World) (hok : ∀ k, w0.heap.size ≤ k → ok k) (h : Kv k24 (fun _ => True) w0 u x) (h' : Kv k24 (fun _ => True) w0 v y) (hx : Big x) (hy : Big y) : Calls Tryd.prog 40 #[u, v] w0 (KPost k24 ok w0 (can (bv x * bv y))) := by
 obtain ⟨xA, xc, rfl, xl, xF⟩ := h.openB;obtain ⟨yA, yc, rfl, yl, yF⟩ := h'.openB
 obtain ⟨O, hO, hO1⟩ : ∃ O : Nat → Prop, (∀ k, O k → ok k ∧ k ≠ w0.heap.size + 2) ∧ (∀ k, w0.heap.size + 2 < k → O k) := ⟨fun k => ok k ∧ k ≠ w0.heap.size + 2, fun _ h => h, fun k hk => ⟨hok k (by omega), by omega⟩⟩
 have hO2 : ∀ (w : World), Ctx [uBlk (w0.heap.size + 2) [.bool false, .slice none 0 0] 24, uBlk (w0.heap.size + 1) [.bool y.f0, .slice yA y.f1.length yc] 24, uBlk w0.heap.size [.bool x.f0, .slice xA x.f1.length xc] 24, uCv (Kd.int .u32) (fun _ => True) x.f1 (.slice xA x.f1.length xc), uCv (Kd.int .u32) (fun _ => True) y.f1 (.slice yA y.f1.length yc), uB w0] w → ∀ k, w.heap.size ≤ k → O k := fun w hC k hk => hO1 k (by have := blk_lt hC.1; omega)
 have C := Ctx.new (cs := [.bool false, .slice none 0 0]) (t := 24) (Ctx.new (cs := [.bool y.f0, .slice yA y.f1.length yc]) (t := 24) (Ctx.new (cs := [.bool x.f0, .slice xA x.f1.length xc]) (t := 24) (show Ctx [uCv (Kd.int .u32) (fun _ => True) x.f1 (.slice xA x.f1.length xc), uCv (Kd.int .u32) (fun _ => True) y.f1 (.slice yA y.f1.length yc), uB w0] w0 from ⟨⟨_, _, rfl, xl, xF⟩, ⟨_, _, rfl, yl, yF⟩, Below.refl _ _, trivial⟩)));simp only [World.size_alloc] at C;clear h h' hok xl xF yl yF
 have hn : ∀ (W : World) (v : Value), (∀ k, W.heap.size ≤ k → O k) → Cv (Kd.int .u32) (fun _ => True) W v (dig B32 (val B32 x.f1 * val B32 y.f1)) → Calls Tryd.prog 72 #[.bool (x.f0 != y.f0), v] W (KPost k24 O W (can (bv x * bv y))) := fun W v hO hv => by
  have hx0 := val_nonneg (B := B32) (by decide) hx.dg;have hy0 := val_nonneg (B := B32) (by decide) hy.dg;have hxy := Int.mul_nonneg hx0 hy0
  have hl : (dig B32 (val B32 x.f1 * val B32 y.f1)).length ≤ 1000000 := Nat.le_trans (dig_len (by decide) (k := x.f1.length + y.f1.length) (by
   rcases mul_bound hx.dg hy.dg with h | h | h
   ·exact h
   ·rw [List.length_eq_zero_iff.1 h]; simpa using Int.lt_of_lt_of_le (show (0 : Int) < 1 by decide) (pow_pos' (B := B32) (by decide) y.f1.length)
   ·rw [List.length_eq_zero_iff.1 h]; simpa using Int.lt_of_lt_of_le (show (0 : Int) < 1 by decide) (pow_pos' (B := B32) (by decide) x.f1.length))) (by have := hx.len; have := hy.len; omega)
  have := big_norm O (x.f0 != y.f0) v _ W hO hv (dig_Dg (by decide) _) hl
  rwa [val_dig (by decide) _ hxy, show sg (x.f0 != y.f0) (val B32 x.f1 * val B32 y.f1) = bv x * bv y by unfold bv sg; cases x.f0 <;> cases y.f0 <;> simp [Int.neg_mul, Int.mul_neg]] at this
 go_enter Tryd.func40, Tryd.ntmps40
 go_upto_region 1 with fail
 refine absW _ C ?_;clear C;intro w1 C;refine flowL (m := 11) big_Mul.tab1 rfl (Ctx _) (Rl [uEq (.pointer (some ⟨w0.heap.size, 0, none⟩)), uEq (.bool x.f0), uEq (.pointer (some ⟨w0.heap.size + 1, 0, none⟩)), uEq (.bool y.f0), uEq (.bool (x.f0 != y.f0)), uEq (.pointer (some ⟨w0.heap.size, 1, none⟩)), uEq (.slice xA x.f1.length xc), uEq (.pointer (some ⟨w0.heap.size + 1, 1, none⟩)), uEq (.slice yA y.f1.length yc), uCv (Kd.int .u32) (fun _ => True) (dig B32 (val B32 x.f1 * val B32 y.f1)), uKd k24 O (can (bv x * bv y))]) rfl (by kernel_rfl) (fun _ _ h hb => h.below hb) (Rl.up _) C ⟨⟨⟨⟨⟨⟨⟨⟨⟨⟨⟨trivial, ?_⟩, ?_⟩, ?_⟩, ?_⟩, ?_⟩, ?_⟩, ?_⟩, ?_⟩, ?_⟩, ?_⟩, ?_⟩ _ rfl ?_
 ·refine At.of _ rfl (fun e a w hC hd hb K hK => ?_)
  have b2 : a.tmps[2]? = some (.pointer (some ⟨w0.heap.size, 0, none⟩)) := hb 2 (by decide);refine value_ (w1 := w) (v := .pointer (some ⟨w0.heap.size, 0, none⟩)) (by rfl) rfl ?_ (hK.out _ _ (Below.refl _ _) rfl);clear hC hd hb hK
  first | (go_simp; done) | (go_simp; rfl)
 ·refine At.of _ rfl (fun e a w hC hd hb K hK => ?_)
  have q0 := (hd 0 (by decide)).2 5 rfl;rw [show e 0 = _ from (hd 0 (by decide)).1] at q0;have cc0 : w.cell? ⟨w0.heap.size, 0, none⟩ = some (.bool x.f0) := Ctx.blk hC.2.2.1 0 rfl;refine value_ (w1 := w) (v := .bool x.f0) (by rfl) rfl ?_ (hK.out _ _ (Below.refl _ _) rfl);clear hC hd hb hK
  first | (go_simp; done) | (go_simp; rfl)
 ·refine At.of _ rfl (fun e a w hC hd hb K hK => ?_)
  have b3 : a.tmps[3]? = some (.pointer (some ⟨w0.heap.size + 1, 0, none⟩)) := hb 3 (by decide);refine value_ (w1 := w) (v := .pointer (some ⟨w0.heap.size + 1, 0, none⟩)) (by rfl) rfl ?_ (hK.out _ _ (Below.refl _ _) rfl);clear hC hd hb hK
  first | (go_simp; done) | (go_simp; rfl)
 ·refine At.of _ rfl (fun e a w hC hd hb K hK => ?_)
  have q2 := (hd 2 (by decide)).2 7 rfl;rw [show e 2 = _ from (hd 2 (by decide)).1] at q2;have cc0 : w.cell? ⟨w0.heap.size + 1, 0, none⟩ = some (.bool y.f0) := Ctx.blk hC.2.1 0 rfl;refine value_ (w1 := w) (v := .bool y.f0) (by rfl) rfl ?_ (hK.out _ _ (Below.refl _ _) rfl);clear hC hd hb hK
  first | (go_simp; done) | (go_simp; rfl)
 ·refine At.of _ rfl (fun e a w hC hd hb K hK => ?_)
  have q1 := (hd 1 (by decide)).2 6 rfl;rw [show e 1 = _ from (hd 1 (by decide)).1] at q1;have q3 := (hd 3 (by decide)).2 8 rfl;rw [show e 3 = _ from (hd 3 (by decide)).1] at q3;refine value_ (w1 := w) (v := .bool (x.f0 != y.f0)) (by rfl) rfl ?_ (hK.out _ _ (Below.refl _ _) rfl);clear hC hd hb hK
  first | (go_simp; done) | (go_simp; rfl) | (go_simp; cases x.f0 <;> cases y.f0 <;> first | rfl | simp)
 ·refine At.of _ rfl (fun e a w hC hd hb K hK => ?_)
  have b2 : a.tmps[2]? = some (.pointer (some ⟨w0.heap.size, 0, none⟩)) := hb 2 (by decide);refine value_ (w1 := w) (v := .pointer (some ⟨w0.heap.size, 1, none⟩)) (by rfl) rfl ?_ (hK.out _ _ (Below.refl _ _) rfl);clear hC hd hb hK
  first | (go_simp; done) | (go_simp; rfl)
 ·refine At.of _ rfl (fun e a w hC hd hb K hK => ?_)
  have q5 := (hd 5 (by decide)).2 10 rfl;rw [show e 5 = _ from (hd 5 (by decide)).1] at q5;have cc1 : w.cell? ⟨w0.heap.size, 1, none⟩ = some (.slice xA x.f1.length xc) := Ctx.blk hC.2.2.1 1 rfl;refine value_ (w1 := w) (v := .slice xA x.f1.length xc) (by rfl) rfl ?_ (hK.out _ _ (Below.refl _ _) rfl);clear hC hd hb hK
  first | (go_simp; done) | (go_simp; rfl)
 ·refine At.of _ rfl (fun e a w hC hd hb K hK => ?_)
  have b3 : a.tmps[3]? = some (.pointer (some ⟨w0.heap.size + 1, 0, none⟩)) := hb 3 (by decide);refine value_ (w1 := w) (v := .pointer (some ⟨w0.heap.size + 1, 1, none⟩)) (by rfl) rfl ?_ (hK.out _ _ (Below.refl _ _) rfl);clear hC hd hb hK
  first | (go_simp; done) | (go_simp; rfl)
 ·refine At.of _ rfl (fun e a w hC hd hb K hK => ?_)
  have q7 := (hd 7 (by decide)).2 12 rfl;rw [show e 7 = _ from (hd 7 (by decide)).1] at q7;have cc1 : w.cell? ⟨w0.heap.size + 1, 1, none⟩ = some (.slice yA y.f1.length yc) := Ctx.blk hC.2.1 1 rfl;refine value_ (w1 := w) (v := .slice yA y.f1.length yc) (by rfl) rfl ?_ (hK.out _ _ (Below.refl _ _) rfl);clear hC hd hb hK
  first | (go_simp; done) | (go_simp; rfl)
 ·refine At.of _ rfl (fun e a w hC hd hb K hK => ?_)
  have q6 := (hd 6 (by decide)).2 11 rfl;rw [show e 6 = _ from (hd 6 (by decide)).1] at q6;have q8 := (hd 8 (by decide)).2 13 rfl;rw [show e 8 = _ from (hd 8 (by decide)).1] at q8;refine goes_ Tryd.func76 (by kernel_rfl) rfl #[.slice xA x.f1.length xc, .slice yA y.f1.length yc] (by rfl) rfl rfl (by first | (simp [Act.eval, q6, q8]; done) | (simp [Act.eval, q6, q8]; rfl)) ?_;refine (nat_Mul (fun _ => True) _ _ x.f1 y.f1 w (fun _ _ => trivial) hC.2.2.2.1 hC.2.2.2.2.1 hx.dg hy.dg (by have := hx.len; omega) (by have := hy.len; omega)).mono ?_;rintro en w' ⟨v, rfl, hv, hb'⟩;exact ⟨v, rfl, hK.out v w' hb' hv⟩
 ·refine At.of _ rfl (fun e a w hC hd hb K hK => ?_)
  have q4 := (hd 4 (by decide)).2 9 rfl;rw [show e 4 = _ from (hd 4 (by decide)).1] at q4;have q9 := (hd 9 (by decide)).2 14 rfl;refine goes_ Tryd.func72 (by kernel_rfl) rfl #[.bool (x.f0 != y.f0), e 9] (by rfl) rfl rfl (by first | (simp [Act.eval, q4, q9]; done) | (simp [Act.eval, q4, q9]; rfl)) ?_;refine (hn w (e 9) (hO2 w hC) (hd 9 (by decide)).1).mono ?_;rintro en w' ⟨v, rfl, hv, hb'⟩;exact ⟨v, rfl, hK.out v w' hb' hv⟩
 ·intro e w hC hr a ha K hK
  have hv : Kv k24 O w (e 10) (can (bv x * bv y)) := hr.2;obtain ⟨zA, zc, ze, -⟩ := hv.openB;rw [ze] at hv;simp only [fill, Act.put, ze, Nat.reduceAdd, Nat.reduceLT, decide_true, decide_false, if_true, Bool.false_eq_true, if_false, List.setIfInBounds_toArray, List.set_cons_zero, List.set_cons_succ] at ha;subst ha;have E := end2 hC.1 hC.2.2.2.2.2.1 (by omega) hO hv _ rfl;have z0_ := Ctx.blk hC.1 0 rfl;have z1_ := Ctx.blk hC.1 1 rfl;have f0_ := Ctx.frz hC.1 0;have f1_ := Ctx.frz hC.1 1;refine skip_ (w1 := ?_) (by rfl) rfl ?_ ?_
  rotate_left
  ·go_simp
   rfl
  refine hK.out _ _ ?_;go_wp2;clear hC hK hr z0_ f0_ z1_ f1_;generalize World.setCell _ _ _ = wf at E ⊢;obtain ⟨EP, c0, c1⟩ := E;exact bodyPost_ret (by first | (simp [results, Tryd.results40, go_sem, c0, c1]; done) | (simp [results, Tryd.results40, go_sem, c0, c1]; rfl)) rfl EP
theorem big_Add.tab2 : tabOf (opsOf Tryd.f38 2) = ([some 14, some 15, some 16, some 17, some 18, some 19, some 20, some 21, none], [[], [0], [], [2], [], [4], [3, 5], [1, 6, 6], [7, 7, 0, 1, 2, 3, 4, 5, 6, 7]]) := by kernel_rfl
theorem pow_mono {B : Int} (hB : 1 ≤ B) {a b : Nat} (h : a ≤ b) : B ^ a ≤ B ^ b := by
 obtain ⟨c, rfl⟩ := Nat.le.dest h;rw [Int.pow_add];have := Int.mul_le_mul_of_nonneg_left (pow_pos' hB c) (show 0 ≤ B ^ a from Int.le_trans (by decide) (pow_pos' hB a))
 omega
theorem two_pow (n : Nat) : B32 ^ n + B32 ^ n ≤ B32 ^ (n + 1) := by
 have := pow_pos' (B := B32) (by decide) n;rw [Int.pow_succ];unfold B32 at *
 omega
set_option maxHeartbeats 3200000 in
theorem big_Add_same (ok : Nat → Prop) (u v : Value) (x y : S24) (w0 : World) (hok : ∀ k, w0.heap.size ≤ k → ok k) (h : Kv k24 (fun _ => True) w0 u x) (h' : Kv k24 (fun _ => True) w0 v y) (hx : Big x) (hy : Big y) (hs : x.f0 = y.f0) : Calls Tryd.prog 38 #[u, v] w0 (KPost k24 ok w0 (can (bv x + bv y))) := by
 obtain ⟨xA, xc, rfl, xl, xF⟩ := h.openB;obtain ⟨yA, yc, rfl, yl, yF⟩ := h'.openB
 obtain ⟨O, hO, hO1⟩ : ∃ O : Nat → Prop, (∀ k, O k → ok k ∧ k ≠ w0.heap.size + 2) ∧ (∀ k, w0.heap.size + 2 < k → O k) := ⟨fun k => ok k ∧ k ≠ w0.heap.size + 2, fun _ h => h, fun k hk => ⟨hok k (by omega), by omega⟩⟩
 have hO2 : ∀ (w : World), Ctx [uBlk (w0.heap.size + 2) [.bool false, .slice none 0 0] 24, uBlk (w0.heap.size + 1) [.bool y.f0, .slice yA y.f1.length yc] 24, uBlk w0.heap.size [.bool x.f0, .slice xA x.f1.length xc] 24, uCv (Kd.int .u32) (fun _ => True) x.f1 (.slice xA x.f1.length xc), uCv (Kd.int .u32) (fun _ => True) y.f1 (.slice yA y.f1.length yc), uB w0] w → ∀ k, w.heap.size ≤ k → O k := fun w hC k hk => hO1 k (by have := blk_lt hC.1; omega)
 have C := Ctx.new (cs := [.bool false, .slice none 0 0]) (t := 24) (Ctx.new (cs := [.bool y.f0, .slice yA y.f1.length yc]) (t := 24) (Ctx.new (cs := [.bool x.f0, .slice xA x.f1.length xc]) (t := 24) (show Ctx [uCv (Kd.int .u32) (fun _ => True) x.f1 (.slice xA x.f1.length xc), uCv (Kd.int .u32) (fun _ => True) y.f1 (.slice yA y.f1.length yc), uB w0] w0 from ⟨⟨_, _, rfl, xl, xF⟩, ⟨_, _, rfl, yl, yF⟩, Below.refl _ _, trivial⟩)));simp only [World.size_alloc] at C;clear h h' hok xl xF yl yF
 have hn : ∀ (W : World) (v : Value), (∀ k, W.heap.size ≤ k → O k) → Cv (Kd.int .u32) (fun _ => True) W v (dig B32 (val B32 x.f1 + val B32 y.f1)) → Calls Tryd.prog 72 #[.bool x.f0, v] W (KPost k24 O W (can (bv x + bv y))) := fun W v hO hv => by
  have hx0 := val_nonneg (B := B32) (by decide) hx.dg;have hy0 := val_nonneg (B := B32) (by decide) hy.dg;have hxl := Int.lt_of_lt_of_le (val_lt (B := B32) (by decide) hx.dg) (pow_mono (by decide) hx.len);have hyl := Int.lt_of_lt_of_le (val_lt (B := B32) (by decide) hy.dg) (pow_mono (by decide) hy.len);have hl : (dig B32 (val B32 x.f1 + val B32 y.f1)).length ≤ 1000000 := Nat.le_trans (dig_len (by decide) (k := 10000 + 1) (by have := two_pow 10000; omega)) (by omega);have := big_norm O x.f0 v _ W hO hv (dig_Dg (by decide) _) hl
  rwa [val_dig (by decide) _ (by omega), show sg x.f0 (val B32 x.f1 + val B32 y.f1) = bv x + bv y by unfold bv sg; rw [← hs]; cases x.f0 <;> simp; omega] at this
 have hsb : (x.f0 == y.f0) = true := by rw [hs]; simp
 clear hs;go_enter Tryd.func38, Tryd.ntmps38
 go_upto_region 1 with fail
 refine absW _ C ?_;clear C;intro w0' C;have x0 := Ctx.blk C.2.2.1 0 rfl;have y0 := Ctx.blk C.2.1 0 rfl;have C := Sdq.mk C
 go_upto_region 2 with fail
 refine absW _ C.out ?_;clear C x0 y0 hsb;intro w1 C;refine flowL (m := 8) big_Add.tab2 rfl (Ctx _) (Rl [uEq (.pointer (some ⟨w0.heap.size, 0, none⟩)), uEq (.bool x.f0), uEq (.pointer (some ⟨w0.heap.size, 1, none⟩)), uEq (.slice xA x.f1.length xc), uEq (.pointer (some ⟨w0.heap.size + 1, 1, none⟩)), uEq (.slice yA y.f1.length yc), uCv (Kd.int .u32) (fun _ => True) (dig B32 (val B32 x.f1 + val B32 y.f1)), uKd k24 O (can (bv x + bv y))]) rfl (by kernel_rfl) (fun _ _ h hb => h.below hb) (Rl.up _) C ⟨⟨⟨⟨⟨⟨⟨⟨trivial, ?_⟩, ?_⟩, ?_⟩, ?_⟩, ?_⟩, ?_⟩, ?_⟩, ?_⟩ _ rfl ?_
 ·refine At.of _ rfl (fun e a w hC hd hb K hK => ?_)
  have b2 : a.tmps[2]? = some (.pointer (some ⟨w0.heap.size, 0, none⟩)) := hb 2 (by decide);refine value_ (w1 := w) (v := .pointer (some ⟨w0.heap.size, 0, none⟩)) (by rfl) rfl ?_ (hK.out _ _ (Below.refl _ _) rfl);clear hC hd hb hK
  first | (go_simp; done) | (go_simp; rfl)
 ·refine At.of _ rfl (fun e a w hC hd hb K hK => ?_)
  have q0 := (hd 0 (by decide)).2 14 rfl;rw [show e 0 = _ from (hd 0 (by decide)).1] at q0;have cc0 : w.cell? ⟨w0.heap.size, 0, none⟩ = some (.bool x.f0) := Ctx.blk hC.2.2.1 0 rfl;refine value_ (w1 := w) (v := .bool x.f0) (by rfl) rfl ?_ (hK.out _ _ (Below.refl _ _) rfl);clear hC hd hb hK
  first | (go_simp; done) | (go_simp; rfl)
 ·refine At.of _ rfl (fun e a w hC hd hb K hK => ?_)
  have b2 : a.tmps[2]? = some (.pointer (some ⟨w0.heap.size, 0, none⟩)) := hb 2 (by decide);refine value_ (w1 := w) (v := .pointer (some ⟨w0.heap.size, 1, none⟩)) (by rfl) rfl ?_ (hK.out _ _ (Below.refl _ _) rfl);clear hC hd hb hK
  first | (go_simp; done) | (go_simp; rfl)
 ·refine At.of _ rfl (fun e a w hC hd hb K hK => ?_)
  have q2 := (hd 2 (by decide)).2 16 rfl;rw [show e 2 = _ from (hd 2 (by decide)).1] at q2;have cc1 : w.cell? ⟨w0.heap.size, 1, none⟩ = some (.slice xA x.f1.length xc) := Ctx.blk hC.2.2.1 1 rfl;refine value_ (w1 := w) (v := .slice xA x.f1.length xc) (by rfl) rfl ?_ (hK.out _ _ (Below.refl _ _) rfl);clear hC hd hb hK
  first | (go_simp; done) | (go_simp; rfl)
 ·refine At.of _ rfl (fun e a w hC hd hb K hK => ?_)
  have b3 : a.tmps[3]? = some (.pointer (some ⟨w0.heap.size + 1, 0, none⟩)) := hb 3 (by decide);refine value_ (w1 := w) (v := .pointer (some ⟨w0.heap.size + 1, 1, none⟩)) (by rfl) rfl ?_ (hK.out _ _ (Below.refl _ _) rfl);clear hC hd hb hK
  first | (go_simp; done) | (go_simp; rfl)
 ·refine At.of _ rfl (fun e a w hC hd hb K hK => ?_)
  have q4 := (hd 4 (by decide)).2 18 rfl;rw [show e 4 = _ from (hd 4 (by decide)).1] at q4;have cc1 : w.cell? ⟨w0.heap.size + 1, 1, none⟩ = some (.slice yA y.f1.length yc) := Ctx.blk hC.2.1 1 rfl;refine value_ (w1 := w) (v := .slice yA y.f1.length yc) (by rfl) rfl ?_ (hK.out _ _ (Below.refl _ _) rfl);clear hC hd hb hK
  first | (go_simp; done) | (go_simp; rfl)
 ·refine At.of _ rfl (fun e a w hC hd hb K hK => ?_)
  have q3 := (hd 3 (by decide)).2 17 rfl;rw [show e 3 = _ from (hd 3 (by decide)).1] at q3;have q5 := (hd 5 (by decide)).2 19 rfl;rw [show e 5 = _ from (hd 5 (by decide)).1] at q5;refine goes_ Tryd.func73 (by kernel_rfl) rfl #[.slice xA x.f1.length xc, .slice yA y.f1.length yc] (by rfl) rfl rfl (by first | (simp [Act.eval, q3, q5]; done) | (simp [Act.eval, q3, q5]; rfl)) ?_;refine (nat_Add (fun _ => True) _ _ x.f1 y.f1 w (fun _ _ => trivial) hC.2.2.2.1 hC.2.2.2.2.1 hx.dg hy.dg (by have := hx.len; omega) (by have := hy.len; omega)).mono ?_;rintro en w' ⟨v, rfl, hv, hb'⟩;exact ⟨v, rfl, hK.out v w' hb' hv⟩
 ·refine At.of _ rfl (fun e a w hC hd hb K hK => ?_)
  have q1 := (hd 1 (by decide)).2 15 rfl;rw [show e 1 = _ from (hd 1 (by decide)).1] at q1;have q6 := (hd 6 (by decide)).2 20 rfl;refine goes_ Tryd.func72 (by kernel_rfl) rfl #[.bool x.f0, e 6] (by rfl) rfl rfl (by first | (simp [Act.eval, q1, q6]; done) | (simp [Act.eval, q1, q6]; rfl)) ?_;refine (hn w (e 6) (hO2 w hC) (hd 6 (by decide)).1).mono ?_;rintro en w' ⟨v, rfl, hv, hb'⟩;exact ⟨v, rfl, hK.out v w' hb' hv⟩
 ·intro e w hC hr a ha K hK
  have hv : Kv k24 O w (e 7) (can (bv x + bv y)) := hr.2;obtain ⟨zA, zc, ze, -⟩ := hv.openB;rw [ze] at hv;simp only [fill, Act.put, ze, Nat.reduceAdd, Nat.reduceLT, decide_true, decide_false, if_true, Bool.false_eq_true, if_false, List.setIfInBounds_toArray, List.set_cons_zero, List.set_cons_succ] at ha;subst ha;have E := end2 hC.1 hC.2.2.2.2.2.1 (by omega) hO hv _ rfl;have z0_ := Ctx.blk hC.1 0 rfl;have z1_ := Ctx.blk hC.1 1 rfl;have f0_ := Ctx.frz hC.1 0;have f1_ := Ctx.frz hC.1 1;refine skip_ (w1 := ?_) (by rfl) rfl ?_ ?_
  rotate_left
  ·go_simp
   rfl
  refine hK.out _ _ ?_;go_wp2;clear hC hK hr z0_ f0_ z1_ f1_;generalize World.setCell _ _ _ = wf at E ⊢;obtain ⟨EP, c0, c1⟩ := E;exact bodyPost_ret (by first | (simp [results, Tryd.results38, go_sem, c0, c1]; done) | (simp [results, Tryd.results38, go_sem, c0, c1]; rfl)) rfl EP
set_option maxHeartbeats 3200000 in
theorem big_Add_more (ok : Nat → Prop) (u v : Value) (x y : S24) (w0 : World) (hok : ∀ k, w0.heap.size ≤ k → ok k) (h : Kv k24 (fun _ => True) w0 u x) (h' : Kv k24 (fun _ => True) w0 v y) (hx : Big x) (hy : Big y) (hs : (x.f0 == y.f0) = false) (hle : val B32 y.f1 ≤ val B32 x.f1) : Calls Tryd.prog 38 #[u, v] w0 (KPost k24 ok w0 (can (bv x + bv y))) := by
 obtain ⟨xA, xc, rfl, xl, xF⟩ := h.openB;obtain ⟨yA, yc, rfl, yl, yF⟩ := h'.openB
 obtain ⟨O, hO, hO1⟩ : ∃ O : Nat → Prop, (∀ k, O k → ok k ∧ k ≠ w0.heap.size + 2) ∧ (∀ k, w0.heap.size + 2 < k → O k) := ⟨fun k => ok k ∧ k ≠ w0.heap.size + 2, fun _ h => h, fun k hk => ⟨hok k (by omega), by omega⟩⟩
 have hO2 : ∀ (w : World), Ctx [uBlk (w0.heap.size + 2) [.bool false, .slice none 0 0] 24, uBlk (w0.heap.size + 1) [.bool y.f0, .slice yA y.f1.length yc] 24, uBlk w0.heap.size [.bool x.f0, .slice xA x.f1.length xc] 24, uCv (Kd.int .u32) (fun _ => True) x.f1 (.slice xA x.f1.length xc), uCv (Kd.int .u32) (fun _ => True) y.f1 (.slice yA y.f1.length yc), uB w0] w → ∀ k, w.heap.size ≤ k → O k := fun w hC k hk => hO1 k (by have := blk_lt hC.1; omega)
 have C := Ctx.new (cs := [.bool false, .slice none 0 0]) (t := 24) (Ctx.new (cs := [.bool y.f0, .slice yA y.f1.length yc]) (t := 24) (Ctx.new (cs := [.bool x.f0, .slice xA x.f1.length xc]) (t := 24) (show Ctx [uCv (Kd.int .u32) (fun _ => True) x.f1 (.slice xA x.f1.length xc), uCv (Kd.int .u32) (fun _ => True) y.f1 (.slice yA y.f1.length yc), uB w0] w0 from ⟨⟨_, _, rfl, xl, xF⟩, ⟨_, _, rfl, yl, yF⟩, Below.refl _ _, trivial⟩)));simp only [World.size_alloc] at C;clear h h' hok xl xF yl yF;have hx0 := val_nonneg (B := B32) (by decide) hx.dg;have hy0 := val_nonneg (B := B32) (by decide) hy.dg;have hxl := Int.lt_of_lt_of_le (val_lt (B := B32) (by decide) hx.dg) (pow_mono (by decide) hx.len);have hyl := Int.lt_of_lt_of_le (val_lt (B := B32) (by decide) hy.dg) (pow_mono (by decide) hy.len);have hl : (dig B32 (val B32 x.f1 - val B32 y.f1)).length ≤ 1000000 := Nat.le_trans (dig_len (by decide) (k := 10000) (by omega)) (by omega)
 have hn := fun (W : World) (v : Value) (hO : ∀ k, W.heap.size ≤ k → O k) (hv : Cv (Kd.int .u32) (fun _ => True) W v (dig B32 (val B32 x.f1 - val B32 y.f1))) => big_norm O x.f0 v _ W hO hv (dig_Dg (by decide) _) hl
 rw [val_dig (by decide) _ (by omega), show sg x.f0 (val B32 x.f1 - val B32 y.f1) = bv x + bv y by unfold bv sg; revert hs; cases x.f0 <;> cases y.f0 <;> simp <;> omega] at hn
 have hs2 := fun (W : World) (p q : Value) (hp : Cv (Kd.int .u32) (fun _ => True) W p x.f1) (hq : Cv (Kd.int .u32) (fun _ => True) W q y.f1) => nat_Sub (fun _ => True) p q x.f1 y.f1 W (fun _ _ => trivial) hp hq hx.dg hy.dg (by have := hx.len; omega) (by have := hy.len; omega) (by omega)
 clear hx hy hle hx0 hy0 hxl hyl hl;go_enter Tryd.func38, Tryd.ntmps38
 go_upto_region 1 with fail
 refine absW _ C ?_;clear C;intro w1 C;have x0 := Ctx.blk C.2.2.1 0 rfl;have y0 := Ctx.blk C.2.1 0 rfl;have x1 := Ctx.blk C.2.2.1 1 rfl;have y1 := Ctx.blk C.2.1 1 rfl;have hq := hs2 w1 _ _ C.2.2.2.1 C.2.2.2.2.1;have C := Sdq.mk C;clear hs2
 go_upto_region 5 with (go_at_call 74; refine hq.mono ?_; rintro e w3 ⟨v3, rfl, hv, hb⟩)
 have C := C.out.below hb;clear hq hb x0 y0 x1 y1;refine absW _ (Ctx.cons (uCv (Kd.int .u32) (fun _ => True) _ v3) hv C) ?_;clear C hv;intro w4 C;have x0 := Ctx.blk C.2.2.2.1 0 rfl;have y0 := Ctx.blk C.2.2.1 0 rfl;have hn := hn w4 _ (hO2 w4 C.2) C.1;have C := Sdq.mk C.2;go_wp2_with (go_at_call 72; refine hn.mono ?_; rintro e w5 ⟨v5, rfl, hv, hb⟩; have C5 := Ctx.cons (uK k24 O v5 (can (bv x + bv y))) hv (C.out.below hb); obtain ⟨zA, zc, rfl, zl, zF⟩ := hv.openB; clear hn hb x0 y0 hv zl zF C; generalize can (bv x + bv y) = r at *; have E := Sdq.mk (end2 (ok := ok) C5.2.1 C5.2.2.2.2.2.2.1 (by omega) hO C5.1 _ rfl); have z0 := Ctx.blk C5.2.1 0 rfl; have z1 := Ctx.blk C5.2.1 1 rfl; have f0 := Ctx.frz C5.2.1 0; have f1 := Ctx.frz C5.2.1 1; clear C5 hO hO1 hO2);have E := E.out;clear z0 z1 f0 f1;generalize World.setCell _ _ _ = wf at E ⊢;obtain ⟨EP, c0, c1⟩ := E;exact bodyPost_ret (by first | (simp [results, Tryd.results38, go_sem, c0, c1]; done) | (simp [results, Tryd.results38, go_sem, c0, c1]; rfl)) rfl EP
set_option maxHeartbeats 3200000 in
theorem big_Add_less (ok : Nat → Prop) (u v : Value) (x y : S24) (w0 : World) (hok : ∀ k, w0.heap.size ≤ k → ok k) (h : Kv k24 (fun _ => True) w0 u x) (h' : Kv k24 (fun _ => True) w0 v y) (hx : Big x) (hy : Big y) (hs : (x.f0 == y.f0) = false) (hle : val B32 x.f1 < val B32 y.f1) : Calls Tryd.prog 38 #[u, v] w0 (KPost k24 ok w0 (can (bv x + bv y))) := by
 obtain ⟨xA, xc, rfl, xl, xF⟩ := h.openB;obtain ⟨yA, yc, rfl, yl, yF⟩ := h'.openB
 obtain ⟨O, hO, hO1⟩ : ∃ O : Nat → Prop, (∀ k, O k → ok k ∧ k ≠ w0.heap.size + 2) ∧ (∀ k, w0.heap.size + 2 < k → O k) := ⟨fun k => ok k ∧ k ≠ w0.heap.size + 2, fun _ h => h, fun k hk => ⟨hok k (by omega), by omega⟩⟩
 have hO2 : ∀ (w : World), Ctx [uBlk (w0.heap.size + 2) [.bool false, .slice none 0 0] 24, uBlk (w0.heap.size + 1) [.bool y.f0, .slice yA y.f1.length yc] 24, uBlk w0.heap.size [.bool x.f0, .slice xA x.f1.length xc] 24, uCv (Kd.int .u32) (fun _ => True) x.f1 (.slice xA x.f1.length xc), uCv (Kd.int .u32) (fun _ => True) y.f1 (.slice yA y.f1.length yc), uB w0] w → ∀ k, w.heap.size ≤ k → O k := fun w hC k hk => hO1 k (by have := blk_lt hC.1; omega)
 have C := Ctx.new (cs := [.bool false, .slice none 0 0]) (t := 24) (Ctx.new (cs := [.bool y.f0, .slice yA y.f1.length yc]) (t := 24) (Ctx.new (cs := [.bool x.f0, .slice xA x.f1.length xc]) (t := 24) (show Ctx [uCv (Kd.int .u32) (fun _ => True) x.f1 (.slice xA x.f1.length xc), uCv (Kd.int .u32) (fun _ => True) y.f1 (.slice yA y.f1.length yc), uB w0] w0 from ⟨⟨_, _, rfl, xl, xF⟩, ⟨_, _, rfl, yl, yF⟩, Below.refl _ _, trivial⟩)));simp only [World.size_alloc] at C;clear h h' hok xl xF yl yF;have hx0 := val_nonneg (B := B32) (by decide) hx.dg;have hy0 := val_nonneg (B := B32) (by decide) hy.dg;have hxl := Int.lt_of_lt_of_le (val_lt (B := B32) (by decide) hx.dg) (pow_mono (by decide) hx.len);have hyl := Int.lt_of_lt_of_le (val_lt (B := B32) (by decide) hy.dg) (pow_mono (by decide) hy.len);have hl : (dig B32 (val B32 y.f1 - val B32 x.f1)).length ≤ 1000000 := Nat.le_trans (dig_len (by decide) (k := 10000) (by omega)) (by omega)
 have hn := fun (W : World) (v : Value) (hO : ∀ k, W.heap.size ≤ k → O k) (hv : Cv (Kd.int .u32) (fun _ => True) W v (dig B32 (val B32 y.f1 - val B32 x.f1))) => big_norm O y.f0 v _ W hO hv (dig_Dg (by decide) _) hl
 rw [val_dig (by decide) _ (by omega), show sg y.f0 (val B32 y.f1 - val B32 x.f1) = bv x + bv y by unfold bv sg; revert hs; cases x.f0 <;> cases y.f0 <;> simp <;> omega] at hn
 have hs2 := fun (W : World) (p q : Value) (hp : Cv (Kd.int .u32) (fun _ => True) W p y.f1) (hq : Cv (Kd.int .u32) (fun _ => True) W q x.f1) => nat_Sub (fun _ => True) p q y.f1 x.f1 W (fun _ _ => trivial) hp hq hy.dg hx.dg (by have := hy.len; omega) (by have := hx.len; omega) (by omega)
 have hs1 := fun (W : World) (p q : Value) (hp : Cv (Kd.int .u32) (fun _ => True) W p x.f1) (hq : Cv (Kd.int .u32) (fun _ => True) W q y.f1) => nat_Sub_less p q x.f1 y.f1 W hp hq hx.dg hy.dg (by have := hx.len; omega) (by have := hy.len; omega) hle
 clear hx hy hle hx0 hy0 hxl hyl hl;go_enter Tryd.func38, Tryd.ntmps38
 go_upto_region 1 with fail
 refine absW _ C ?_;clear C;intro w1 C;have x0 := Ctx.blk C.2.2.1 0 rfl;have y0 := Ctx.blk C.2.1 0 rfl;have x1 := Ctx.blk C.2.2.1 1 rfl;have y1 := Ctx.blk C.2.1 1 rfl;have hq := hs1 w1 _ _ C.2.2.2.1 C.2.2.2.2.1;have C := Sdq.mk C;clear hs1
 go_upto_region 6 with (go_at_call 74; refine hq.mono ?_; rintro e w2 ⟨rfl, hb⟩)
 have C := C.out.below hb;clear hq hb x0 y0 x1 y1 hs;refine absW _ C ?_;clear C;intro w2 C;have x0 := Ctx.blk C.2.2.1 0 rfl;have y0 := Ctx.blk C.2.1 0 rfl;have x1 := Ctx.blk C.2.2.1 1 rfl;have y1 := Ctx.blk C.2.1 1 rfl;have hq := hs2 w2 _ _ C.2.2.2.2.1 C.2.2.2.1;have C := Sdq.mk C;clear hs2
 go_upto_region 7 with (go_at_call 74; refine hq.mono ?_; rintro e w3 ⟨v3, rfl, hv, hb⟩)
 have C := C.out.below hb;clear hq hb x0 y0 x1 y1;refine absW _ (Ctx.cons (uCv (Kd.int .u32) (fun _ => True) _ v3) hv C) ?_;clear C hv;intro w4 C;have x0 := Ctx.blk C.2.2.2.1 0 rfl;have y0 := Ctx.blk C.2.2.1 0 rfl;have hn := hn w4 _ (hO2 w4 C.2) C.1;have C := Sdq.mk C.2;go_wp2_with (go_at_call 72; refine hn.mono ?_; rintro e w5 ⟨v5, rfl, hv, hb⟩; have C5 := Ctx.cons (uK k24 O v5 (can (bv x + bv y))) hv (C.out.below hb); obtain ⟨zA, zc, rfl, zl, zF⟩ := hv.openB; clear hn hb x0 y0 hv zl zF C; generalize can (bv x + bv y) = r at *; have E := Sdq.mk (end2 (ok := ok) C5.2.1 C5.2.2.2.2.2.2.1 (by omega) hO C5.1 _ rfl); have z0 := Ctx.blk C5.2.1 0 rfl; have z1 := Ctx.blk C5.2.1 1 rfl; have f0 := Ctx.frz C5.2.1 0; have f1 := Ctx.frz C5.2.1 1; clear C5 hO hO1 hO2);have E := E.out;clear z0 z1 f0 f1;generalize World.setCell _ _ _ = wf at E ⊢;obtain ⟨EP, c0, c1⟩ := E;exact bodyPost_ret (by first | (simp [results, Tryd.results38, go_sem, c0, c1]; done) | (simp [results, Tryd.results38, go_sem, c0, c1]; rfl)) rfl EP
theorem big_Add (ok : Nat → Prop) (u v : Value) (x y : S24) (w0 : World) (hok : ∀ k, w0.heap.size ≤ k → ok k) (h : Kv k24 (fun _ => True) w0 u x) (h' : Kv k24 (fun _ => True) w0 v y) (hx : Big x) (hy : Big y) : Calls Tryd.prog 38 #[u, v] w0 (KPost k24 ok w0 (can (bv x + bv y))) := by
 by_cases hs : x.f0 = y.f0
 ·exact big_Add_same ok u v x y w0 hok h h' hx hy hs
 ·have hs : (x.f0 == y.f0) = false := by simpa using hs
  rcases Int.lt_or_le (val B32 x.f1) (val B32 y.f1) with hlt | hle
  ·exact big_Add_less ok u v x y w0 hok h h' hx hy hs hlt
  ·exact big_Add_more ok u v x y w0 hok h h' hx hy hs hle
end Go.Proofs.YthpgjgmaamcaoaaDoor.P
end
section
namespace Go.Proofs.YthpgjgmaamcaoaaDoor.P
open Go.RowKit Go.Shelf Go.Proofs.YthpgjgmaamcaoaaDoorW.PrintWords Go.Proofs.YthpgjgmaamcaoaaDoorW.PrintLast Go.Proofs.YthpgjgmaamcaoaaDoorW.PrintMore Go.Proofs.YthpgjgmaamcaoaaDoor.Nm
set_option maxRecDepth 100000
set_option linter.unusedVariables false
set_option linter.unusedSimpArgs false
theorem nat_Of (ok : Nat → Prop) (n : Int) (w : World) (hok : ∀ k, w.heap.size ≤ k → ok k) (h0 : 0 ≤ n) (h1 : n < 18446744073709551616) : Calls Tryd.prog 77 #[.int .u64 n] w (CPost (Kd.int .u32) ok w (dig B32 n)) := by
 have hO := Own.cv (k := .u32) (e := 93) (g := w.heap.size) (W := w.alloc (.cells #[.int .u32 (n % 4294967296), .int .u32 (n / 4294967296)] 93)) (xs := [n % 4294967296, n / 4294967296]) (blk_new w _) (by simp) (ok := fun _ => True) trivial 2 (by simp);have hd : Dg B32 [n % 4294967296, n / 4294967296] := Dg.cons (by unfold B32; omega) (Dg.cons (by unfold B32; omega) Dg.nil);have hN := nat_Norm ok _ (fun k hk => hok k (by simp at hk; omega)) _ _ hO (by simp);rw [trim_dig (by decide) hd, show val B32 [n % 4294967296, n / 4294967296] = n by simp [val_cons]; unfold B32; omega] at hN;have hN := Sdq.mk hN;clear hO hd hok;go_enter Tryd.func77, Tryd.ntmps77;go_wp2_with (go_at_call 96; refine hN.out.mono ?_; rintro e w' ⟨v, rfl, hv, hb⟩);go_ret;exact ⟨_, rfl, hv, below_step (bal (Below.refl _ _) _) hb⟩
theorem big_Sign (v : Value) (x : S24) (w0 : World) (h : Kv k24 (fun _ => True) w0 v x) (hx : Dg B32 x.f1) : Calls Tryd.prog 51 #[v] w0 fun e w' => e = .returned (.int .i64 (sgn (bv x))) ∧ Below w0.heap.size w0 w' := by
 obtain ⟨xA, xc, rfl, xl, xF⟩ := h.openB
 obtain ⟨s, hs⟩ : ∃ s, s = sgn (bv x) := ⟨_, rfl⟩
 rw [← hs];have C := Ctx.new (cs := [.bool x.f0, .slice xA x.f1.length xc]) (t := 24) (Ctx.cons (uB w0) (Below.refl _ _) (Ctx.cons (uCv (Kd.int .u32) (fun _ => True) x.f1 (.slice xA x.f1.length xc)) ⟨_, _, rfl, xl, xF⟩ Ctx.nil));clear h xl xF;have h0 := val_nonneg (B := B32) (by decide) hx
 have hz : (trim x.f1).length = 0 ↔ val B32 x.f1 = 0 := by
  rw [← trim_val x.f1]
  constructor
  ·intro h; rw [List.length_eq_zero_iff.1 h]; rfl
  ·intro h
   refine List.length_eq_zero_iff.2 (Classical.byContradiction fun hne => ?_);have := val_pos (B := B32) (by decide) (trim_Dg hx) (trim_Tm _) hne
   omega
 go_enter Tryd.func51, Tryd.ntmps51
 go_upto_region 1 with fail
 refine absW _ C ?_;clear C;intro w1 C;have x0 := Ctx.blk C.1 0 rfl;have x1 := Ctx.blk C.1 1 rfl;have hi := nat_IsZero _ x.f1 w1 C.2.2.1;have C := Sdq.mk C;by_cases hv : val B32 x.f1 = 0
 ·have hb : ((trim x.f1).length == 0) = true := by simpa using hz.2 hv
  rw [hb] at hi
  obtain rfl : s = 0 := by rw [hs, sgn_zero (by unfold bv sg; rw [hv]; split <;> omega)]
  clear hs h0 hz hv hb;go_wp2_with (go_at_call 80; refine hi.mono ?_; rintro e w2 ⟨rfl, hb⟩);go_ret;exact ⟨rfl, below_step C.out.2.1 hb⟩
 ·have hb : ((trim x.f1).length == 0) = false := by simpa using fun h => hv (hz.1 (by simpa using h))
  rw [hb] at hi
  rcases Bool.eq_false_or_eq_true x.f0 with hf | hf
  ·obtain rfl : s = -1 := by rw [hs, sgn_lt (n := bv x) (by unfold bv sg; rw [if_pos hf]; omega)]
   rw [hf] at x0;clear hs h0 hz hv hb hf;go_wp2_with (go_at_call 80; refine hi.mono ?_; rintro e w2 ⟨rfl, hb⟩; replace x0 := pw_cell_below hb x0);go_ret;exact ⟨rfl, below_step C.out.2.1 hb⟩
  ·obtain rfl : s = 1 := by rw [hs, sgn_gt (n := bv x) (by unfold bv sg; rw [if_neg (by rw [hf]; decide)]; omega)]
   rw [hf] at x0;clear hs h0 hz hv hb hf;go_wp2_with (go_at_call 80; refine hi.mono ?_; rintro e w2 ⟨rfl, hb⟩; replace x0 := pw_cell_below hb x0);go_ret;exact ⟨rfl, below_step C.out.2.1 hb⟩
end Go.Proofs.YthpgjgmaamcaoaaDoor.P
end
section
namespace Go.Proofs.YthpgjgmaamcaoaaDoor.P
open Go.RowKit Go.Shelf Go.Proofs.YthpgjgmaamcaoaaDoorW.PrintWords Go.Proofs.YthpgjgmaamcaoaaDoorW.PrintLast Go.Proofs.YthpgjgmaamcaoaaDoorW.PrintMore Go.Proofs.YthpgjgmaamcaoaaDoor.Nm
set_option maxRecDepth 100000
set_option linter.unusedVariables false
set_option linter.unusedSimpArgs false
attribute [local go_sem] Oper.semAt_some
theorem dig_short {n : Int} (h1 : n < 18446744073709551616) : (dig B32 n).length ≤ 1000000 := Nat.le_trans (dig_len (k := 2) (by decide) (Int.lt_of_lt_of_le h1 (by decide))) (by omega)
theorem big_Of (ok : Nat → Prop) (n : Int) (w0 : World) (hok : ∀ k, w0.heap.size ≤ k → ok k) (h0 : -9223372036854775808 ≤ n) (h1 : n ≤ 9223372036854775807) : Calls Tryd.prog 41 #[.int .i64 n] w0 (KPost k24 ok w0 (can n)) := by
 obtain ⟨O, hO, hO1⟩ : ∃ O : Nat → Prop, (∀ k, O k → ok k ∧ k ≠ w0.heap.size) ∧ (∀ k, w0.heap.size < k → O k) := ⟨fun k => ok k ∧ k ≠ w0.heap.size, fun _ h => h, fun k hk => ⟨hok k (by omega), by omega⟩⟩
 have C := Ctx.new (cs := [.bool false, .slice none 0 0]) (t := 24) (show Ctx [uB w0] w0 from ⟨Below.refl _ _, trivial⟩);clear hok
 obtain ⟨r, hr⟩ : ∃ r, r = can n := ⟨_, rfl⟩
 rw [← hr]
 have key : ∀ (b : Bool) (m : Int) (W : World) (v : Value), 0 ≤ m → m < 18446744073709551616 → sg b m = n → w0.heap.size < W.heap.size → Cv (Kd.int .u32) (fun _ => True) W v (dig B32 m) → Calls Tryd.prog 72 #[.bool b, v] W (KPost k24 O W r) := fun b m W v m0 m1 hs hW hv => by
  have := big_norm O b v _ W (fun k hk => hO1 k (by omega)) hv (dig_Dg (by decide) _) (dig_short m1)
  rwa [val_dig (by decide) _ m0, hs, ← hr] at this
 clear hr;go_enter Tryd.func41, Tryd.ntmps41
 go_upto_region 1 with fail
 refine absW _ C ?_;clear C;intro w1 C;by_cases hn : n < 0
 ·have hq := nat_Of (fun _ => True) (-(n + 1) + 1) w1 (fun _ _ => trivial) (by omega) (by omega)
  have C := Sdq.mk C
  go_wp2_with fail
  refine hq.mono ?_;rintro e w2 ⟨v2, rfl, hv, hb⟩;have hk := key true (-(n + 1) + 1) w2 v2 (by omega) (by omega) (by unfold sg; rw [if_pos rfl]; omega) (by have := blk_lt C.out.1; have := hb.size; omega) hv;have C2 := Sdq.mk (C.out.below hb);clear hv hb hq key C
  go_wp2_with fail
  refine hk.mono ?_;rintro e w3 ⟨v3, rfl, hv, hb⟩;have C3 := Ctx.cons (uK k24 O v3 r) hv (C2.out.below hb);obtain ⟨zA, zc, rfl, zl, zF⟩ := hv.openB;have E := Sdq.mk (end2 (ok := ok) C3.2.1 C3.2.2.1 (Nat.le_refl _) hO C3.1 _ rfl);have z0 := Ctx.blk C3.2.1 0 rfl;have z1 := Ctx.blk C3.2.1 1 rfl;have f0 := Ctx.frz C3.2.1 0;have f1 := Ctx.frz C3.2.1 1;clear hk hb hv zl zF C2 C3 hO hO1
  go_wp2_with fail
  have E := E.out;clear z0 z1 f0 f1;generalize World.setCell _ _ _ = wf at E ⊢;obtain ⟨EP, c0, c1⟩ := E;exact bodyPost_ret (by first | (simp [results, Tryd.results41, go_sem, c0, c1]; done) | (simp [results, Tryd.results41, go_sem, c0, c1]; rfl)) rfl EP
 ·have hq := nat_Of (fun _ => True) n w1 (fun _ _ => trivial) (by omega) (by omega)
  have hn0 : 0 ≤ n := by omega
  have C := Sdq.mk C
  go_wp2_with fail
  refine hq.mono ?_;rintro e w2 ⟨v2, rfl, hv, hb⟩;have hk := key false n w2 v2 (by omega) (by omega) (by unfold sg; rfl) (by have := blk_lt C.out.1; have := hb.size; omega) hv;have C2 := Sdq.mk (C.out.below hb);clear hv hb hq key C
  go_wp2_with fail
  refine hk.mono ?_;rintro e w3 ⟨v3, rfl, hv, hb⟩;have C3 := Ctx.cons (uK k24 O v3 r) hv (C2.out.below hb);obtain ⟨zA, zc, rfl, zl, zF⟩ := hv.openB;have E := Sdq.mk (end2 (ok := ok) C3.2.1 C3.2.2.1 (Nat.le_refl _) hO C3.1 _ rfl);have z0 := Ctx.blk C3.2.1 0 rfl;have z1 := Ctx.blk C3.2.1 1 rfl;have f0 := Ctx.frz C3.2.1 0;have f1 := Ctx.frz C3.2.1 1;clear hk hb hv zl zF C2 C3 hO hO1
  go_wp2_with fail
  have E := E.out;clear z0 z1 f0 f1;generalize World.setCell _ _ _ = wf at E ⊢;obtain ⟨EP, c0, c1⟩ := E;exact bodyPost_ret (by first | (simp [results, Tryd.results41, go_sem, c0, c1]; done) | (simp [results, Tryd.results41, go_sem, c0, c1]; rfl)) rfl EP
def shStep (xs : List Int) (d : Int) (s : List Int × Int) (x : Fin xs.length) : List Int × Int := (s.1.set x.1 ((s.2 * 4294967296 + xs[x.1]'x.2) / d), (s.2 * 4294967296 + xs[x.1]'x.2) % d)
def shAll (xs : List Int) (d : Int) (pre : List (Fin xs.length)) : List Int × Int := pre.foldl (shStep xs d) (List.replicate xs.length 0, 0)
theorem sh_snoc (xs : List Int) (d : Int) (pre : List (Fin xs.length)) (x : Fin xs.length) : shAll xs d (pre ++ [x]) = shStep xs d (shAll xs d pre) x := by simp [shAll]
theorem sh_inv {xs : List Int} {d : Int} (hx : Dg B32 xs) (hd : 1 ≤ d ∧ d < B32) (pre : List (Fin xs.length)) : (shAll xs d pre).1.length = xs.length ∧ Dg B32 (shAll xs d pre).1 ∧ 0 ≤ (shAll xs d pre).2 ∧ (shAll xs d pre).2 < d := by
 have go : ∀ (l : List (Fin xs.length)) (s : List Int × Int), (s.1.length = xs.length ∧ Dg B32 s.1 ∧ 0 ≤ s.2 ∧ s.2 < d) → ((l.foldl (shStep xs d) s).1.length = xs.length ∧ Dg B32 (l.foldl (shStep xs d) s).1 ∧ 0 ≤ (l.foldl (shStep xs d) s).2 ∧ (l.foldl (shStep xs d) s).2 < d) := by
  intro l
  induction l with
  | nil => exact fun s h => h
  | cons x l ih =>
   intro s h;refine ih _ ⟨by simp [shStep, h.1], ?_, Int.emod_nonneg _ (by omega), Int.emod_lt_of_pos _ (by omega)⟩;have hb := hx _ (List.getElem_mem x.2);obtain ⟨h1, h2, h3, h4⟩ := h;refine dg_set h2 ⟨Int.ediv_nonneg (by unfold B32 at *; omega) (by omega), ?_⟩ _;refine Int.ediv_lt_of_lt_mul (by omega) ?_;have : (s.2 + 1) * 4294967296 ≤ d * 4294967296 := Int.mul_le_mul_of_nonneg_right (by omega) (by decide);unfold B32 at *;rw [Int.mul_comm]
   omega
 exact go pre _ ⟨by simp, dg_zero _, by simp, by simp; omega⟩
theorem sh_dn {xs : List Int} {d : Int} (hx : Dg B32 xs) (hd : 1 ≤ d ∧ d < B32) : ∀ k m, k + m = xs.length → (shAll xs d (dn xs.length m)).1.take m = List.replicate m 0 ∧ val B32 ((shAll xs d (dn xs.length m)).1.drop m) = val B32 (xs.drop m) / d ∧ (shAll xs d (dn xs.length m)).2 = val B32 (xs.drop m) % d
 | 0, m, h => by
  obtain rfl : m = xs.length := by omega
  rw [dn_end]
  simp [shAll]
 | k + 1, m, h => by
  have hm : m < xs.length := by omega
  obtain ⟨h1, h2, h3⟩ := sh_dn hx hd k (m + 1) (by omega);have hi := sh_inv hx hd (dn xs.length (m + 1));rw [dn_step hm, sh_snoc];generalize shAll xs d (dn xs.length (m + 1)) = s at *;obtain ⟨q, r⟩ := s;obtain ⟨i1, i2, i3, i4⟩ := hi;simp only at h1 h2 h3 i1 i2 i3 i4;simp only [shStep]
  have hd1 : (q.set m ((r * 4294967296 + xs[m]) / d)).drop m = ((r * 4294967296 + xs[m]) / d) :: q.drop (m + 1) := by
   rw [List.drop_eq_getElem_cons (by simpa using by omega), List.drop_set, if_pos (by omega)]
   simp
  have hx1 : xs.drop m = xs[m] :: xs.drop (m + 1) := List.drop_eq_getElem_cons hm;have hb := hx _ (List.getElem_mem hm);have hV := val_nonneg (B := B32) (by decide) (hx.drop (m + 1));have e0 := Int.emod_add_mul_ediv (val B32 (xs.drop (m + 1))) d;refine ⟨?_, ?_, ?_⟩
  ·rw [List.take_set]
   have : q.take m = List.replicate m 0 := by
    have := congrArg (List.take m) h1;rw [List.take_take, Nat.min_eq_left (by omega)] at this;rw [this]; simp
   rw [this];exact List.set_eq_of_length_le (by simp)
  ·rw [hd1, val_cons, h2, hx1, val_cons]
   rw [← h3] at e0;generalize val B32 (xs.drop (m + 1)) / d = Q at *;generalize val B32 (xs.drop (m + 1)) = V at *;rw [← e0, show xs[m] + B32 * (r + d * Q) = (r * 4294967296 + xs[m]) + d * (B32 * Q) by unfold B32; rw [Int.mul_add, Int.mul_left_comm d]; omega, Int.add_mul_ediv_left _ _ (by omega)]
  ·rw [hx1, val_cons]
   rw [← h3] at e0;generalize val B32 (xs.drop (m + 1)) / d = Q at *;generalize val B32 (xs.drop (m + 1)) = V at *;rw [← e0, show xs[m] + B32 * (r + d * Q) = (r * 4294967296 + xs[m]) + d * (B32 * Q) by unfold B32; rw [Int.mul_add, Int.mul_left_comm d]; omega, Int.add_mul_emod_self_left]
theorem sh_done {xs : List Int} {d : Int} (hx : Dg B32 xs) (hd : 1 ≤ d ∧ d < B32) : val B32 (shAll xs d (dn xs.length 0)).1 = val B32 xs / d ∧ (shAll xs d (dn xs.length 0)).2 = val B32 xs % d := by
 have := sh_dn hx hd xs.length 0 (by omega)
 simpa using this.2
end Go.Proofs.YthpgjgmaamcaoaaDoor.P
end
section
namespace Go.Proofs.YthpgjgmaamcaoaaDoor.P
open Go.RowKit Go.Proofs.YthpgjgmaamcaoaaDoorW.PrintWords
section
variable {F : Fence} {n : Nat} {P : Program} {ops : Array Oper} {Q : Exit → Act → World → Prop} {a0 : Act} {C : (Nat → Bool) → World → Prop} {e : Nat → Value}
def AtIn (F : Fence) (n : Nat) (P : Program) (ops : Array Oper) (Q : Exit → Act → World → Prop) (D : List (Option Tmp)) (W : List (List Nat)) (a0 : Act) (C : (Nat → Bool) → World → Prop) (e : Nat → Value) (i : Nat) : Prop :=
 ∀ (l : Nat → Bool) (a : Act) (w : World), C l w → l i = false → (∀ j, j ∈ W.getD i [] → l j = true ∧ ∀ t, D[j]? = some (some t) → a.tmps[t]? = some (e j)) → (∀ t, some t ∉ D → a.tmps[t]? = a0.tmps[t]?) →
  ∀ K : Act → World → Prop, Sdq (∀ w', C (fun j => if j = i then true else l j) w' → K (a.put (D.getD i none) (e i)) w') →
  match ops[i]? with
  | some o => if Region.wanted o (yielded ops a.tmps) = true then Oper.wpIn F n P o a w K Q else False
  | none => True
theorem AtIn.of {D : List (Option Tmp)} {W : List (List Nat)} {i : Nat} (o : Oper) (ho : ops[i]? = some o) (hg : o.guard = none)
  (h : ∀ (l : Nat → Bool) (a : Act) (w : World), C l w → l i = false → (∀ j, j ∈ W.getD i [] → l j = true ∧ ∀ t, D[j]? = some (some t) → a.tmps[t]? = some (e j)) → (∀ t, some t ∉ D → a.tmps[t]? = a0.tmps[t]?) →
  ∀ K : Act → World → Prop, Sdq (∀ w', C (fun j => if j = i then true else l j) w' → K (a.put (D.getD i none) (e i)) w') → Oper.wpIn F n P o a w K Q) : AtIn F n P ops Q D W a0 C e i := by
 intro l a w h1 h2 h3 h4 K h5;rw [ho]
 have hw : Region.wanted o (yielded ops a.tmps) = true := by unfold Region.wanted; rw [hg]
 dsimp only
 rw [if_pos hw];exact h l a w h1 h2 h3 h4 K h5
theorem flowIn_all {D : List (Option Tmp)} {W : List (List Nat)} (h : tabOf ops = (D, W)) (hE : early ops = true) (hA : apart D = true) (hT : ∀ t, some t ∈ D → t < a0.tmps.size)
  (hcong : ∀ l l' w, (∀ j, j < ops.size → l j = l' j) → C l w → C l' w) (hS : ∀ i, i < ops.size → AtIn F n P ops Q D W a0 C e i) (hQ : ∀ w, C (fun _ => true) w → Q .normal (fill D 0 e (fun _ => true) a0) w) :
  ∀ fuel l w, l.size = ops.size → C (lf l) w → cnt (lf l) ops.size ≤ fuel → wpAnyIn F n P .any ops Q fuel l (fill D 0 e (lf l) a0) w := by
 have hD : dsts ops = D := congrArg Prod.fst h
 have hend : ∀ l w, l.size = ops.size → C (lf l) w → Region.ready .any ops l = [] → Q .normal (fill D 0 e (lf l) a0) w := fun l w hs hC hr => by
  have hall := ready_nil hr hE hs;rw [fill_congr (e' := e) (l' := fun _ => true) D 0 a0 (fun j _ hj => ⟨hall j (by rw [← hD] at hj; simpa [dsts] using hj), fun _ => rfl⟩)];exact hQ w (hcong _ _ w (fun j hj => hall j hj) hC)
 intro fuel
 induction fuel with
 | zero =>
  intro l w hs hC hn;have hr := ready_zero hs (Nat.le_zero.1 hn);exact ⟨hr, hend l w hs hC hr⟩
 | succ fuel ih =>
  intro l w hs hC hn;refine ⟨fun hr => hend l w hs hC hr, fun i hi => ?_⟩;obtain ⟨o, ho, hli, hisz, hw⟩ := ready_mem hi hs;have hnx := cnt_next hi hs;have hio := (Array.getElem?_eq_some_iff.1 ho).1
  have hdo : D[i]? = some o.dst := by rw [← hD]; exact dst_at ho
  have hstep := hS i hio (lf l) (fill D 0 e (lf l) a0) w hC hli (fun j hj => ?_) (fun t ht => fill_other D 0 a0 ht) (wpAnyIn F n P .any ops Q fuel (l.setIfInBounds i true)) ⟨fun w' hC' => ?_⟩
  ·unfold wpOpIn
   rw [ho] at hstep ⊢
   dsimp only at hstep ⊢
   split
   ·rename_i hwt
    rw [if_pos hwt] at hstep;exact hstep
   ·rename_i hwt
    rw [if_neg hwt] at hstep;exact hstep.elim
  ·rw [waits_tab h i hio] at hj
   obtain ⟨o', ho', y, hy, hyb, rfl⟩ := waits_mem hj;obtain rfl := Option.some.inj (ho.symm.trans ho');refine ⟨hw y hy hyb, fun t ht => ?_⟩;have := fill_at (e := e) (l := lf l) D 0 y.on a0 hA ht (by rw [Nat.zero_add]; exact hw y hy hyb) (hT t (List.mem_of_getElem? ht));rw [Nat.zero_add] at this;exact this
  ·have e1 : (fill D 0 e (lf l) a0).put (D.getD i none) (e i) = fill D 0 e (lf (l.setIfInBounds i true)) a0 := by
    rw [lf_set hisz, List.getD_eq_getElem?_getD, hdo];have := fill_set (e := e) (l := lf l) (v := e i) D 0 i a0 o.dst hA hdo (by rw [Nat.zero_add]; exact hli);rw [Nat.zero_add] at this;rw [show (some o.dst).getD none = o.dst from rfl, this];refine fill_congr D 0 a0 (fun j _ _ => ⟨rfl, fun _ => ?_⟩);by_cases hji : j = i
    ·subst hji; simp
    ·simp [hji]
   rw [e1];exact ih _ w' (by simp [hs]) (by rw [lf_set hisz]; exact hC') (by omega)
theorem flowIn {id m : Nat} {w0 : World} {D : List (Option Tmp)} {W : List (List Nat)} (h : tabOf ops = (D, W)) (hn : ops.size = m) (C : (Nat → Bool) → World → Prop) (e : Nat → Value) (hm : P.follows .mixedOrders = true)
  (hc : (earlyW W && apart D && D.all (fun d => (d.map fun t => decide (t < a0.tmps.size)).getD true)) = true)
  (hcong : ∀ l l' w, (∀ j, j < m → l j = l' j) → C l w → C l' w) (h0 : C (fun _ => false) { w0 with drawn := w0.drawn + 1 })
  (hS : Steps (AtIn F n P ops Q D W a0 C e) m) (hQ : ∀ w, C (fun _ => true) w → Q .normal (fill D 0 e (fun _ => true) a0) w) : (Code.region id ops true).wpIn F n P Q a0 w0 := by
 subst hn;simp only [Bool.and_eq_true] at hc
 have hl : ∀ j, lf (Array.replicate ops.size false) j = false := fun j => by
  unfold lf;rw [Array.getD_eq_getD_getElem?, Array.getElem?_replicate]
  split <;> rfl
 have h2 := flowIn_all (F := F) (n := n) (P := P) (Q := Q) (e := e) h (early_tab h hc.1.1) hc.1.2 (fun t ht => by have := List.all_eq_true.1 hc.2 _ ht; simpa using this) hcong (fun i hi => hS.all i hi) hQ ops.size (Array.replicate ops.size false) { w0 with drawn := w0.drawn + 1 } (by simp) (hcong _ _ _ (fun j _ => (hl j).symm) h0) (cnt_le _)
 have h3 : ∀ (D : List (Option Tmp)) (k : Nat), fill D k e (lf (Array.replicate ops.size false)) a0 = a0 := fun D => by
  induction D with
  | nil => intro _; rfl
  | cons d D ih => intro k; simp only [fill, hl, Bool.false_eq_true, if_false]; exact ih _
 rw [h3] at h2;exact wpIn_region_any hm h2
end
end Go.Proofs.YthpgjgmaamcaoaaDoor.P
end
section
namespace Go.Proofs.YthpgjgmaamcaoaaDoor.P
open Go.RowKit Go.Shelf Go.Proofs.YthpgjgmaamcaoaaDoorW.PrintWords Go.Proofs.YthpgjgmaamcaoaaDoorW.PrintLast Go.Proofs.YthpgjgmaamcaoaaDoorW.PrintMore Go.Proofs.YthpgjgmaamcaoaaDoor.Nm
set_option maxRecDepth 100000
set_option linter.unusedVariables false
set_option linter.unusedSimpArgs false
attribute [local go_sem] Oper.semAt_some
theorem or_high {r x : Int} (hr : 0 ≤ r ∧ r < 4294967296) (hx : 0 ≤ x ∧ x < 4294967296) : bits .or .u64 (r * 4294967296) x = r * 4294967296 + x := by
 obtain ⟨a, rfl⟩ := Int.eq_ofNat_of_zero_le hr.1;obtain ⟨b, rfl⟩ := Int.eq_ofNat_of_zero_le hx.1
 have e : ((a : Int) * 4294967296) = ((2 ^ 32 * a : Nat) : Int) := by omega
 have hb : b < 2 ^ 32 := by omega
 rw [e];have h64 : IntKind.u64.bits = 64 := rfl;simp only [bits, h64, BitVec.ofInt_natCast, BitVec.toNat_or, BitVec.toNat_ofNat];rw [Nat.mod_eq_of_lt (show 2 ^ 32 * a < 2 ^ 64 by omega), Nat.mod_eq_of_lt (show b < 2 ^ 64 by omega), ← Nat.two_pow_add_eq_or_of_lt hb];rw [u64_in (by omega) (by omega)]
 omega
theorem ownFrom_blk {β : Type} (B g t : Nat) (f : β → List Value) : OwnFrom B (fun s W => (uBlk g (f s) t).p W) := fun s W W' row hs hg hr =>
 (hg.block g (blk_lt hs) (fun e => by
  obtain ⟨_, o, ho, hc⟩ := hr g e.symm;rw [show W.heap[g]? = _ from hs] at ho;cases ho
  cases hc)).trans hs
theorem ownFrom_own {β : Type} (B g e : Nat) (k : IntKind) (f : β → List Int) : OwnFrom B (fun s W => Own k e g W (f s)) := fun s W W' row hs hg hr =>
 (hg.block g (blk_lt hs) (fun e => by
  obtain ⟨_, o, ho, hc⟩ := hr g e.symm;rw [show W.heap[g]? = _ from hs] at ho;cases ho
  cases hc)).trans hs
def uOwn (k : IntKind) (e g : Nat) (xs : List Int) : UpP := ⟨fun W => Own k e g W xs, fun _ _ h hb => Own.below h hb⟩
theorem cv_F {k : IntKind} {ok : Nat → Prop} {w : World} {A : Option Addr} {n c : Nat} {xs : List Int} (h : Cv (Kd.int k) ok w (.slice A n c) xs) : Kd.F (Kd.int k) w ok A xs.length xs := by
 obtain ⟨A', c', e, _, f⟩ := h
 injection e with e1 _ _
 subst e1;exact f
theorem nat_short.tab7 : tabOf (opsOf Tryd.f104 7) = ([some 23, some 24, some 25, some 26, some 27, some 28, some 29, some 30, some 31, some 32, some 33, some 34, none, none], [[], [], [], [], [3], [2, 4], [5], [], [], [8], [7, 9], [0, 1, 0, 1, 2, 3, 4, 5, 6], [11, 6, 0, 1, 2, 3, 4, 5, 6], [10, 12, 0, 1, 2, 3, 4, 5, 6, 7, 8, 9, 10, 11, 12]]) := by kernel_rfl
theorem nat_short.tab8 : tabOf (opsOf Tryd.f104 8) = ([some 35, some 36, some 37, some 38, some 4, some 5], [[], [0], [], [2], [1, 1, 0, 1], [3, 4, 0, 1, 2, 3, 4]]) := by kernel_rfl
def uObj (g : Nat) (o : Obj) : UpP := ⟨fun W => W.heap[g]? = some o, fun W W' h hb => by
 have hlt : g < W.heap.size := (Array.getElem?_eq_some_iff.1 h).1
 rw [hb.block g hlt]; exact h⟩
def ShortPost (ok : Nat → Prop) (q r : Int) (w : World) (e : Ending) (w' : World) : Prop := ∃ v, e = .returned (.tuple #[v, .int .u32 r]) ∧ Cv (Kd.int .u32) ok w' v (dig B32 q) ∧ Below w.heap.size w w'
set_option maxHeartbeats 3200000 in
theorem nat_short (ok : Nat → Prop) (v : Value) (xs : List Int) (d : Int) (w0 : World) (hok : ∀ k, w0.heap.size ≤ k → ok k) (h : Cv (Kd.int .u32) (fun _ => True) w0 v xs) (dx : Dg B32 xs) (lx : xs.length ≤ 1000000) (hd : 1 ≤ d ∧ d < 4294967296) :
  Calls Tryd.prog 104 #[v, .int .u32 d] w0 (ShortPost ok (val B32 xs / d) (val B32 xs % d) w0) := by
 obtain ⟨q0, hq0⟩ : ∃ q, q = val B32 xs / d := ⟨_, rfl⟩
 obtain ⟨r0, hr0⟩ : ∃ r, r = val B32 xs % d := ⟨_, rfl⟩
 rw [← hq0, ← hr0];have hqr := Sdq.mk (show val B32 (shAll xs d (dn xs.length 0)).1 = q0 ∧ (shAll xs d (dn xs.length 0)).2 = r0 by rw [hq0, hr0]; exact sh_done dx hd);have hinv := Sdq.mk (fun pre => sh_inv dx hd pre);have dx := Sdq.mk dx;have hok := Sdq.mk hok;clear hq0 hr0;obtain ⟨A, c, rfl, hc, hF⟩ := h;have C := Ctx.new (cs := [.int .u32 d]) (t := 93) (show Ctx [uB w0, uCv (Kd.int .u32) (fun k => k < w0.heap.size) xs (.slice A xs.length c)] w0 from ⟨Below.refl _ _, ⟨A, c, rfl, hc, Kd.F_mono (Kd.F_bound hF) (fun k hk => hk.2)⟩, trivial⟩);have hmk := print_make_int (P := Tryd.prog) 22 93 (.int .u32 0) 4 Tryd.underlying22 info93 rfl (by decide) (xs.length : Int) (by omega) (by omega);rw [Int.toNat_natCast] at hmk;clear hc hF;refine (callsIn_wide (n := 3)).1 (callsIn_of_wp_marks Tryd.func104 rfl trivial (wpIn_wide.2 ?_) rfl);simp only [Tryd.ntmps104, List.size_toArray, List.length_cons, List.length_nil, Nat.reduceAdd, Nat.reduceSub, Array.replicate_succ, Array.replicate_zero, List.push_toArray, List.append_toArray, List.nil_append, List.cons_append]
 go_upto_region 1 with fail
 refine absW _ C ?_;clear C;intro w1 C;have hsz := Sdq.mk (show w0.heap.size < w1.heap.size from blk_lt C.1)
 go_upto_region 3 with fail
 have C := Ctx.new (cs := [.int .u64 0]) (t := 61) (Ctx.new (cs := [.slice (some ⟨w1.heap.size, 0, none⟩) xs.length xs.length]) (t := 22) (Ctx.cons (uOwn .u32 93 w1.heap.size (List.replicate xs.length 0)) (Own.made w1 xs.length) (C.alloc (.cells (madeCells #[.int .u32 0] xs.length) 93))));simp only [World.size_alloc] at C;clear hmk;refine absW _ C ?_;clear C;generalize w1.heap.size = gq at hsz ⊢;intro w2 C;have C := Sdq.mk C;have hz2 := Sdq.mk (show gq + 2 < w2.heap.size from blk_lt C.out.1);go_wp2_with (go_at_call 95; refine (nat_limbs _ _ _ _).mono ?_; rintro e w' ⟨rfl, rfl⟩);have C := Ctx.new (cs := [.slice A xs.length c]) (t := 22) C.out;refine absW _ C ?_;clear C;intro w3 C;have C := Sdq.mk C;have hs3 := Sdq.mk (show gq + 2 < w2.heap.size ∧ w2.heap.size < w3.heap.size from ⟨hz2.out, blk_lt C.out.1⟩)
 apply wp_range (gf := 106) (lb := #[.pointer (some ⟨w2.heap.size, 0, none⟩)]) rfl (enters_of Tryd.func106 (by kernel_rfl) rfl)
  (limbs_stops (fun k => k < w0.heap.size ∨ k = w2.heap.size) w2.heap.size (fun k => k < w0.heap.size) A c xs lx w3 (cv_F C.out.2.2.2.2.2.2.1) (fun _ h => .inl h) (.inr rfl) (Ctx.blk C.out.1 0 rfl))
  Keeps.trans (keeps_book (fun i h => by have := hs3.out; have := hsz.out; omega)) (Below.refl _ _) (fun _ => rfl)
  (fun pre W => (uBlk (gq + 1 + 1) [.int .u64 (shAll xs d pre).2] 61).p W ∧ (uOwn .u32 93 gq (shAll xs d pre).1).p W ∧ (uBlk (gq + 1) [.slice (some ⟨gq, 0, none⟩) xs.length xs.length] 22).p W ∧ (uBlk w0.heap.size [.int .u32 d] 93).p W ∧ Below w0.heap.size w0 W)
  (fun _ _ _ => False)
  (OwnFrom.and (ownFrom_blk _ _ _ _) (OwnFrom.and (ownFrom_own _ _ _ _ _) (OwnFrom.and (ownFrom_blk _ _ _ (fun _ => _)) (OwnFrom.and (ownFrom_blk _ _ _ (fun _ => _)) (ownFrom_below (Nat.le_refl _) (by have := hs3.out; have := hsz.out; omega))))))
  (fun _ _ _ _ _ hs _ _ => hs)
  ⟨C.out.2.1, C.out.2.2.2.1, C.out.2.2.1, C.out.2.2.2.2.1, C.out.2.2.2.2.2.1⟩ _ ?assign ?body ?done ?stop
 case assign =>
  intro l x W K hK
  dsimp only [limbEnc]
  gi_wp2
  exact hK
 case stop =>
  rintro D cd pre W _ _ h _;exact h.elim
 case body =>
  rintro l pre ⟨j, hj⟩ W ⟨h7, hO, h6, h3, hB⟩ hlen;have hi := hinv.out pre
  have hjl : j < (shAll xs d pre).1.length := by rw [hi.1]; exact hj
  have c7 := Ctx.blk h7 0 rfl;have f7 := Ctx.frz h7 0;have c6 := Ctx.blk h6 0 rfl;have c3 := Ctx.blk h3 0 rfl
  obtain ⟨qv, cq⟩ : ∃ qv, W.cell? ⟨gq, j, none⟩ = some qv := ⟨_, hO.at_ hjl⟩
  have fq := hO.free j;have hxb := dx.out _ (List.getElem_mem hj)
  obtain ⟨x, ex⟩ : ∃ x, x = xs[j] := ⟨_, rfl⟩
  obtain ⟨r, er⟩ : ∃ r, r = (shAll xs d pre).2 := ⟨_, rfl⟩
  have hr := hi.2.2;rw [← er] at c7 hr;rw [← ex] at hxb ⊢;unfold B32 at hxb;have hor := or_high (r := r) (x := x) ⟨hr.1, by omega⟩ hxb;obtain ⟨hd1, hd2⟩ := hd
  have hd0 : ¬ d = 0 := by omega
  obtain ⟨u, eu⟩ : ∃ u, u = bits BinOp.or IntKind.u64 (r * 4294967296) x := ⟨_, rfl⟩
  rw [hor] at eu
  have hu0 : 0 ≤ u ∧ u < 18446744073709551616 := by omega
  have hqd : 0 ≤ u / d ∧ u / d < 4294967296 := ⟨Int.ediv_nonneg hu0.1 (by omega), by
   refine Int.ediv_lt_of_lt_mul (by omega) ?_;have : (r + 1) * 4294967296 ≤ d * 4294967296 := Int.mul_le_mul_of_nonneg_right (by omega) (by decide);rw [Int.mul_comm]
   omega⟩
  have hrd : 0 ≤ u % d ∧ u % d < d := ⟨Int.emod_nonneg _ (by omega), Int.emod_lt_of_pos _ (by omega)⟩
  gi_wp2
  simp only [← er, ← ex, hor, ← eu];have e1 : u.tdiv d = u / d := Int.tdiv_eq_ediv_of_nonneg hu0.1;have e2 : u.tmod d = u % d := Int.tmod_eq_emod_of_nonneg hu0.1;have e3 : IntKind.u64.wrap (u / d) = u / d := u64_in (by omega) (by omega)
  have e4 : IntKind.u32.wrap (u / d) = u / d := by rw [IntKind.wrap_u32']; exact Int.emod_eq_of_lt hqd.1 hqd.2
  have e5 : IntKind.u32.wrap (u % d) = u % d := by rw [IntKind.wrap_u32']; exact Int.emod_eq_of_lt hrd.1 (by omega)
  have e6 : IntKind.u64.wrap d = d := u64_in (by omega) (by omega);have e7 : IntKind.u64.wrap (u % d) = u % d := u64_in (by omega) (by omega)
  obtain ⟨q, eq⟩ : ∃ q, q = u / d := ⟨_, rfl⟩
  obtain ⟨m, em⟩ : ∃ m, m = u % d := ⟨_, rfl⟩
  rw [← eq] at e1 e3 e4 hqd;rw [← em] at e2 e5 e7 hrd;have Eq_ := Sdq.mk eq;have Em_ := Sdq.mk em;clear eq em;have hz := hsz.out;have hz3 := hs3.out
  have n1 : ¬ gq = w0.heap.size := by omega
  have n2 : ¬ w0.heap.size = gq := by omega
  have n3 : ¬ gq + 1 + 1 = w0.heap.size := by omega
  have n4 : ¬ w0.heap.size = gq + 1 + 1 := by omega
  obtain ⟨X0, hX0⟩ : ∃ X, X = { W with drawn := W.drawn + 1 } := ⟨_, rfl⟩
  have hB0 : Below W.heap.size W X0 := by rw [hX0]; exact below_drew (Below.refl _ _)
  have hO0 := Own.below hO hB0;have h70 := (uBlk _ _ _).up _ _ h7 hB0;have h60 := (uBlk _ _ _).up _ _ h6 hB0;have h30 := (uBlk _ _ _).up _ _ h3 hB0
  have hK0 : KeepsOthers W X0 := by rw [hX0]; exact KeepsOthers.drew W
  obtain ⟨X1, hX1⟩ : ∃ X, X = X0.setCell ⟨gq, j, none⟩ (.int .u32 q) := ⟨_, rfl⟩
  obtain ⟨X2, hX2⟩ : ∃ X, X = X1.setCell ⟨gq + 1 + 1, 0, none⟩ (.int .u64 m) := ⟨_, rfl⟩
  have hO1 : Own .u32 93 gq X1 ((shAll xs d pre).1.set j q) := by rw [hX1]; exact Own.put hO0 j q
  have h61 : (uBlk (gq + 1) [.slice (some ⟨gq, 0, none⟩) xs.length xs.length] 22).p X1 := by rw [hX1]; exact (Below.heap_setCell X0 _ _ _ (by dsimp only; omega)).trans h60
  have h31 : (uBlk w0.heap.size [.int .u32 d] 93).p X1 := by rw [hX1]; exact (Below.heap_setCell X0 _ _ _ (by dsimp only; omega)).trans h30
  have h71 : (uBlk (gq + 1 + 1) [.int .u64 r] 61).p X1 := by rw [er, hX1]; exact (Below.heap_setCell X0 _ _ _ (by dsimp only; omega)).trans h70
  have h72 : (uBlk (gq + 1 + 1) [.int .u64 m] 61).p X2 := by rw [hX2]; exact Ctx.put h71 0 _
  have hO2 : Own .u32 93 gq X2 ((shAll xs d pre).1.set j q) := by rw [hX2]; exact (Below.heap_setCell X1 _ _ _ (by dsimp only; omega)).trans hO1
  have h62 : (uBlk (gq + 1) [.slice (some ⟨gq, 0, none⟩) xs.length xs.length] 22).p X2 := by rw [hX2]; exact (Below.heap_setCell X1 _ _ _ (by dsimp only; omega)).trans h61
  have h32 : (uBlk w0.heap.size [.int .u32 d] 93).p X2 := by rw [hX2]; exact (Below.heap_setCell X1 _ _ _ (by dsimp only; omega)).trans h31
  have hcs : ∀ w : World, w = X0 ∨ w = X1 ∨ w = X2 → w.cell? ⟨gq + 1, 0, none⟩ = some (.slice (some ⟨gq, 0, none⟩) xs.length xs.length) ∧ w.cell? ⟨w0.heap.size, 0, none⟩ = some (.int .u32 d) := by
   rintro w (rfl | rfl | rfl)
   ·exact ⟨Ctx.blk h60 0 rfl, Ctx.blk h30 0 rfl⟩
   ·exact ⟨Ctx.blk h61 0 rfl, Ctx.blk h31 0 rfl⟩
   ·exact ⟨Ctx.blk h62 0 rfl, Ctx.blk h32 0 rfl⟩
  obtain ⟨c0, hc0⟩ : ∃ v, X0.cell? ⟨gq, j, none⟩ = some v := ⟨_, hO0.at_ hjl⟩
  have fq0 := hO0.free j;have c1 := Ctx.blk h71 0 rfl;have f1 := Ctx.frz h71 0
  have HEND : KeepsOthers W X2 ∧ Keeps (fun k => k < w0.heap.size ∨ k = w2.heap.size) W X2 ∧ ((uBlk (gq + 1 + 1) [.int .u64 (shAll xs d (pre ++ [⟨j, hj⟩])).2] 61).p X2 ∧ (uOwn .u32 93 gq (shAll xs d (pre ++ [⟨j, hj⟩])).1).p X2 ∧ (uBlk (gq + 1) [.slice (some ⟨gq, 0, none⟩) xs.length xs.length] 22).p X2 ∧ (uBlk w0.heap.size [.int .u32 d] 93).p X2 ∧ Below w0.heap.size w0 X2) := by
   have hs : shAll xs d (pre ++ [⟨j, hj⟩]) = ((shAll xs d pre).1.set j q, m) := by
    rw [sh_snoc];unfold shStep;rw [Eq_.out, Em_.out, eu, ex, er]
   rw [hs];refine ⟨?_, ?_, h72, hO2, h62, h32, ?_⟩
   ·rw [hX2, hX1]
    exact (hK0.trans (KeepsOthers.setCell _ _ _)).trans (KeepsOthers.setCell _ _ _)
   ·rw [hX2, hX1]
    exact ((Keeps.below hB0).set_ (by dsimp only; omega) _).set_ (by dsimp only; omega) _
   ·rw [hX2, hX1]
    exact ((hB.trans (hB0.mono (by have := blk_lt h3; omega))).setCell (by dsimp only; omega) _).setCell (by dsimp only; omega) _
  have HEND := Sdq.mk HEND;have HX0 := Sdq.mk hX0;have HX1 := Sdq.mk hX1;have HX2 := Sdq.mk hX2;clear hX0 hX1 hX2 Eq_ Em_;clear eu hor hxb hr er ex hB0 hK0 h60 h30 h70 h61 h31 h71 h62 h32 h72 hO2 hO1 hi hinv hz hz3;refine flowIn (m := 14) nat_short.tab7 rfl (fun l w => (l 13 = true → l 12 = true) ∧ w = if l 13 = true then X2 else if l 12 = true then X1 else X0) (fun i => (#[.slice (some ⟨gq, 0, none⟩) xs.length xs.length, .int .i64 (j : Int), .int .u64 u, .int .u32 d, .int .u64 d, .int .u64 q, .int .u32 q, .int .u64 u, .int .u32 d, .int .u64 d, .int .u64 m, .pointer (some ⟨gq, j, none⟩)] : Array Value).getD i undef) rfl (by kernel_rfl) (fun l l' w hl h => by rw [← hl 13 (by decide), ← hl 12 (by decide)]; exact h) ⟨by simp, by rw [HX0.out]; rfl⟩ ⟨⟨⟨⟨⟨⟨⟨⟨⟨⟨⟨⟨⟨⟨trivial, ?_⟩, ?_⟩, ?_⟩, ?_⟩, ?_⟩, ?_⟩, ?_⟩, ?_⟩, ?_⟩, ?_⟩, ?_⟩, ?_⟩, ?_⟩, ?_⟩ ?_
  ·refine AtIn.of _ rfl rfl (fun l a w hC hli hd hb K hK => ?_)
   have b6 : a.tmps[6]? = some (.pointer (some ⟨gq + 1, 0, none⟩)) := hb 6 (by decide);have hc := hcs w (by rw [hC.2]; split; exact .inr (.inr rfl); split; exact .inr (.inl rfl); exact .inl rfl);obtain ⟨hc1, hc2⟩ := hc;have hk := hK.out w hC;clear hK hC hd hb HX0 HX1 HX2 HEND
   go_simp
   exact hk
  ·refine AtIn.of _ rfl rfl (fun l a w hC hli hd hb K hK => ?_)
   have b8 : a.tmps[8]? = some (.int .i64 (j : Int)) := hb 8 (by decide);have hk := hK.out w hC;clear hK hC hd hb HX0 HX1 HX2 HEND
   go_simp
   exact hk
  ·refine AtIn.of _ rfl rfl (fun l a w hC hli hd hb K hK => ?_)
   have b10 : a.tmps[10]? = some (.int .u64 u) := hb 10 (by decide);have hk := hK.out w hC;clear hK hC hd hb HX0 HX1 HX2 HEND
   go_simp
   exact hk
  ·refine AtIn.of _ rfl rfl (fun l a w hC hli hd hb K hK => ?_)
   have b3 : a.tmps[3]? = some (.pointer (some ⟨w0.heap.size, 0, none⟩)) := hb 3 (by decide);have hc := hcs w (by rw [hC.2]; split; exact .inr (.inr rfl); split; exact .inr (.inl rfl); exact .inl rfl);obtain ⟨hc1, hc2⟩ := hc;have hk := hK.out w hC;clear hK hC hd hb HX0 HX1 HX2 HEND
   go_simp
   exact hk
  ·refine AtIn.of _ rfl rfl (fun l a w hC hli hd hb K hK => ?_)
   have q3 : a.tmps[26]? = some (.int .u32 d) := (hd 3 (by decide)).2 26 rfl;have hk := hK.out w hC;clear hK hC hd hb HX0 HX1 HX2 HEND
   go_simp
   exact hk
  ·refine AtIn.of _ rfl rfl (fun l a w hC hli hd hb K hK => ?_)
   have q2 : a.tmps[25]? = some (.int .u64 u) := (hd 2 (by decide)).2 25 rfl;have q4 : a.tmps[27]? = some (.int .u64 d) := (hd 4 (by decide)).2 27 rfl;have hk := hK.out w hC;clear hK hC hd hb HX0 HX1 HX2 HEND
   go_simp
   exact hk
  ·refine AtIn.of _ rfl rfl (fun l a w hC hli hd hb K hK => ?_)
   have q5 : a.tmps[28]? = some (.int .u64 q) := (hd 5 (by decide)).2 28 rfl;have hk := hK.out w hC;clear hK hC hd hb HX0 HX1 HX2 HEND
   go_simp
   exact hk
  ·refine AtIn.of _ rfl rfl (fun l a w hC hli hd hb K hK => ?_)
   have b10 : a.tmps[10]? = some (.int .u64 u) := hb 10 (by decide);have hk := hK.out w hC;clear hK hC hd hb HX0 HX1 HX2 HEND
   go_simp
   exact hk
  ·refine AtIn.of _ rfl rfl (fun l a w hC hli hd hb K hK => ?_)
   have b3 : a.tmps[3]? = some (.pointer (some ⟨w0.heap.size, 0, none⟩)) := hb 3 (by decide);have hc := hcs w (by rw [hC.2]; split; exact .inr (.inr rfl); split; exact .inr (.inl rfl); exact .inl rfl);obtain ⟨hc1, hc2⟩ := hc;have hk := hK.out w hC;clear hK hC hd hb HX0 HX1 HX2 HEND
   go_simp
   exact hk
  ·refine AtIn.of _ rfl rfl (fun l a w hC hli hd hb K hK => ?_)
   have q8 : a.tmps[31]? = some (.int .u32 d) := (hd 8 (by decide)).2 31 rfl;have hk := hK.out w hC;clear hK hC hd hb HX0 HX1 HX2 HEND
   go_simp
   exact hk
  ·refine AtIn.of _ rfl rfl (fun l a w hC hli hd hb K hK => ?_)
   have q7 : a.tmps[30]? = some (.int .u64 u) := (hd 7 (by decide)).2 30 rfl;have q9 : a.tmps[32]? = some (.int .u64 d) := (hd 9 (by decide)).2 32 rfl;have hk := hK.out w hC;clear hK hC hd hb HX0 HX1 HX2 HEND
   go_simp
   exact hk
  ·refine AtIn.of _ rfl rfl (fun l a w hC hli hd hb K hK => ?_)
   have q0 : a.tmps[23]? = some (.slice (some ⟨gq, 0, none⟩) xs.length xs.length) := (hd 0 (by decide)).2 23 rfl;have q1 : a.tmps[24]? = some (.int .i64 (j : Int)) := (hd 1 (by decide)).2 24 rfl;have hk := hK.out w hC;clear hK hC hd hb HX0 HX1 HX2 HEND
   go_simp
   exact hk
  ·refine AtIn.of _ rfl rfl (fun l a w hC hli hd hb K hK => ?_)
   have q11 : a.tmps[34]? = some (.pointer (some ⟨gq, j, none⟩)) := (hd 11 (by decide)).2 34 rfl;have q6 : a.tmps[29]? = some (.int .u32 q) := (hd 6 (by decide)).2 29 rfl
   have h13 : l 13 = false := by
    cases h : l 13 with
    | false => rfl
    | true => exact absurd (hC.1 h) (by rw [hli]; decide)
   obtain rfl : w = X0 := by rw [hC.2, if_neg (by rw [h13]; decide), if_neg (by rw [hli]; decide)]
   have hk := hK.out X1 ⟨fun _ => by simp, by simp [h13]⟩;rw [HX1.out] at hk;clear hK hC hd hb HX0 HX1 HX2 HEND
   go_simp
   exact hk
  ·refine AtIn.of _ rfl rfl (fun l a w hC hli hd hb K hK => ?_)
   have b7 : a.tmps[7]? = some (.pointer (some ⟨gq + 1 + 1, 0, none⟩)) := hb 7 (by decide);have q10 : a.tmps[33]? = some (.int .u64 m) := (hd 10 (by decide)).2 33 rfl;have h12 : l 12 = true := (hd 12 (by decide)).1
   obtain rfl : w = X1 := by rw [hC.2, if_neg (by rw [hli]; decide), if_pos h12]
   have hk := hK.out X2 ⟨fun _ => by simp [h12], by simp⟩;rw [HX2.out] at hk;clear hK hC hd hb HX0 HX1 HX2 HEND
   go_simp
   exact hk
  ·rintro w ⟨-, hw⟩
   rw [if_pos rfl] at hw;rw [hw];exact HEND.out
 case done =>
  rintro D ys W hD rfl ⟨h7, hO, h6, h3, hB⟩ hW;obtain ⟨hq, hr⟩ := hqr.out;rw [hr] at h7;have hi := hinv.out (dn xs.length 0);rw [hr] at hi
  obtain ⟨qs, eqs⟩ : ∃ qs, qs = (shAll xs d (dn xs.length 0)).1 := ⟨_, rfl⟩
  rw [← eqs] at hO hi hq;obtain ⟨hl, hdq, hr0, hr1⟩ := hi
  have hte : trim qs = dig B32 q0 := by rw [← hq]; exact trim_dig (B := B32) (by decide) hdq
  have e5 := Sdq.mk (show IntKind.u32.wrap r0 = r0 by rw [IntKind.wrap_u32']; exact Int.emod_eq_of_lt hr0 (by omega));have hte' := Sdq.mk hte;have hD' := Sdq.mk (show w0.heap.size ≤ D by have := hs3.out; have := hsz.out; omega);have hgq := Sdq.mk (hok.out gq (by have := hsz.out; omega))
  have CC : Ctx [uBlk (gq + 1) [.slice (some ⟨gq, 0, none⟩) xs.length xs.length] 22, uBlk (gq + 1 + 1) [.int .u64 r0] 61, uOwn .u32 93 gq qs, uObj D (.deferred (some [])), uB w0] W := ⟨h6, h7, hO, hW, hB, trivial⟩
  have htr := fun (W : World) (h : (uOwn .u32 93 gq qs).p W) => nat_trim0 ok (some ⟨gq, 0, none⟩) xs.length qs W (by omega) (cv_F (Own.cv h (by omega) hgq.out xs.length (by omega)))
  rw [hl] at htr;clear hO hB hW hte hq hr eqs hr0 hr1 hdq h6 h7 h3 hD hs3 hsz hz2
  go_upto_region 8 with fail
  refine flowT (n := 6) nat_short.tab8 rfl (Ctx _) (Rl [uEq (.slice (some ⟨gq, 0, none⟩) xs.length xs.length), uEq (.slice (some ⟨gq, 0, none⟩) (trim qs).length xs.length), uEq (.int .u64 r0), uEq (.int .u32 r0), uEq (.slice (some ⟨gq, 0, none⟩) (trim qs).length xs.length), uEq (.int .u32 r0)]) rfl (by kernel_rfl) (fun _ _ h hb => h.below hb) (Rl.up _) CC ⟨⟨⟨⟨⟨⟨trivial, ?_⟩, ?_⟩, ?_⟩, ?_⟩, ?_⟩, ?_⟩ ?_
  ·refine At.of _ rfl (fun e a w hC hd hb K hK => ?_)
   have b6 : a.tmps[6]? = some (.pointer (some ⟨gq + 1, 0, none⟩)) := hb 6 (by decide);have cc := Ctx.blk hC.1 0 rfl;refine value_ (w1 := w) (v := .slice (some ⟨gq, 0, none⟩) xs.length xs.length) (by rfl) rfl ?_ (hK.out _ _ (Below.refl _ _) rfl);clear hC hd hb hK
   first | (go_simp; done) | (go_simp; rfl)
  ·refine At.of _ rfl (fun e a w hC hd hb K hK => ?_)
   have q0 := (hd 0 (by decide)).2 35 rfl;rw [show e 0 = _ from (hd 0 (by decide)).1] at q0;refine goes_ Tryd.func94 (by kernel_rfl) rfl #[.slice (some ⟨gq, 0, none⟩) xs.length xs.length] (by rfl) rfl rfl (by first | (simp [Act.eval, q0]; done) | (simp [Act.eval, q0]; rfl)) ?_;refine (htr w hC.2.2.1).mono ?_;rintro en w' ⟨rfl, rfl⟩;exact ⟨_, rfl, hK.out _ _ (Below.refl _ _) rfl⟩
  ·refine At.of _ rfl (fun e a w hC hd hb K hK => ?_)
   have b7 : a.tmps[7]? = some (.pointer (some ⟨gq + 1 + 1, 0, none⟩)) := hb 7 (by decide);have cc := Ctx.blk hC.2.1 0 rfl;refine value_ (w1 := w) (v := .int .u64 r0) (by rfl) rfl ?_ (hK.out _ _ (Below.refl _ _) rfl);clear hC hd hb hK
   first | (go_simp; done) | (go_simp; rfl)
  ·refine At.of _ rfl (fun e a w hC hd hb K hK => ?_)
   have q2 := (hd 2 (by decide)).2 37 rfl;rw [show e 2 = _ from (hd 2 (by decide)).1] at q2;have e5 := e5.out;refine value_ (w1 := w) (v := .int .u32 r0) (by rfl) rfl ?_ (hK.out _ _ (Below.refl _ _) rfl);clear hC hd hb hK
   first | (go_simp; done) | (go_simp; rfl)
  ·refine At.of _ rfl (fun e a w hC hd hb K hK => ?_)
   have q1 := (hd 1 (by decide)).2 36 rfl;rw [show e 1 = _ from (hd 1 (by decide)).1] at q1;refine value_ (w1 := w) (v := .slice (some ⟨gq, 0, none⟩) (trim qs).length xs.length) (by rfl) rfl ?_ (hK.out _ _ (Below.refl _ _) rfl);clear hC hd hb hK
   first | (go_simp; done) | (go_simp; rfl)
  ·refine At.of _ rfl (fun e a w hC hd hb K hK => ?_)
   have q3 := (hd 3 (by decide)).2 38 rfl;rw [show e 3 = _ from (hd 3 (by decide)).1] at q3;refine value_ (w1 := w) (v := .int .u32 r0) (by rfl) rfl ?_ (hK.out _ _ (Below.refl _ _) rfl);clear hC hd hb hK
   first | (go_simp; done) | (go_simp; rfl)
  ·intro e w hC hr
   obtain ⟨⟨⟨⟨⟨⟨-, r0_⟩, r1_⟩, r2_⟩, r3_⟩, r4_⟩, r5_⟩ := hr;have q4 : e 4 = .slice (some ⟨gq, 0, none⟩) (trim qs).length xs.length := r4_;have q5 : e 5 = .int .u32 r0 := r5_;clear r0_ r1_ r2_ r3_ r4_ r5_;have hC := Sdq.mk hC;clear CC;simp only [fill, Act.put, q4, q5, if_true, List.setIfInBounds_toArray, List.set_cons_zero, List.set_cons_succ];clear q4 q5;go_wp2;refine marks_ret1 hC.out.2.2.2.1 (.tuple #[.slice (some ⟨gq, 0, none⟩) (trim qs).length xs.length, .int .u32 r0]) (by simp [results, Tryd.results104, go_sem]) ⟨_, rfl, ?_, below_put hC.out.2.2.2.2.1 hD'.out hC.out.2.2.2.1 _⟩;rw [← hte'.out]
   have hne : D ≠ gq := fun he => by
    have h1 : w.heap[D]? = some (.deferred (some [])) := hC.out.2.2.2.1;rw [he, show w.heap[gq]? = _ from hC.out.2.2.1] at h1;cases h1
   have hO : Own .u32 93 gq (w.putObj D (.deferred none)) qs := by
    refine Eq.trans ?_ (show w.heap[gq]? = _ from hC.out.2.2.1)
    simp [World.putObj, Array.getElem?_setIfInBounds_ne hne]
   exact trim_cv (by omega) (cv_F (Own.cv hO (by omega) hgq.out xs.length (by omega)))
end Go.Proofs.YthpgjgmaamcaoaaDoor.P
end
section
namespace Go.Proofs.YthpgjgmaamcaoaaDoor.P
open Go.RowKit Go.Shelf Go.Proofs.YthpgjgmaamcaoaaDoorW.PrintWords Go.Proofs.YthpgjgmaamcaoaaDoorW.PrintLast Go.Proofs.YthpgjgmaamcaoaaDoorW.PrintMore Go.Proofs.YthpgjgmaamcaoaaDoor.Nm
set_option maxRecDepth 100000
set_option linter.unusedVariables false
set_option linter.unusedSimpArgs false
def rvAt (n i k : Nat) : Nat := if k < i ∨ n ≤ k + i then n - 1 - k else k
def rv (l : List Int) (i : Nat) : List Int := (List.range l.length).map (fun k => l.getD (rvAt l.length i k) 0)
theorem rv_len (l : List Int) (i : Nat) : (rv l i).length = l.length := by simp [rv]
theorem rv_get (l : List Int) (i : Nat) {k : Nat} (h : k < (rv l i).length) : (rv l i)[k] = l.getD (rvAt l.length i k) 0 := by simp [rv]
theorem rv_zero (l : List Int) : rv l 0 = l := by
 refine List.ext_getElem (rv_len l 0) (fun k h1 h2 => ?_);rw [rv_get, rvAt, if_neg (by omega)]
 simp [h2]
theorem rv_end (l : List Int) {i : Nat} (h : l.length ≤ 2 * i + 1) : rv l i = l.reverse := by
 refine List.ext_getElem (by simp [rv_len]) (fun k h1 h2 => ?_);rw [rv_len] at h1;rw [rv_get, List.getElem_reverse, show rvAt l.length i k = l.length - 1 - k by unfold rvAt; split <;> omega]
 simp [show l.length - 1 - k < l.length by omega]
theorem rv_step (l : List Int) {i : Nat} (h : 2 * i + 1 < l.length) {x y : Int} (hx : x = (rv l i)[l.length - 1 - i]'(by rw [rv_len]; omega)) (hy : y = (rv l i)[i]'(by rw [rv_len]; omega)) : ((rv l i).set i x).set (l.length - 1 - i) y = rv l (i + 1) := by
 rw [rv_get] at hx hy;refine List.ext_getElem (by simp [rv_len]) (fun k h1 h2 => ?_);rw [rv_len] at h2;rw [rv_get, List.getElem_set, List.getElem_set, rv_get, hx, hy];clear hx hy;unfold rvAt;by_cases e1 : l.length - 1 - i = k
 ·rw [if_pos e1]; congr 1; subst e1; rw [if_neg (by omega), if_pos (by omega)]; omega
 ·rw [if_neg e1]
  by_cases e2 : i = k
  ·rw [if_pos e2]; subst e2; congr 1; rw [if_neg (by omega), if_pos (by omega)]
  ·rw [if_neg e2]
   congr 1
   by_cases e3 : k < i ∨ l.length ≤ k + i
   ·rw [if_pos e3, if_pos (by omega)]
   ·rw [if_neg e3, if_neg (by omega)]
def decS (n : Int) : ByteArray := if n = 0 then ⟨#[48]⟩ else strOfNums ((dig 10 n).reverse.map (· + 48))
theorem Cv.grown {α : Type} {d : Kd α} {ok : Nat → Prop} {w w' : World} {v : Value} {xs : List α} {row : Option Nat} (h : Cv d ok w v xs) (hg : w.grownBy w' row) (hok : ∀ k, ok k → some k ≠ row) : Cv d ok w' v xs := by
 obtain ⟨A, c, e, hc, h⟩ := h;exact ⟨A, c, e, hc, Kd.F_grown h hg hok⟩
theorem own_bel {W W' : World} {base n : Nat} {e : TypeId} {size : Nat} {v : Value} {xs : List Value} (h : W.ownsRow base e size v n xs) (hb : Below W.heap.size W W') : W'.ownsRow base e size v n xs := by
 obtain ⟨h1, h2⟩ := h;exact ⟨h1, h2.imp id fun ⟨g, cap, cur, he, hb', hr, hs⟩ => ⟨g, cap, cur, he, hb', (hb.block g (blk_lt hr)).trans hr, hs⟩⟩
theorem own_new {W : World} {base n : Nat} {e : TypeId} {size : Nat} {v : Value} {xs : List Value} (h : W.ownsRow base e size v n xs) : ∀ k, W.heap.size ≤ k → some k ≠ v.ownBlock := by
 rintro k hk he
 rcases h.2 with ⟨rfl, -⟩ | ⟨g, cap, cur, rfl, hb', hr, -⟩
 ·simp [Value.ownBlock] at he
 ·have := blk_lt hr
  simp only [Value.ownBlock, Option.some.injEq] at he
  omega
theorem nat_Text.tab12 : tabOf (opsOf Tryd.f89 12) = ([some 37, some 38, some 39, some 40, some 41, some 42, some 43, some 44, some 45, some 46, some 47, some 48, some 49, none, some 50, none], [[], [], [], [], [], [], [4, 5], [6], [], [], [8, 9], [10], [0, 1, 0, 1, 4, 5, 6, 7, 11], [12, 7, 0, 1, 4, 5, 6, 7, 11], [2, 3, 0, 1, 2, 3, 4, 5, 6, 7, 8, 9, 10, 11, 12, 13], [14, 11, 13, 0, 1, 2, 3, 4, 5, 6, 7, 8, 9, 10, 11, 12, 13]]) := by kernel_rfl
theorem nat_Text (v : Value) (xs : List Int) (n : Int) (w : World) (h : Cv (Kd.int .u32) (fun _ => True) w v xs) (dx : Dg B32 xs) (hn : n = val B32 xs) (hl : xs.length ≤ 10000) (hd : (dig 10 n).length ≤ 1000000) :
  Calls Tryd.prog 89 #[v] w fun e w' => e = .returned (.string (decS n)) ∧ Below w.heap.size w w' := by
 have h0 : 0 ≤ n := by rw [hn]; exact val_nonneg (by decide) dx
 have hN := nat_Norm (fun _ => True) w (fun _ _ => trivial) v _ h (by omega)
 have hl : (dig B32 n).length ≤ 10000 := by rw [hn, ← trim_dig (by decide) dx]; have := trim_length xs; omega
 rw [trim_dig (by decide) dx, ← hn] at hN;have hN := Sdq.mk hN;clear hn dx
 obtain ⟨s, hs⟩ : ∃ s, s = decS n := ⟨_, rfl⟩
 rw [← hs];by_cases hz : n = 0
 ·subst hz
  rw [dig_zero] at hN;obtain rfl : s = ⟨#[48]⟩ := hs;clear h;go_enter Tryd.func89, Tryd.ntmps89;go_wp2_with (go_at_call 96; refine hN.out.mono ?_; rintro e w1 ⟨v1, rfl, ⟨A, c, rfl, hc, hF⟩, hb⟩; simp only [List.length_nil]);go_ret;exact ⟨rfl, hb⟩
 ·have hp : 0 < n := by omega
  have hs := Sdq.mk (show s = strOfNums ((dig 10 n).reverse.map (· + 48)) by rw [hs]; unfold decS; rw [if_neg hz]);have hd' := Sdq.mk hd;have hl' := Sdq.mk hl
  have hne : ¬ (dig B32 n).length = 0 := by rw [dig_succ (by decide) hp]; simp
  clear h hd hl hz;go_enter Tryd.func89, Tryd.ntmps89;go_wp2_with (go_at_call 96; refine hN.out.mono ?_; rintro e w1 ⟨v1, rfl, ⟨A, c, rfl, hc, hF⟩, hb⟩; have hV := Sdq.mk (show Cv (Kd.int .u32) (fun _ => True) w1 (.slice A (dig B32 n).length c) (dig B32 n) from ⟨A, c, rfl, hc, hF⟩); clear hc hF);rw [show (((dig B32 n).length : Int) == 0) = false by simpa using hne];have hn := Sdq.mk hne;have hh0 := Sdq.mk h0;clear hne h0 hN
  go_loopg [3, 4] (dig 10 n).length (fun gk s3 s4 wr => ∃ (m : Int) (out : List Int) (v4 : Value) (A : Option Addr) (c : Nat), s3 = .slice A (dig B32 m).length c ∧ s4 = v4 ∧ Sdq (0 ≤ m ∧ m ≤ n) ∧ gk = (dig 10 m).length ∧ Sdq (dig 10 n = out ++ dig 10 m) ∧ Sdq (Cv (Kd.int .u32) (fun k => some k ≠ v4.ownBlock) wr (.slice A (dig B32 m).length c) (dig B32 m)) ∧ Sdq (wr.ownsRow w.heap.size 5 1 v4 (out.map (· + 48)).length (nums .u8 (out.map (· + 48)))) ∧ Sdq (Below w.heap.size w wr))
  case atStart => exact ⟨n, [], .slice none 0 0, A, c, rfl, rfl, ⟨hh0.out, by omega⟩, rfl, ⟨rfl⟩, ⟨hV.out.mono (fun k _ h => by simp [Value.ownBlock] at h)⟩, ⟨⟨rfl, .inl ⟨rfl, rfl⟩⟩⟩, ⟨hb⟩⟩
  case round =>
   clear hV hb;obtain ⟨m, out, v4, A', c', rfl, rfl, hm, hg, he, hV, ho, hb⟩ := hrel;by_cases hm0 : m = 0
   ·subst hm0
    rw [dig_zero] at hV
    obtain rfl : out = dig 10 n := by rw [he.out]; simp [dig_zero]
    clear hV hm hg he hl' hn;simp only [dig_zero, List.length_nil]
    obtain ⟨ds, hds⟩ : ∃ ds, ds = (dig 10 n).map (· + 48) := ⟨_, rfl⟩
    rw [← hds] at ho
    have hN : ∃ N, ds.length = N + 1 := by
     rw [hds, dig_succ (by decide) hp];exact ⟨_, by simp; rfl⟩
    obtain ⟨N, hN⟩ := hN
    obtain ⟨g, cap, rfl⟩ : ∃ g cap, u4 = .slice (some ⟨g, 0, none⟩) ds.length cap := by
     have h := ho.out;rw [hN] at h ⊢;exact ownsRow_succ h
    have hs : Sdq (s = strOfNums ds.reverse) := ⟨by rw [hs.out, hds, List.map_reverse]⟩
    have hd2 : ds.length ≤ 1000000 := by rw [hds, List.length_map]; exact hd'.out
    have hd3 : 1 ≤ ds.length := by omega
    clear hds hN hd';go_wp2
    go_loopg [6, 7] ds.length (fun gk s6 s7 wq => ∃ i : Nat, s6 = .int .i64 i ∧ s7 = .int .i64 ((ds.length : Int) - 1 - i) ∧ gk + i = ds.length ∧ Sdq (wq.ownsRow w.heap.size 5 1 (.slice (some ⟨g, 0, none⟩) ds.length cap) ds.length (nums .u8 (rv ds i))) ∧ Sdq (Below w.heap.size w wq))
    case atStart => exact ⟨0, rfl, by simp, by omega, ⟨by rw [rv_zero]; exact ho.out⟩, hb⟩
    case round =>
     clear ho hb;obtain ⟨i, rfl, rfl, hi, ho, hb⟩ := hrel;by_cases hij : (i : Int) < (ds.length : Int) - 1 - i
     ·obtain ⟨j, hj⟩ : ∃ j : Nat, j = ds.length - 1 - i := ⟨_, rfl⟩
      have ej : (ds.length : Int) - 1 - i = (j : Int) := by omega
      rw [ej] at hij ⊢;have hr := own_reads' ho.out;have hrl : (rv ds i).length = ds.length := rv_len ds i
      obtain ⟨x, hx⟩ : ∃ x, x = (rv ds i)[j]'(by omega) := ⟨_, rfl⟩
      obtain ⟨y, hy⟩ : ∃ y, y = (rv ds i)[i]'(by omega) := ⟨_, rfl⟩
      obtain ⟨ad, had, hc⟩ := hr.2.2 (by omega)
      obtain rfl : (⟨g, 0, none⟩ : Addr) = ad := by injection had
      have cj : wr.cell? ⟨g, j, none⟩ = some (.int .u8 x) := by
       have := hc j (by omega);rw [add_plain] at this;rw [this, hx]
       simp [show j < (rv ds i).length by omega]
      have ci : wr.cell? ⟨g, i, none⟩ = some (.int .u8 y) := by
       have := hc i (by omega);rw [add_plain] at this;rw [this, hy]
       simp [show i < (rv ds i).length by omega]
      have hfr : ∀ k, wr.frozen? ⟨g, k, none⟩ = false := by
       rcases ho.out.2 with ⟨h, -⟩ | ⟨g', cap', cur, h, -, hb', -⟩
       ·cases h
       ·cases h
        exact fun k => bfz hb' k
      have fi := hfr i;have fj := hfr j;have hX := Sdq.mk (ho.out);have hst := Sdq.mk (rv_step ds (i := i) (x := x) (y := y) (by omega) (by rw [hx]; congr 1) hy);clear hx hy hr hc ho
      obtain ⟨X0, hX0⟩ : ∃ X, X = { wr with drawn := wr.drawn + 1 } := ⟨_, rfl⟩
      obtain ⟨X1, hX1⟩ : ∃ X, X = X0.setCell ⟨g, i, none⟩ (.int .u8 x) := ⟨_, rfl⟩
      obtain ⟨X2, hX2⟩ : ∃ X, X = X1.setCell ⟨g, j, none⟩ (.int .u8 y) := ⟨_, rfl⟩
      have hO0 : X0.ownsRow w.heap.size 5 1 (.slice (some ⟨g, 0, none⟩) ds.length cap) (rv ds i).length (nums .u8 (rv ds i)) := by rw [hX0, hrl]; exact hX.out
      rw [← hrl] at hO0;have hO1 := own_put hO0 (i : Int) x;rw [Int.toNat_natCast, ← hX1] at hO1
      have e1 : (rv ds i).length = ((rv ds i).set i x).length := by simp
      rw [e1] at hO1;have hO2 := own_put hO1 (j : Int) y;rw [Int.toNat_natCast, ← hX2, hj, hst.out, ← e1, hrl, rv_len] at hO2
      have hg0 : w.heap.size ≤ g := by
       rcases hX.out.2 with ⟨h, -⟩ | ⟨g', cap', cur, h, hb', -⟩
       ·cases h
       ·cases h
        exact hb'
      have hBX : Below w.heap.size w X2 := by
       rw [hX2, hX1, hX0];exact ((hb.out.drew).setCell hg0 _).setCell hg0 _
      have c0i : X0.cell? ⟨g, i, none⟩ = some (.int .u8 y) := by rw [hX0]; exact ci
      have c0j : X0.cell? ⟨g, j, none⟩ = some (.int .u8 x) := by rw [hX0]; exact cj
      have f0i : X0.frozen? ⟨g, i, none⟩ = false := by rw [hX0]; exact fi
      have c1j : X1.cell? ⟨g, j, none⟩ = some (.int .u8 x) := by
       have hne : ¬ i = j := by omega
       rw [hX1];clear hj ej hij
       go_simp
      have f1j : X1.frozen? ⟨g, j, none⟩ = false := by
       have f0j : X0.frozen? ⟨g, j, none⟩ = false := by rw [hX0]; exact fj
       rw [hX1];clear hj ej hij
       go_simp
      have hEnd := Sdq.mk (And.intro hO2 hBX);have HX0 := Sdq.mk hX0;have HX1 := Sdq.mk hX1;have HX2 := Sdq.mk hX2;have hln := Sdq.mk hrl
      have hjl : j < ds.length := by omega
      have hil : i < ds.length := by omega
      have HEJ := Sdq.mk ej;clear hX0 hX1 hX2 hO0 hO1 e1 hO2 hBX hX hst ci cj fi fj hfr had hj ej hrl
      go_upto_region 12 with fail
      refine wpIn_wide (n := 3) |>.1 ?_
      obtain ⟨ev, hev⟩ : ∃ ev : Nat → Value, ev = fun o_ => (#[.slice (some ⟨g, 0, none⟩) ds.length cap, .int .i64 (i : Int), .slice (some ⟨g, 0, none⟩) ds.length cap, .int .i64 (j : Int), .slice (some ⟨g, 0, none⟩) ds.length cap, .int .i64 (j : Int), .pointer (some ⟨g, j, none⟩), .int .u8 x, .slice (some ⟨g, 0, none⟩) ds.length cap, .int .i64 (i : Int), .pointer (some ⟨g, i, none⟩), .int .u8 y, .pointer (some ⟨g, i, none⟩), undef, .pointer (some ⟨g, j, none⟩)] : Array Value).getD o_ undef := ⟨_, rfl⟩
      have hev := Sdq.mk hev;refine flowIn (m := 16) nat_Text.tab12 rfl (fun l w => (l 15 = true → l 13 = true) ∧ (l 13 = true → l 7 = true ∧ l 11 = true) ∧ w = if l 15 = true then X2 else if l 13 = true then X1 else X0) ev rfl (by kernel_rfl) (fun l l' w hl h => by rw [← hl 15 (by decide), ← hl 13 (by decide), ← hl 7 (by decide), ← hl 11 (by decide)]; exact h) ⟨by simp, by simp, by rw [HX0.out]; rfl⟩ ⟨⟨⟨⟨⟨⟨⟨⟨⟨⟨⟨⟨⟨⟨⟨⟨trivial, ?_⟩, ?_⟩, ?_⟩, ?_⟩, ?_⟩, ?_⟩, ?_⟩, ?_⟩, ?_⟩, ?_⟩, ?_⟩, ?_⟩, ?_⟩, ?_⟩, ?_⟩, ?_⟩ ?_
      ·refine AtIn.of _ rfl rfl (fun l a w hC hli hd hb K hK => ?_)
       have b4 : a.tmps[4]? = some (.slice (some ⟨g, 0, none⟩) ds.length cap) := hb 4 (by decide);have hk := hK.out w hC;rw [hev.out] at hk;clear hK hC hd hb HX0 HX1 HX2 hEnd hev
       go_simp
       exact hk
      ·refine AtIn.of _ rfl rfl (fun l a w hC hli hd hb K hK => ?_)
       have b6 : a.tmps[6]? = some (.int .i64 (i : Int)) := hb 6 (by decide);have hk := hK.out w hC;rw [hev.out] at hk;clear hK hC hd hb HX0 HX1 HX2 hEnd hev
       go_simp
       exact hk
      ·refine AtIn.of _ rfl rfl (fun l a w hC hli hd hb K hK => ?_)
       have b4 : a.tmps[4]? = some (.slice (some ⟨g, 0, none⟩) ds.length cap) := hb 4 (by decide);have hk := hK.out w hC;rw [hev.out] at hk;clear hK hC hd hb HX0 HX1 HX2 hEnd hev
       go_simp
       exact hk
      ·refine AtIn.of _ rfl rfl (fun l a w hC hli hd hb K hK => ?_)
       have b7 : a.tmps[7]? = some (.int .i64 (j : Int)) := hb 7 (by decide);have hk := hK.out w hC;rw [hev.out] at hk;clear hK hC hd hb HX0 HX1 HX2 hEnd hev
       go_simp
       exact hk
      ·refine AtIn.of _ rfl rfl (fun l a w hC hli hd hb K hK => ?_)
       have b4 : a.tmps[4]? = some (.slice (some ⟨g, 0, none⟩) ds.length cap) := hb 4 (by decide);have hk := hK.out w hC;rw [hev.out] at hk;clear hK hC hd hb HX0 HX1 HX2 hEnd hev
       go_simp
       exact hk
      ·refine AtIn.of _ rfl rfl (fun l a w hC hli hd hb K hK => ?_)
       have b7 : a.tmps[7]? = some (.int .i64 (j : Int)) := hb 7 (by decide);have hk := hK.out w hC;rw [hev.out] at hk;clear hK hC hd hb HX0 HX1 HX2 hEnd hev
       go_simp
       exact hk
      ·refine AtIn.of _ rfl rfl (fun l a w hC hli hd hb K hK => ?_)
       have q4 : a.tmps[41]? = some (.slice (some ⟨g, 0, none⟩) ds.length cap) := by have := (hd 4 (by decide)).2 41 rfl; rw [hev.out] at this; exact this
       have q5 : a.tmps[42]? = some (.int .i64 (j : Int)) := by have := (hd 5 (by decide)).2 42 rfl; rw [hev.out] at this; exact this
       have hk := hK.out w hC;rw [hev.out] at hk;clear hK hC hd hb HX0 HX1 HX2 hEnd hev
       go_simp
       exact hk
      ·refine AtIn.of _ rfl rfl (fun l a w hC hli hd hb K hK => ?_)
       have q6 : a.tmps[43]? = some (.pointer (some ⟨g, j, none⟩)) := by have := (hd 6 (by decide)).2 43 rfl; rw [hev.out] at this; exact this
       have h13 : l 13 = false := by
        cases h : l 13 with
        | false => rfl
        | true => exact absurd (hC.2.1 h).1 (by rw [hli]; decide)
       have h15 : l 15 = false := by
        cases h : l 15 with
        | false => rfl
        | true => exact absurd (hC.1 h) (by rw [h13]; decide)
       obtain rfl : w = X0 := by rw [hC.2.2, if_neg (by rw [h15]; decide), if_neg (by rw [h13]; decide)]
       have hk := hK.out w ⟨hC.1, fun h => absurd (show l 13 = true from h) (by rw [h13]; decide), hC.2.2⟩;rw [hev.out] at hk;clear hK hC hd hb HX0 HX1 HX2 hEnd hev
       go_simp
       exact hk
      ·refine AtIn.of _ rfl rfl (fun l a w hC hli hd hb K hK => ?_)
       have b4 : a.tmps[4]? = some (.slice (some ⟨g, 0, none⟩) ds.length cap) := hb 4 (by decide);have hk := hK.out w hC;rw [hev.out] at hk;clear hK hC hd hb HX0 HX1 HX2 hEnd hev
       go_simp
       exact hk
      ·refine AtIn.of _ rfl rfl (fun l a w hC hli hd hb K hK => ?_)
       have b6 : a.tmps[6]? = some (.int .i64 (i : Int)) := hb 6 (by decide);have hk := hK.out w hC;rw [hev.out] at hk;clear hK hC hd hb HX0 HX1 HX2 hEnd hev
       go_simp
       exact hk
      ·refine AtIn.of _ rfl rfl (fun l a w hC hli hd hb K hK => ?_)
       have q8 : a.tmps[45]? = some (.slice (some ⟨g, 0, none⟩) ds.length cap) := by have := (hd 8 (by decide)).2 45 rfl; rw [hev.out] at this; exact this
       have q9 : a.tmps[46]? = some (.int .i64 (i : Int)) := by have := (hd 9 (by decide)).2 46 rfl; rw [hev.out] at this; exact this
       have hk := hK.out w hC;rw [hev.out] at hk;clear hK hC hd hb HX0 HX1 HX2 hEnd hev
       go_simp
       exact hk
      ·refine AtIn.of _ rfl rfl (fun l a w hC hli hd hb K hK => ?_)
       have q10 : a.tmps[47]? = some (.pointer (some ⟨g, i, none⟩)) := by have := (hd 10 (by decide)).2 47 rfl; rw [hev.out] at this; exact this
       have h13 : l 13 = false := by
        cases h : l 13 with
        | false => rfl
        | true => exact absurd (hC.2.1 h).2 (by rw [hli]; decide)
       have h15 : l 15 = false := by
        cases h : l 15 with
        | false => rfl
        | true => exact absurd (hC.1 h) (by rw [h13]; decide)
       obtain rfl : w = X0 := by rw [hC.2.2, if_neg (by rw [h15]; decide), if_neg (by rw [h13]; decide)]
       have hk := hK.out w ⟨hC.1, fun h => absurd (show l 13 = true from h) (by rw [h13]; decide), hC.2.2⟩;rw [hev.out] at hk;clear hK hC hd hb HX0 HX1 HX2 hEnd hev
       go_simp
       exact hk
      ·refine AtIn.of _ rfl rfl (fun l a w hC hli hd hb K hK => ?_)
       have q0 : a.tmps[37]? = some (.slice (some ⟨g, 0, none⟩) ds.length cap) := by have := (hd 0 (by decide)).2 37 rfl; rw [hev.out] at this; exact this
       have q1 : a.tmps[38]? = some (.int .i64 (i : Int)) := by have := (hd 1 (by decide)).2 38 rfl; rw [hev.out] at this; exact this
       have hk := hK.out w hC;rw [hev.out] at hk;clear hK hC hd hb HX0 HX1 HX2 hEnd hev
       go_simp
       exact hk
      ·refine AtIn.of _ rfl rfl (fun l a w hC hli hd hb K hK => ?_)
       have q12 : a.tmps[49]? = some (.pointer (some ⟨g, i, none⟩)) := by have := (hd 12 (by decide)).2 49 rfl; rw [hev.out] at this; exact this
       have q7 : a.tmps[44]? = some (.int .u8 x) := by have := (hd 7 (by decide)).2 44 rfl; rw [hev.out] at this; exact this
       have h7 : l 7 = true := (hd 7 (by decide)).1;have h11 : l 11 = true := (hd 11 (by decide)).1
       have h15 : l 15 = false := by
        cases h : l 15 with
        | false => rfl
        | true => exact absurd (hC.1 h) (by rw [hli]; decide)
       obtain rfl : w = X0 := by rw [hC.2.2, if_neg (by rw [h15]; decide), if_neg (by rw [hli]; decide)]
       have hk := hK.out X1 ⟨fun _ => by simp, fun _ => by simp [h7, h11], by simp [h15]⟩;rw [HX1.out] at hk;rw [hev.out] at hk;clear hK hC hd hb HX0 HX1 HX2 hEnd hev
       go_simp
       exact hk
      ·refine AtIn.of _ rfl rfl (fun l a w hC hli hd hb K hK => ?_)
       have q2 : a.tmps[39]? = some (.slice (some ⟨g, 0, none⟩) ds.length cap) := by have := (hd 2 (by decide)).2 39 rfl; rw [hev.out] at this; exact this
       have q3 : a.tmps[40]? = some (.int .i64 (j : Int)) := by have := (hd 3 (by decide)).2 40 rfl; rw [hev.out] at this; exact this
       have hk := hK.out w hC;rw [hev.out] at hk;clear hK hC hd hb HX0 HX1 HX2 hEnd hev
       go_simp
       exact hk
      ·refine AtIn.of _ rfl rfl (fun l a w hC hli hd hb K hK => ?_)
       have q14 : a.tmps[50]? = some (.pointer (some ⟨g, j, none⟩)) := by have := (hd 14 (by decide)).2 50 rfl; rw [hev.out] at this; exact this
       have q11 : a.tmps[48]? = some (.int .u8 y) := by have := (hd 11 (by decide)).2 48 rfl; rw [hev.out] at this; exact this
       have h13 : l 13 = true := (hd 13 (by decide)).1
       obtain rfl : w = X1 := by rw [hC.2.2, if_neg (by rw [hli]; decide), if_pos h13]
       have hk := hK.out X2 ⟨fun _ => by simp [h13], fun _ => by simpa using hC.2.1 h13, by simp⟩;rw [HX2.out] at hk;rw [hev.out] at hk;clear hK hC hd hb HX0 HX1 HX2 hEnd hev
       go_simp
       exact hk
      ·rintro w ⟨-, -, hw⟩
       rw [if_pos rfl] at hw;subst hw;clear hev HX2 HX1 HX0 c0i c0j f0i c1j f1j;simp only [fill, Act.put, if_true, List.setIfInBounds_toArray, List.set_cons_zero, List.set_cons_succ]
       obtain ⟨gk', rfl⟩ : ∃ k, gk = k + 1 := ⟨gk - 1, by omega⟩
       go_wp2
       go_roundg gk'
       case measure => omega
       case rel => exact ⟨i + 1, by go_num, by have := HEJ.out; simp only [Value.int.injEq, true_and]; (first | omega | (unfold wrap64; omega)), by omega, ⟨hEnd.out.1⟩, ⟨hEnd.out.2⟩⟩
     ·rw [rv_end ds (by omega)] at ho
      have hcv := string_of_reads (P := Tryd.prog) (src := 102) (dst := 9) (e := 5) (c := cap) rfl rfl rfl (own_reads' ho.out);rw [← hs.out] at hcv;clear hi ho;go_wp2;go_ret;exact ⟨rfl, hb.out⟩
   ·have hmp : 0 < m := by have := hm.out; omega
    have hlm : (dig B32 m).length ≤ (dig B32 n).length := by
     refine dig_len (B := B32) (by decide) (Int.lt_of_le_of_lt hm.out.2 ?_);have h := val_lt (B := B32) (by decide) (dig_Dg (B := B32) (by decide) n)
     rwa [val_dig (by decide) n hh0.out] at h
    have hdm := dig_succ (B := 10) (by decide) hmp
    have hnz : 0 < (dig B32 m).length := by rw [dig_succ (by decide) hmp]; simp
    have hsh := nat_short (fun k => some k ≠ u4.ownBlock) (.slice A' (dig B32 m).length c') (dig B32 m) 10 wr (own_new ho.out) (hV.out.mono (fun _ _ => trivial)) (dig_Dg (by decide) m) (by have := hl'.out; omega) (by decide);rw [val_dig (by decide) m (by omega)] at hsh
    obtain ⟨q, hq⟩ : ∃ q, q = m / 10 := ⟨_, rfl⟩
    obtain ⟨r, hr⟩ : ∃ r, r = m % 10 := ⟨_, rfl⟩
    rw [← hq, ← hr] at hsh hdm
    have hr0 : 0 ≤ r ∧ r < 10 := by omega
    have hq0 := Sdq.mk (show 0 ≤ q ∧ q ≤ n by have := hm.out; omega)
    have hgl : (dig 10 n).length = out.length + gk := by rw [he.out, List.length_append, hg]
    have hol : out.length + 1 ≤ 1000001 := by have := hd'.out; omega
    have he := Sdq.mk (show dig 10 n = (out ++ [r]) ++ dig 10 q by rw [he.out, hdm]; simp)
    have hg : gk = (dig 10 q).length + 1 := by rw [hg, hdm]; rfl
    have hgl := Sdq.mk hgl
    have hsz2 := fun (W : World) (h : Below wr.heap.size wr W) => Nat.le_trans hb.out.size h.size
    have hsz2 : ∀ W : World, Below wr.heap.size wr W → w.heap.size ≤ W.heap.size := hsz2;clear hq hr hdm hm hm0 hlm
    go_wp2_with (first
     | (go_at_call 104; refine hsh.mono ?_; rintro e w2 ⟨v2, rfl, hv2, hb2⟩)
     | (at_builtin; refine print_append_num (w0 := w2) w.heap.size rfl _ _ 102 5 .u8 1 rfl Tryd.underlying102 info5 (by decide) u4 (out.map (· + 48)) (48 + r) rfl rfl (own_bel ho.out hb2) (Below.refl _ _) (hsz2 w2 hb2) (by simp; omega) ?_; intro v5 w5 hown5 hbe5 hgr5 hat5))
    obtain ⟨A2, c2, rfl, hc2, hF2⟩ := hv2
    have hm5 : (out ++ [r]).map (· + 48) = out.map (· + 48) ++ [48 + r] := by simp [Int.add_comm]
    rw [← hm5] at hown5
    have hV5 := ((Cv.within (ok' := fun k => some k ≠ u4.ownBlock ∧ k < w2.heap.size) ⟨A2, c2, rfl, hc2, hF2⟩ (fun k h1 h2 => ⟨h1, h2⟩)).grown hgr5 (fun k h => h.1)).mono (ok' := fun k => some k ≠ v5.ownBlock) (fun k h => by
     rcases hat5 with h5 | ⟨b, h5, h6⟩
     ·rw [h5]; exact h.1
     ·rw [h5]
      simp only [ne_eq, Option.some.injEq];have := h.2
      omega)
    go_roundg (dig 10 q).length
    case measure => omega
    case rel => exact ⟨q, out ++ [r], v5, A2, c2, rfl, rfl, hq0, rfl, he, ⟨hV5⟩, ⟨hown5⟩, ⟨(hb.out.trans (hb2.mono hb.out.size)).trans hbe5⟩⟩
end Go.Proofs.YthpgjgmaamcaoaaDoor.P
end
section
namespace Go.Proofs.YthpgjgmaamcaoaaDoor.P
open Go.RowKit Go.Shelf Go.Proofs.YthpgjgmaamcaoaaDoorW.PrintWords Go.Proofs.YthpgjgmaamcaoaaDoorW.PrintLast Go.Proofs.YthpgjgmaamcaoaaDoorW.PrintMore Go.Proofs.YthpgjgmaamcaoaaDoor.Nm
set_option maxRecDepth 100000
set_option linter.unusedVariables false
set_option linter.unusedSimpArgs false
theorem pow_ten : ∀ k : Nat, B32 ^ k ≤ 10 ^ (10 * k)
 | 0 => by simp
 | k + 1 => by
  rw [Int.pow_succ, Nat.mul_add, Nat.mul_one, Int.pow_add];have h := pow_ten k;have h0 : (0 : Int) ≤ 10 ^ (10 * k) := Int.le_of_lt (Int.pow_pos (by decide));exact Int.mul_le_mul h (by decide) (by decide) h0
theorem dec_len {xs : List Int} (h : Dg B32 xs) : (dig 10 (val B32 xs)).length ≤ 10 * xs.length :=
 dig_len (B := 10) (by decide) (Int.lt_of_lt_of_le (val_lt (B := B32) (by decide) h) (pow_ten _))
def decI (n : Int) : ByteArray := if n < 0 then ⟨#[45]⟩ ++ decS (-n) else decS n
theorem decS_size (n : Int) : (decS n).size ≤ (dig 10 n).length + 1 := by
 unfold decS
 split
 ·show 1 ≤ _; omega
 ·simp [strOfNums, ByteArray.size]
theorem big_Text (v : Value) (x : S24) (w0 : World) (h : Kv k24 (fun _ => True) w0 v x) (hx : Big x) : Calls Tryd.prog 63 #[v] w0 fun e w' => e = .returned (.string (decI (bv x))) ∧ Below w0.heap.size w0 w' := by
 have h0 := val_nonneg (B := B32) (by decide) hx.dg
 have hS := fun (W : World) (hb : Below w0.heap.size w0 W) => big_Sign v x W (h.below hb) hx.dg
 obtain ⟨xA, xc, rfl, xl, xF⟩ := h.openB
 have hT := fun (W : World) (hb : Below w0.heap.size w0 W) => nat_Text (.slice xA x.f1.length xc) x.f1 (val B32 x.f1) W ⟨xA, xc, rfl, xl, Kd.F_below xF hb⟩ hx.dg rfl hx.len (by have := dec_len hx.dg; have := hx.len; omega)
 have hT := Sdq.mk hT
 obtain ⟨n, hn⟩ : ∃ n, n = bv x := ⟨_, rfl⟩
 rw [← hn] at hS ⊢
 obtain ⟨T, hTe⟩ : ∃ T, T = decI n := ⟨_, rfl⟩
 rw [← hTe];have hS := Sdq.mk hS;have C := Ctx.new (cs := [.bool x.f0, .slice xA x.f1.length xc]) (t := 24) (Ctx.cons (uB w0) (Below.refl _ _) Ctx.nil);clear h xl xF;go_enter Tryd.func63, Tryd.ntmps63
 go_upto_region 1 with fail
 refine absW _ C ?_;clear C;intro w1 C;have x0 := Ctx.blk C.1 0 rfl;have x1 := Ctx.blk C.1 1 rfl;have C := Sdq.mk C;by_cases hv : n < 0
 ·obtain ⟨s, hs⟩ : ∃ s, s = decS (-n) := ⟨_, rfl⟩
  have hsn : sgn n = -1 := sgn_lt hv
  have hvl : val B32 x.f1 = -n := by
   rw [hn]; unfold bv sg;rw [hn] at hv; unfold bv sg at hv
   split <;> simp_all <;> omega
  obtain rfl : T = ⟨#[45]⟩ ++ s := by rw [hTe]; unfold decI; rw [if_pos hv, hs]
  simp only [hvl, ← hs] at hT;rw [hsn] at hS
  have hsz : ¬ 9223372036854775807 < 1 + s.size := by
   have h1 := decS_size (-n);have h2 := dec_len hx.dg;have h3 := hx.len;rw [hvl] at h2;rw [← hs] at h1
   omega
  clear hn hs hv h0 hsn hvl hTe;go_wp2_with (first | (go_at_call 51; refine (hS.out _ C.out.2.1).mono ?_; rintro e w2 ⟨rfl, hb⟩; replace x1 := pw_cell_below hb x1) | (go_at_call 89; refine (hT.out w2 (below_step C.out.2.1 hb)).mono ?_; rintro e w3 ⟨rfl, hb3⟩));go_ret;exact ⟨rfl, below_step (below_step C.out.2.1 hb) hb3⟩
 ·have hvl : val B32 x.f1 = n := by
   rw [hn]; unfold bv sg;rw [hn] at hv; unfold bv sg at hv
   split <;> simp_all <;> omega
  have hTT : decS n = T := by rw [hTe]; unfold decI; rw [if_neg hv]
  simp only [hvl, hTT] at hT
  have hsg : 0 ≤ sgn n := by unfold sgn; split <;> (try split) <;> omega
  obtain ⟨g, hg⟩ : ∃ g, g = sgn n := ⟨_, rfl⟩
  rw [← hg] at hS hsg;clear hn hv h0 hvl hTe hTT hg;go_wp2_with (first | (go_at_call 51; refine (hS.out _ C.out.2.1).mono ?_; rintro e w2 ⟨rfl, hb⟩; replace x1 := pw_cell_below hb x1) | (go_at_call 89; refine (hT.out w2 (below_step C.out.2.1 hb)).mono ?_; rintro e w3 ⟨rfl, hb3⟩));go_ret;exact ⟨rfl, below_step (below_step C.out.2.1 hb) hb3⟩
end Go.Proofs.YthpgjgmaamcaoaaDoor.P
end
section
namespace Go.Proofs.YthpgjgmaamcaoaaDoor.P
open Go.RowKit Go.Shelf Go.Proofs.YthpgjgmaamcaoaaDoorW.PrintWords Go.Proofs.YthpgjgmaamcaoaaDoorW.PrintLast Go.Proofs.YthpgjgmaamcaoaaDoorW.PrintMore Go.Proofs.YthpgjgmaamcaoaaDoor.Nm
set_option linter.unusedVariables false
set_option linter.unusedSimpArgs false
set_option maxRecDepth 100000 in
theorem r1_Trim (ok : Nat → Prop) (w : World) (hok : ∀ k, w.heap.size ≤ k → ok k) (v : Value) (xs : List Int) (h : Cv (Kd.int .i64) (fun _ => True) w v xs) (hs : xs.length ≤ 2000000) : Calls Tryd.prog 87 #[v] w (CPost (Kd.int .i64) ok w (trim xs)) := by
 obtain ⟨A, c, rfl, hc, hF⟩ := h;have hr := Sdq.mk (row_of hF);have hF := Sdq.mk hF;have hok := Sdq.mk hok;have hc' := Sdq.mk hc;clear hc;go_enter Tryd.func87, Tryd.ntmps87;go_wp2
 go_loop [3] (fun n => ∃ m : Nat, m ≤ xs.length ∧ n = .int .i64 m ∧ Sdq (trim (xs.take m) = trim xs)) (fun n => (intOf n).toNat)
 case atStart => exact ⟨xs.length, Nat.le_refl _, rfl, ⟨by rw [List.take_length]⟩⟩
 case round =>
  obtain ⟨m, hmx, rfl, ht⟩ := hrel
  cases m with
  | zero =>
   have hle : (0 : Nat) ≤ c := Nat.zero_le _
   go_wp2_with (first
    | ((with_reducible refine gate_builtin (b := .append) (xs := #[.tmp 19, .tmp 22]) rfl ?_); at_builtin; refine Kd.R_append_rows (Kd.int .i64) (w0 := w) w.heap.size rfl (.tmp 19) (.tmp 22) 32 3 (.int .i64 0) 8 rfl Tryd.underlying32 info3 rfl (by decide) (by decide) (.slice none 0 0) ([] : List Int) (xs.take 0) A 0 c (fun k => w.heap.size ≤ k) (fun _ => False) rfl rfl (Kd.R_nil _ _ _ _ _) (Kd.F_now (Kd.F_take hF.out (Nat.zero_le _))) (fun _ _ h => h) (fun _ h => h.elim) (fun _ h => h) (Below.refl _ _) (Nat.le_refl _) (by simp) ?_; intro v1 w1 ho hb hg hat; have ho := Sdq.mk ho; have hb := Sdq.mk hb; clear hg hat))
   go_ret;exact ⟨_, rfl, by rw [show trim xs = [] ++ xs.take 0 from ht.out.symm]; exact fresh_row ho.out hok.out, hb.out⟩
  | succ m =>
   obtain ⟨ad, rfl, hcell⟩ := row_some hr.out (show m < xs.length by omega);have hx := hcell m (by omega);clear hcell;by_cases h0 : xs[m] = 0
   ·rw [h0] at hx
    have ht' := Sdq.mk ((trim_step (by omega) h0).symm.trans ht.out);clear h0 ht;go_wp2
    go_round
    case rel => exact ⟨m, by omega, by go_num, ht'⟩
    case measure => simp [intOf]
   ·have ht' := Sdq.mk ((trim_stop (by omega) h0).symm.trans ht.out)
    have hb : (xs[m] == 0) = false := by simpa using h0
    have hle : m + 1 ≤ c := by have := hc'.out; omega
    have hC : Kd.C (Kd.int .i64) w (some ad) (xs.take (m + 1)).length (xs.take (m + 1)) := Kd.F_now (Kd.F_take hF.out (by omega));rw [show (xs.take (m + 1)).length = m + 1 by rw [List.length_take]; omega] at hC;have hC := Sdq.mk hC;have hl := Sdq.mk (show (([] : List Int).length + (m + 1)) * 8 ≤ 140737488355328 by simp; omega);clear h0 ht
    go_wp2_with (first
     | ((with_reducible refine gate_builtin (b := .append) (xs := #[.tmp 19, .tmp 22]) rfl ?_); at_builtin; refine Kd.R_append_rows (Kd.int .i64) (w0 := w) w.heap.size rfl (.tmp 19) (.tmp 22) 32 3 (.int .i64 0) 8 rfl Tryd.underlying32 info3 rfl (by decide) (by decide) (.slice none 0 0) ([] : List Int) (xs.take (m + 1)) (some ad) (m + 1) c (fun k => w.heap.size ≤ k) (fun _ => False) rfl rfl (Kd.R_nil _ _ _ _ _) hC.out (fun _ _ h => h) (fun _ h => h.elim) (fun _ h => h) (Below.refl _ _) (Nat.le_refl _) hl.out ?_; intro v1 w1 ho hb hg hat; have ho := Sdq.mk ho; have hb := Sdq.mk hb; clear hg hat))
    go_ret;exact ⟨_, rfl, by rw [← ht'.out]; exact fresh_row ho.out hok.out, hb.out⟩
theorem own_cv {ok : Nat → Prop} {w w1 : World} {e : TypeId} {k : IntKind} {v : Value} {xs : List Int} (h : w1.ownsRow w.heap.size e 1 v xs.length (nums k xs)) (hm : xs.length ≤ 9223372036854775807) (hok : ∀ k, w.heap.size ≤ k → ok k) : Cv (Kd.int k) ok w1 v xs :=
 (Cv.ofR (Kd.R_of_own (enc := Value.int k) (h1 := fun _ => rfl) (e := e) (base := w.heap.size) (ok := fun k => w.heap.size ≤ k) h (fun b hb => own_base h b hb))).mono hok
set_option maxRecDepth 100000 in
theorem r1_Small (ok : Nat → Prop) (n : Int) (w : World) (hok : ∀ k, w.heap.size ≤ k → ok k) (h0 : 0 ≤ n ∧ n < 18446744073709551616) : Calls Tryd.prog 84 #[.int .u64 n] w (CPost (Kd.int .i64) ok w (dig 10 n)) := by
 have hok := Sdq.mk hok;have hl : (dig 10 n).length ≤ 20 := dig_len (B := 10) (by decide) (by omega)
 obtain ⟨D, hD⟩ : ∃ D, D = dig 10 n := ⟨_, rfl⟩
 have hn := Sdq.mk h0;rw [← hD] at hl ⊢;have hD := Sdq.mk hD;clear h0;go_enter Tryd.func84, Tryd.ntmps84;go_wp2
 go_loopg [0, 3] D.length (fun gk s0 s3 wr => ∃ (m : Int) (out : List Int) (v : Value), s0 = .int .u64 m ∧ s3 = v ∧ 0 ≤ m ∧ m < 18446744073709551616 ∧ gk = (dig 10 m).length ∧ Sdq (D = out ++ dig 10 m) ∧ Sdq (wr.ownsRow w.heap.size 3 1 v out.length (nums .i64 out)) ∧ Sdq (Below w.heap.size w wr))
 case atStart => exact ⟨n, [], .slice none 0 0, rfl, rfl, hn.out.1, hn.out.2, by rw [hD.out], ⟨by rw [hD.out]; rfl⟩, ⟨⟨rfl, .inl ⟨rfl, rfl⟩⟩⟩, ⟨Below.refl _ _⟩⟩
 case round =>
  clear hn hD;obtain ⟨m, out, v, rfl, rfl, m0, m1, hg, he, ho, hb⟩ := hrel;by_cases hm : m = 0
  ·subst hm
   have he := he.out;rw [dig_zero, List.append_nil] at he;subst he;clear m0 m1 hg;go_wp2;go_ret;exact ⟨_, rfl, own_cv ho.out (by omega) hok.out, hb.out⟩
  ·have hp : 0 < m := by omega
   have hdm := dig_succ (B := 10) (by decide) hp
   have hol : (out.length + 1) * 8 ≤ 140737488355328 := by
    have := congrArg List.length he.out;rw [List.length_append] at this
    omega
   have he := Sdq.mk (show D = (out ++ [m % 10]) ++ dig 10 (m / 10) by rw [he.out, hdm]; simp);have hg := Sdq.mk (show gk = (dig 10 (m / 10)).length + 1 by rw [hg, hdm]; rfl);have hol := Sdq.mk hol;have q0 := Sdq.mk (show 0 ≤ m / 10 ∧ m / 10 < 18446744073709551616 by omega);clear hdm hm;go_wp2_with (at_builtin; refine print_append_num (w0 := wr) w.heap.size rfl _ _ 32 3 .i64 8 rfl Tryd.underlying32 info3 (by decide) u3 out (m % 10) rfl rfl ho.out (Below.refl _ _) hb.out.size hol.out ?_; intro v5 w5 hown5 hbe5 hgr5 hat5)
   go_roundg (dig 10 (m / 10)).length
   case measure => have := hg.out; omega
   case rel => exact ⟨m / 10, out ++ [m % 10], v5, by go_num, rfl, q0.out.1, q0.out.2, rfl, he, ⟨hown5⟩, ⟨hb.out.trans hbe5⟩⟩
end Go.Proofs.YthpgjgmaamcaoaaDoor.P
end
