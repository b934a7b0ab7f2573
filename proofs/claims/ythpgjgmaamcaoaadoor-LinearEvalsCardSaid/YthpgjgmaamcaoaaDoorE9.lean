/- Walks and words of this session, put together by a program of this session (pack.py). Conditions: as each text says. -/
import Derived.Sort.LoopGhostIn
import Derived.Sort.CutIn
import Derived.Test.YthpgjgmaamcaoaaDoorE2
import Derived.Test.YthpgjgmaamcaoaaDoorE8
set_option linter.unusedVariables false
set_option linter.unusedSimpArgs false
section
namespace Go.Proofs.YthpgjgmaamcaoaaDoor.P.RB
open Go.Proofs.YthpgjgmaamcaoaaDoor.P.R (uEl)
open Go.RowKit Go.Shelf Go.Proofs.YthpgjgmaamcaoaaDoor.P Go.Proofs.YthpgjgmaamcaoaaDoorW.PrintWords Go.Proofs.YthpgjgmaamcaoaaDoorW.PrintLast Go.Proofs.YthpgjgmaamcaoaaDoorW.PrintMore Go.Proofs.YthpgjgmaamcaoaaDoor.Nm
set_option maxRecDepth 100000
set_option linter.unusedVariables false
set_option linter.unusedSimpArgs false
def valR (l : List S118) (v : Int) : S34 := match l.find? (fun b => b.f0 == v) with
 | some b => b.f1
 | none => ⟨false, []⟩
theorem valR_at {l : List S118} {v : Int} {i : Nat} (hi : i < l.length) (h0 : ∀ b ∈ l.take i, b.f0 ≠ v) (h1 : l[i].f0 = v) : valR l v = l[i].f1 := by
 unfold valR
 have e : l = l.take i ++ (l[i] :: l.drop (i + 1)) := by rw [← List.drop_eq_getElem_cons hi]; exact (List.take_append_drop i l).symm
 have h2 : l.find? (fun b => b.f0 == v) = some l[i] := by
  conv => lhs; rw [e]
  rw [List.find?_append, List.find?_eq_none.2 (fun b hb => by simpa using h0 b hb), List.find?_cons_of_pos (by simpa using h1)]
  rfl
 rw [h2]
theorem valR_none {l : List S118} {v : Int} (h0 : ∀ b ∈ l, b.f0 ≠ v) : valR l v = ⟨false, []⟩ := by
 unfold valR;rw [List.find?_eq_none.2 (fun b hb => by simpa using h0 b hb)]
set_option maxHeartbeats 1600000 in
theorem r11_Value (v : Value) (l : List S118) (vr : Int) (w0 : World) (h : Cv k118 (fun _ => True) w0 v l) (hm : l.length ≤ 1000000) :
  Calls Tryd.prog 70 #[v, .int .i64 vr] w0 (KPost k34 (fun _ => True) w0 (valR l vr)) := by
 obtain ⟨A, d, rfl, hc, hF0⟩ := h
 obtain ⟨n, en⟩ : ∃ n, n = l.length := ⟨_, rfl⟩
 have C := Ctx.new (cs := [.bool false, .slice none 0 0]) (t := 34) (Ctx.cons (uB w0) (Below.refl _ _) (Ctx.cons (uCv k118 (fun k => k < w0.heap.size) l (.slice A l.length d)) ((show Cv k118 (fun _ => True) w0 (.slice A l.length d) l from ⟨A, d, rfl, hc, hF0⟩).within (fun k _ h => h)) Ctx.nil));rw [← en] at C ⊢;have hn := Sdq.mk en
 obtain ⟨rr, hrr⟩ : ∃ rr, rr = valR l vr := ⟨_, rfl⟩
 rw [← hrr];have HRR := Sdq.mk hrr
 have hmm : n ≤ 1000000 := by omega
 clear hc hF0 en hm hrr;go_enter Tryd.func70, Tryd.ntmps70
 go_upto_region 1 with fail
 refine absW _ C ?_;clear C;intro w1 C;have C := Sdq.mk C
 go_wp2_with fail
 go_loopg [5] n (fun gk s5 wr => ∃ (i : Nat), gk + i = n ∧ s5 = .int .i64 (i : Int) ∧ Sdq (Ctx [uBlk w0.heap.size [.bool false, .slice none 0 0] 34, uB w0, uCv k118 (fun k => k < w0.heap.size) l (.slice A n d)] wr) ∧ Sdq (∀ b ∈ l.take i, b.f0 ≠ vr))
 case atStart => exact ⟨0, by omega, rfl, C, ⟨fun b hb => by cases hb⟩⟩
 case round =>
  clear C;obtain ⟨i, hgi, rfl, C2, hI⟩ := hrel
  cases gk with
  | zero =>
   obtain rfl : i = n := by omega
   have hkv : Kv k34 (fun k => k < w0.heap.size) wr (.agg #[.bool false, .slice none 0 0]) rr := by
    have h1 := hI.out;rw [List.take_of_length_le (by have := hn.out; omega)] at h1;rw [HRR.out, valR_none h1];exact Kv.mkN (x := ⟨false, []⟩) (Nat.le_refl _) (Kd.F_nil _ _ _)
   have hres := C2.out.1;have E := Sdq.mk (end2 (ok := fun _ => True) (O := (fun k => k < w0.heap.size)) C2.out.1 C2.out.2.1 (Nat.le_refl _) (fun k hk => ⟨trivial, by have : k < w0.heap.size := hk; omega⟩) hkv _ rfl);have r0 := Ctx.blk hres 0 rfl;have r1 := Ctx.blk hres 1 rfl;have f0 := Ctx.frz hres 0;have f1 := Ctx.frz hres 1;clear hkv hI hres C2
   go_wp2_with fail
   have E := E.out;clear r0 r1 f0 f1;generalize World.setCell _ _ _ = wf at E ⊢;obtain ⟨EP, e0, e1⟩ := E;exact bodyPost_ret (by first | (simp [results, Tryd.results70, go_sem, e0, e1]; done) | (simp [results, Tryd.results70, go_sem, e0, e1]; rfl)) rfl EP
  | succ j =>
   have hin : i < l.length := by have := hn.out; omega
   obtain ⟨B', d', e1, -, hF2⟩ := C2.out.2.2.1
   injection e1 with e2 e9 e3
   subst e2;subst e3;clear e9;obtain ⟨ad, e, rfl, x0, x1, x2, hfk⟩ := row_el hF2 hin;have HP := Sdq.mk hgi
   have hin2 : i < n := by omega
   have hev : e.v = l[i].f0 := (fk_el hfk).1;have hst := Sdq.mk (show l.take (i + 1) = l.take i ++ [l[i]] from List.take_succ_eq_append_getElem hin);clear hF2 hgi;by_cases hv : e.v = vr
   ·have hkv : Kv k34 (fun k => k < w0.heap.size) wr (.agg #[.bool e.b, .slice e.A e.n e.c]) rr := by
     rw [HRR.out, valR_at hin hI.out (hev ▸ hv)];exact el_kv hfk
    have hres := C2.out.1;have E := Sdq.mk (end2 (ok := fun _ => True) (O := (fun k => k < w0.heap.size)) C2.out.1 C2.out.2.1 (Nat.le_refl _) (fun k hk => ⟨trivial, by have : k < w0.heap.size := hk; omega⟩) hkv _ rfl);have r0 := Ctx.blk hres 0 rfl;have r1 := Ctx.blk hres 1 rfl;have f0 := Ctx.frz hres 0;have f1 := Ctx.frz hres 1;clear hkv hI hres hfk C2 hst hev hin
    go_wp2_with fail
    have E := E.out;clear r0 r1 f0 f1;generalize World.setCell _ _ _ = wf at E ⊢;obtain ⟨EP, e0, e1⟩ := E;exact bodyPost_ret (by first | (simp [results, Tryd.results70, go_sem, e0, e1]; done) | (simp [results, Tryd.results70, go_sem, e0, e1]; rfl)) rfl EP
   ·have hI2 := Sdq.mk (show ∀ b ∈ l.take (i + 1), b.f0 ≠ vr from fun b hb => by
     rw [hst.out] at hb
     rcases List.mem_append.1 hb with hb | hb
     ·exact hI.out b hb
     ·rw [List.mem_singleton.1 hb, ← hev]; exact hv)
    clear hfk hst hev hin hI
    go_wp2_with fail
    go_roundg j
    case measure => go_light; omega
    case rel => go_light; exact ⟨i + 1, by have := HP.out; omega, by go_num, C2, hI2⟩
end Go.Proofs.YthpgjgmaamcaoaaDoor.P.RB
end
section
namespace Go.Proofs.YthpgjgmaamcaoaaDoor.P.RB
open Go.Proofs.YthpgjgmaamcaoaaDoor.P.R (uEl)
open Go.RowKit Go.Shelf Go.Proofs.YthpgjgmaamcaoaaDoor.P Go.Proofs.YthpgjgmaamcaoaaDoorW.PrintWords Go.Proofs.YthpgjgmaamcaoaaDoorW.PrintLast Go.Proofs.YthpgjgmaamcaoaaDoorW.PrintMore Go.Proofs.YthpgjgmaamcaoaaDoor.Nm
set_option maxRecDepth 100000
set_option linter.unusedVariables false
set_option linter.unusedSimpArgs false
theorem r11_Eval.tab5 : tabOf (opsOf Tryd.f36 5) = ([some 16, some 17, some 18, some 19, some 20, some 21, some 22, some 23, some 24, some 25, some 26, some 27, some 28, some 29, some 30, some 31, some 32, none], [[], [], [1], [], [2, 3], [4], [5], [], [], [8], [], [9, 10], [11], [12], [7, 13], [6, 14, 14], [0, 15, 15], [16, 16, 0, 1, 2, 3, 4, 5, 6, 7, 8, 9, 10, 11, 12, 13, 14, 15, 16]]) := by kernel_rfl
def evP (g : Int → Int) : LnP.Ps → Int
 | [] => 0
 | p :: r => p.2 * g p.1 + evP g r
theorem evP_append (g : Int → Int) : ∀ a b : LnP.Ps, evP g (a ++ b) = evP g a + evP g b
 | [], b => by simp [evP]
 | p :: r, b => by simp only [List.cons_append, evP, evP_append g r b]; omega
theorem evP_take (g : Int → Int) {l : LnP.Ps} {i : Nat} (hi : i < l.length) : evP g (l.take (i + 1)) = evP g (l.take i) + l[i].2 * g l[i].1 := by
 rw [List.take_succ_eq_append_getElem hi, evP_append]
 simp [evP]
theorem evP_abs {g : Int → Int} {K M : Int} (hK : 0 ≤ K) (hM : ∀ v, ((g v).natAbs : Int) ≤ M) : ∀ {l : LnP.Ps}, (∀ p ∈ l, (p.2.natAbs : Int) ≤ K) → ((evP g l).natAbs : Int) ≤ l.length * (K * M)
 | [], _ => by simp [evP]
 | p :: r, h => by
  have h1 := evP_abs hK hM (l := r) (fun q hq => h q (List.mem_cons_of_mem _ hq));have h2 := mul_abs (h p (List.mem_cons_self ..)) (hM p.1);simp only [evP, List.length_cons];rw [Int.natCast_add, Int.add_mul];generalize (r.length : Int) * (K * M) = X at *;generalize K * M = Y at *
  omega
structure CE (W0 W : World) (b : Bool) (A : Option Addr) (m c : Nat) (n : Int) : Prop where
 blk : (uBlk W0.heap.size [.bool b, .slice A m c] 34).p W
 kv : Kv k34 (fun k => k ≠ W0.heap.size) W (.agg #[.bool b, .slice A m c]) (cn n)
 bel : Below W0.heap.size W0 W
section
variable {W0 W W' : World} {b b' : Bool} {A A' : Option Addr} {m c m' c' : Nat} {n n' : Int}
theorem CE.below (h : CE W0 W b A m c n) (hb : Below W.heap.size W W') : CE W0 W' b A m c n := ⟨(uBlk _ _ _).up _ _ h.blk hb, h.kv.below hb, below_step h.bel hb⟩
theorem CE.put (h : CE W0 W b A m c n) (hk : Kv k34 (fun k => k ≠ W0.heap.size) W (.agg #[.bool b', .slice A' m' c']) (cn n')) : CE W0 ((W.setCell ⟨W0.heap.size, 0, none⟩ (.bool b')).setCell ⟨W0.heap.size, 1, none⟩ (.slice A' m' c')) b' A' m' c' n' :=
 ⟨Ctx.put (Ctx.put h.blk 0 _) 1 _, (hk.far (p := ⟨W0.heap.size, 0, none⟩) (fun k hk => hk) _).far (p := ⟨W0.heap.size, 1, none⟩) (fun k hk => hk) _, (h.bel.setCell (p := ⟨W0.heap.size, 0, none⟩) (Nat.le_refl _) _).setCell (p := ⟨W0.heap.size, 1, none⟩) (Nat.le_refl _) _⟩
theorem CE.start (W0 : World) (h : Kv k34 (fun _ => True) W0 (.agg #[.bool b, .slice A m c]) (cn n)) : CE W0 (W0.alloc (.cells #[.bool b, .slice A m c] 34)) b A m c n :=
 ⟨blk_new W0 _, (h.within (fun k _ hk => by omega)).below (bal (Below.refl _ _) _), bal (Below.refl _ _) _⟩
end
structure EIn (x : TR) (l : List S118) : Prop where
 d : R.DIn 40 x
 can : x.f0 = cn (nv x.f0)
 bl : ∀ b ∈ l, Dg 10 b.f1.f1 ∧ b.f1.f1.length ≤ 40
 len : l.length ≤ 1000000
theorem valR_in {l : List S118} (h : ∀ b ∈ l, Dg 10 b.f1.f1 ∧ b.f1.f1.length ≤ 40) (v : Int) : Dg 10 (valR l v).f1 ∧ (valR l v).f1.length ≤ 40 := by
 unfold valR
 split
 ·rename_i b hb
  exact h b (List.mem_of_find?_eq_some hb)
 ·exact ⟨fun x hx => (by cases hx), by decide⟩
theorem ev_dec {x : TR} {l : List S118} (h : EIn x l) (i : Nat) : Dec (cn (nv x.f0 + evP (fun v => nv (valR l v)) ((R.psR x.f1).take i))) := by
 have hK : (0 : Int) ≤ 10 ^ 40 := by decide
 have h0 := R.nv_abs h.d.c.1 h.d.c.2;have h1 := evP_abs (g := (fun v => nv (valR l v))) (K := 10 ^ 40) (M := 10 ^ 40) hK (fun v => Int.le_of_lt (R.nv_abs (valR_in h.bl v).1 (valR_in h.bl v).2)) (l := (R.psR x.f1).take i) (fun p hp => R.psR_abs h.d p (List.mem_of_mem_take hp))
 have h2 : ((R.psR x.f1).take i).length ≤ 39 := by have := h.d.few; rw [List.length_take, R.psR_len]; omega
 refine ⟨cn_dg _, Nat.le_trans (cn_len (k := 90) ?_) (by decide)⟩;have h3 := Int.mul_le_mul_of_nonneg_right (show ((((R.psR x.f1).take i).length : Nat) : Int) ≤ 39 by omega) (show (0 : Int) ≤ 10 ^ 40 * 10 ^ 40 by decide)
 have h4 : (39 : Int) * (10 ^ 40 * 10 ^ 40) + 10 ^ 40 < 10 ^ 90 := by decide
 generalize (10 : Int) ^ 40 * 10 ^ 40 = Y at *;generalize (10 : Int) ^ 40 = X at *;generalize (10 : Int) ^ 90 = Z at *
 omega
set_option maxHeartbeats 3200000 in
theorem r11_Eval (ok : Nat → Prop) (v u : Value) (x : TR) (l : List S118) (w0 : World) (hok : ∀ k, w0.heap.size ≤ k → ok k) (h : Kv kTR (fun _ => True) w0 v x) (hl : Cv k118 (fun _ => True) w0 u l) (hx : EIn x l) :
  Calls Tryd.prog 36 #[v, u] w0 (KPost k34 ok w0 (cn (nv x.f0 + evP (fun v => nv (valR l v)) (R.psR x.f1)))) := by
 obtain ⟨A, c, B, d, rfl, hk, hp⟩ := h.openTR;have C := Ctx.new (cs := [.bool false, .slice none 0 0]) (t := 34) (Ctx.new (cs := [.bool x.f0.f0, .slice A x.f0.f1.length c, .slice B x.f1.length d]) (t := 37) (Ctx.cons (uB w0) (Below.refl _ _) (Ctx.cons (uCv k66 (fun _ => True) x.f1 (.slice B x.f1.length d)) hp (Ctx.cons (uK k34 (fun _ => True) (.agg #[.bool x.f0.f0, .slice A x.f0.f1.length c]) x.f0) hk (Ctx.cons (uCv k118 (fun _ => True) l u) hl Ctx.nil)))));simp only [World.size_alloc] at C;have hx := Sdq.mk hx;have hok := Sdq.mk hok
 obtain ⟨rr, hrr⟩ : ∃ rr, rr = cn (nv x.f0 + evP (fun v => nv (valR l v)) (R.psR x.f1)) := ⟨_, rfl⟩
 rw [← hrr];have HRR := Sdq.mk hrr;clear h hk hp hrr hl;go_enter Tryd.func36, Tryd.ntmps36
 go_upto_region 1 with fail
 refine absW _ C ?_;clear C;intro w1 C
 have hB0 := Sdq.mk (CE.start w1 (n := nv x.f0 + evP (fun v => nv (valR l v)) ((R.psR x.f1).take 0)) (by
  show Kv k34 _ w1 _ (cn (nv x.f0 + 0))
  rw [Int.add_zero, ← hx.out.can]
  exact C.2.2.2.2.1))
 have y0 := Ctx.blk C.2.1 0 rfl;have y1 := Ctx.blk C.2.1 1 rfl;have C := Sdq.mk C
 go_upto_region 2 with fail
 clear y0 y1
 obtain ⟨W5, eW5⟩ : ∃ W5, W5 = w1.alloc (.cells #[.bool x.f0.f0, .slice A x.f0.f1.length c] 34) := ⟨_, rfl⟩
 rw [← eW5] at hB0 ⊢;clear eW5
 obtain ⟨n, en⟩ : ∃ n, n = x.f1.length := ⟨_, rfl⟩
 have hn := Sdq.mk en
 have hn39 : n ≤ 39 := by rw [en]; exact hx.out.d.few
 clear en
 go_wp2_with fail
 go_loopg [6] n (fun gk s6 wr => ∃ (i : Nat) (vb : Bool) (vA : Option Addr) (vm vc : Nat), gk + i = n ∧ s6 = .int .i64 (i : Int) ∧ Sdq (CE w1 wr vb vA vm vc (nv x.f0 + evP (fun v => nv (valR l v)) ((R.psR x.f1).take i))))
 case atStart => exact ⟨0, _, _, _, _, by omega, rfl, hB0⟩
 case round =>
  clear hB0;obtain ⟨i, vb, vA, vm, vc, hgi, rfl, hN⟩ := hrel;have y2 := Ctx.blk ((uBlk _ _ _).up _ _ C.out.2.1 hN.out.bel) 2 rfl;rw [← hn.out] at y2
  cases gk with
  | zero =>
   obtain rfl : i = n := by omega
   have z0 := Ctx.blk hN.out.blk 0 rfl;have z1 := Ctx.blk hN.out.blk 1 rfl;have hrl := blk_lt (show w1.heap[w0.heap.size + 1]? = _ from C.out.1);have hNm := r2_Norm (fun k => ok k ∧ k ≠ w0.heap.size + 1) _ _ wr (fun k hk => by have := hN.out.bel.size; exact ⟨hok.out k (by omega), by omega⟩) (hN.out.kv.mono (fun _ _ => trivial)) (cn_dg _) (Nat.le_trans (ev_dec hx.out i).len (by decide));rw [nv_cn, List.take_of_length_le (by have := hn.out; rw [R.psR_len]; omega), ← HRR.out] at hNm;have hres := (uBlk _ _ _).up _ _ C.out.1 hN.out.bel;have hbe := below_step C.out.2.2.1 hN.out.bel;clear hN;go_wp2_with (go_at_call 57; refine hNm.mono ?_; rintro e9 w9 ⟨v9, rfl, hv9, hb9⟩; obtain ⟨nA, nc, rfl, -, -⟩ := hv9.openN; have hres9 := (uBlk _ _ _).up _ _ hres hb9; have E := Sdq.mk (end2 (ok := ok) hres9 (below_step hbe hb9) (Nat.le_succ _) (fun k hk => hk) hv9 _ rfl); have r0 := Ctx.blk hres9 0 rfl; have r1 := Ctx.blk hres9 1 rfl; have f0 := Ctx.frz hres9 0; have f1 := Ctx.frz hres9 1);have E := E.out;clear z0 z1 r0 r1 f0 f1;generalize World.setCell _ _ _ = wf at E ⊢;obtain ⟨EP, e0, e1⟩ := E;exact bodyPost_ret (by first | (simp [results, Tryd.results36, go_sem, e0, e1]; done) | (simp [results, Tryd.results36, go_sem, e0, e1]; rfl)) rfl EP
  | succ j =>
   have hin : i < x.f1.length := by have := hn.out; omega
   obtain ⟨B', d', e1, -, hF⟩ := C.out.2.2.2.1.below hN.out.bel
   injection e1 with e2 e9 e3
   subst e2;subst e3;clear e9;obtain ⟨ad, e, rfl, x0, x1, x2, hfk⟩ := R.row_el hF hin;have HP := Sdq.mk (And.intro hgi hin)
   have hin2 : i < n := by omega
   have hst := Sdq.mk (show evP (fun v => nv (valR l v)) ((R.psR x.f1).take (i + 1)) = evP (fun v => nv (valR l v)) ((R.psR x.f1).take i) + nv x.f1[i].f1 * nv (valR l x.f1[i].f0) by
    rw [evP_take _ (by rw [R.psR_len]; exact hin)];unfold R.psR
    simp only [List.getElem_map])
   have hev : e.v = x.f1[i].f0 := (R.fk_el hfk).1;have hqd0 := hx.out.d.p _ (List.getElem_mem hin)
   obtain ⟨q, eq⟩ : ∃ q, q = x.f1[i] := ⟨_, rfl⟩
   rw [← eq] at hfk hev hst hqd0;rw [← hev] at hst;have hqd := Sdq.mk (show Dec q.f1 from ⟨hqd0.1, Nat.le_trans hqd0.2 (by decide)⟩);have hvd := Sdq.mk (show Dec (valR l e.v) from ⟨(valR_in hx.out.bl e.v).1, Nat.le_trans (valR_in hx.out.bl e.v).2 (by decide)⟩);have hlx := Sdq.mk hx.out.len
   have hmd : Dec (cn (nv q.f1 * nv (valR l e.v))) := ⟨cn_dg _, Nat.le_trans (R.mul_lenR hqd0 (valR_in hx.out.bl e.v)) (by decide)⟩
   have C6 : Ctx [⟨fun W => CE w1 W vb vA vm vc (nv x.f0 + evP (fun v => nv (valR l v)) ((R.psR x.f1).take i)), fun _ _ h hb => h.below hb⟩, uBlk w0.heap.size [.bool x.f0.f0, .slice A x.f0.f1.length c, .slice (some ad) n d] 37, uEl ad i e, uK k34 (fun _ => True) (.agg #[.bool e.b, .slice e.A e.n e.c]) q.f1, uCv k118 (fun _ => True) l u] wr := ⟨hN.out, by rw [hn.out]; exact (uBlk _ _ _).up _ _ C.out.2.1 hN.out.bel, ⟨x0, x1, x2⟩, R.el_kv hfk, C.out.2.2.2.2.2.1.below hN.out.bel, trivial⟩
   have hA := Sdq.mk (fun (W : World) (hC : Ctx [⟨fun W => CE w1 W vb vA vm vc (nv x.f0 + evP (fun v => nv (valR l v)) ((R.psR x.f1).take i)), fun _ _ h hb => h.below hb⟩, uBlk w0.heap.size [.bool x.f0.f0, .slice A x.f0.f1.length c, .slice (some ad) n d] 37, uEl ad i e, uK k34 (fun _ => True) (.agg #[.bool e.b, .slice e.A e.n e.c]) q.f1, uCv k118 (fun _ => True) l u] W) (p : Value) (hp : Kv k34 (fun _ => True) W p (cn (nv q.f1 * nv (valR l e.v)))) => by
    have h1 := r2_Add (fun k => k ≠ w1.heap.size) _ p (cn (nv x.f0 + evP (fun v => nv (valR l v)) ((R.psR x.f1).take i))) _ W (fun k hk => by have := blk_lt (show W.heap[w1.heap.size]? = _ from hC.1.blk); omega) (hC.1.kv.mono (fun _ _ => trivial)) hp (ev_dec hx.out i) hmd;rw [nv_cn, nv_cn, Int.add_assoc, ← hst.out] at h1
    exact h1)
   clear hF hfk hN eq hgi hin hev hqd0 hmd
   go_upto_region 5 with fail
   clear x0 x1 x2 y2;refine absW _ C6 ?_;clear C6;intro w6 C;refine flowS (m := 17) (n := 18) r11_Eval.tab5 rfl (Ctx _) (Rl [uEq (.agg #[.bool vb, .slice vA vm vc]), uEq (.pointer (some ⟨w0.heap.size, 2, none⟩)), uEq (.slice (some ad) n d), uEq (.int .i64 (i : Int)), uEq (.pointer (some (Addr.add ad (i * 3)))), uEq (.pointer (some ⟨(Addr.add ad (i * 3)).block, (Addr.add ad (i * 3)).off + 1, none⟩)), uEq (.agg #[.bool e.b, .slice e.A e.n e.c]), uEq (u), uEq (.pointer (some ⟨w0.heap.size, 2, none⟩)), uEq (.slice (some ad) n d), uEq (.int .i64 (i : Int)), uEq (.pointer (some (Addr.add ad (i * 3)))), uEq (.pointer (some (Addr.add ad (i * 3)))), uEq (.int .i64 e.v), uKd k34 (fun _ => True) (valR l e.v), uKd k34 (fun _ => True) (cn (nv q.f1 * nv (valR l e.v))), uKd k34 (fun k => k ≠ w1.heap.size) (cn (nv x.f0 + evP (fun v => nv (valR l v)) ((R.psR x.f1).take (i + 1))))]) rfl (by kernel_rfl) (by kernel_rfl) (fun _ _ h hb => h.below hb) (Rl.up _) C ⟨⟨⟨⟨⟨⟨⟨⟨⟨⟨⟨⟨⟨⟨⟨⟨⟨trivial, ?_⟩, ?_⟩, ?_⟩, ?_⟩, ?_⟩, ?_⟩, ?_⟩, ?_⟩, ?_⟩, ?_⟩, ?_⟩, ?_⟩, ?_⟩, ?_⟩, ?_⟩, ?_⟩, ?_⟩ ?_
   ·refine At.of _ rfl (fun e_ a w hC hd hb K hK => ?_)
    have b5 : a.tmps[5]? = some (.pointer (some ⟨w1.heap.size, 0, none⟩)) := hb 5 (by decide);have cc0 : w.cell? ⟨w1.heap.size, 0, none⟩ = some (.bool vb) := Ctx.blk hC.1.blk 0 rfl;have cc1 : w.cell? ⟨w1.heap.size, 1, none⟩ = some (.slice vA vm vc) := Ctx.blk hC.1.blk 1 rfl;refine value_ (w1 := w) (v := .agg #[.bool vb, .slice vA vm vc]) (by rfl) rfl ?_ (hK.out _ _ (Below.refl _ _) rfl);clear hC hd hb hK hA hlx hqd hvd
    first | (go_simp; done) | (go_simp; rfl)
   ·refine At.of _ rfl (fun e_ a w hC hd hb K hK => ?_)
    have b2 : a.tmps[2]? = some (.pointer (some ⟨w0.heap.size, 0, none⟩)) := hb 2 (by decide);refine value_ (w1 := w) (v := .pointer (some ⟨w0.heap.size, 2, none⟩)) (by rfl) rfl ?_ (hK.out _ _ (Below.refl _ _) rfl);clear hC hd hb hK hA hlx hqd hvd
    first | (go_simp; done) | (go_simp; rfl)
   ·refine At.of _ rfl (fun e_ a w hC hd hb K hK => ?_)
    have q17 := (hd 1 (by decide)).2 17 rfl;rw [show e_ 1 = _ from (hd 1 (by decide)).1] at q17;have cc2 : w.cell? ⟨w0.heap.size, 2, none⟩ = some (.slice (some ad) n d) := Ctx.blk hC.2.1 2 rfl;refine value_ (w1 := w) (v := .slice (some ad) n d) (by rfl) rfl ?_ (hK.out _ _ (Below.refl _ _) rfl);clear hC hd hb hK hA hlx hqd hvd
    first | (go_simp; done) | (go_simp; rfl)
   ·refine At.of _ rfl (fun e_ a w hC hd hb K hK => ?_)
    have b6 : a.tmps[6]? = some (.int .i64 (i : Int)) := hb 6 (by decide);refine value_ (w1 := w) (v := .int .i64 (i : Int)) (by rfl) rfl ?_ (hK.out _ _ (Below.refl _ _) rfl);clear hC hd hb hK hA hlx hqd hvd
    first | (go_simp; done) | (go_simp; rfl)
   ·refine At.of _ rfl (fun e_ a w hC hd hb K hK => ?_)
    have q18 := (hd 2 (by decide)).2 18 rfl;rw [show e_ 2 = _ from (hd 2 (by decide)).1] at q18;have q19 := (hd 3 (by decide)).2 19 rfl;rw [show e_ 3 = _ from (hd 3 (by decide)).1] at q19;refine value_ (w1 := w) (v := .pointer (some (Addr.add ad (i * 3)))) (by rfl) rfl ?_ (hK.out _ _ (Below.refl _ _) rfl);clear hC hd hb hK hA hlx hqd hvd
    first | (go_simp; done) | (go_simp; rfl)
   ·refine At.of _ rfl (fun e_ a w hC hd hb K hK => ?_)
    have q20 := (hd 4 (by decide)).2 20 rfl;rw [show e_ 4 = _ from (hd 4 (by decide)).1] at q20;refine value_ (w1 := w) (v := .pointer (some ⟨(Addr.add ad (i * 3)).block, (Addr.add ad (i * 3)).off + 1, none⟩)) (by rfl) rfl ?_ (hK.out _ _ (Below.refl _ _) rfl);clear hC hd hb hK hA hlx hqd hvd
    first | (go_simp; done) | (go_simp; rfl)
   ·refine At.of _ rfl (fun e_ a w hC hd hb K hK => ?_)
    have q21 := (hd 5 (by decide)).2 21 rfl;rw [show e_ 5 = _ from (hd 5 (by decide)).1] at q21;obtain ⟨x0, x1, x2⟩ := hC.2.2.1;refine value_ (w1 := w) (v := .agg #[.bool e.b, .slice e.A e.n e.c]) (by rfl) rfl ?_ (hK.out _ _ (Below.refl _ _) rfl);clear hC hd hb hK hA hlx hqd hvd
    first | (go_simp; done) | (go_simp; rfl)
   ·refine At.of _ rfl (fun e_ a w hC hd hb K hK => ?_)
    have b1 : a.tmps[1]? = some (u) := hb 1 (by decide);refine value_ (w1 := w) (v := u) (by rfl) rfl ?_ (hK.out _ _ (Below.refl _ _) rfl);clear hC hd hb hK hA hlx hqd hvd
    first | (go_simp; done) | (go_simp; rfl)
   ·refine At.of _ rfl (fun e_ a w hC hd hb K hK => ?_)
    have b2 : a.tmps[2]? = some (.pointer (some ⟨w0.heap.size, 0, none⟩)) := hb 2 (by decide);refine value_ (w1 := w) (v := .pointer (some ⟨w0.heap.size, 2, none⟩)) (by rfl) rfl ?_ (hK.out _ _ (Below.refl _ _) rfl);clear hC hd hb hK hA hlx hqd hvd
    first | (go_simp; done) | (go_simp; rfl)
   ·refine At.of _ rfl (fun e_ a w hC hd hb K hK => ?_)
    have q24 := (hd 8 (by decide)).2 24 rfl;rw [show e_ 8 = _ from (hd 8 (by decide)).1] at q24;have cc2 : w.cell? ⟨w0.heap.size, 2, none⟩ = some (.slice (some ad) n d) := Ctx.blk hC.2.1 2 rfl;refine value_ (w1 := w) (v := .slice (some ad) n d) (by rfl) rfl ?_ (hK.out _ _ (Below.refl _ _) rfl);clear hC hd hb hK hA hlx hqd hvd
    first | (go_simp; done) | (go_simp; rfl)
   ·refine At.of _ rfl (fun e_ a w hC hd hb K hK => ?_)
    have b6 : a.tmps[6]? = some (.int .i64 (i : Int)) := hb 6 (by decide);refine value_ (w1 := w) (v := .int .i64 (i : Int)) (by rfl) rfl ?_ (hK.out _ _ (Below.refl _ _) rfl);clear hC hd hb hK hA hlx hqd hvd
    first | (go_simp; done) | (go_simp; rfl)
   ·refine At.of _ rfl (fun e_ a w hC hd hb K hK => ?_)
    have q25 := (hd 9 (by decide)).2 25 rfl;rw [show e_ 9 = _ from (hd 9 (by decide)).1] at q25;have q26 := (hd 10 (by decide)).2 26 rfl;rw [show e_ 10 = _ from (hd 10 (by decide)).1] at q26;refine value_ (w1 := w) (v := .pointer (some (Addr.add ad (i * 3)))) (by rfl) rfl ?_ (hK.out _ _ (Below.refl _ _) rfl);clear hC hd hb hK hA hlx hqd hvd
    first | (go_simp; done) | (go_simp; rfl)
   ·refine At.of _ rfl (fun e_ a w hC hd hb K hK => ?_)
    have q27 := (hd 11 (by decide)).2 27 rfl;rw [show e_ 11 = _ from (hd 11 (by decide)).1] at q27;refine value_ (w1 := w) (v := .pointer (some (Addr.add ad (i * 3)))) (by rfl) rfl ?_ (hK.out _ _ (Below.refl _ _) rfl);clear hC hd hb hK hA hlx hqd hvd
    first | (go_simp; done) | (go_simp; rfl)
   ·refine At.of _ rfl (fun e_ a w hC hd hb K hK => ?_)
    have q28 := (hd 12 (by decide)).2 28 rfl;rw [show e_ 12 = _ from (hd 12 (by decide)).1] at q28;obtain ⟨x0, x1, x2⟩ := hC.2.2.1;refine value_ (w1 := w) (v := .int .i64 e.v) (by rfl) rfl ?_ (hK.out _ _ (Below.refl _ _) rfl);clear hC hd hb hK hA hlx hqd hvd
    first | (go_simp; done) | (go_simp; rfl)
   ·refine At.of _ rfl (fun e_ a w hC hd hb K hK => ?_)
    have q23 := (hd 7 (by decide)).2 23 rfl;rw [show e_ 7 = _ from (hd 7 (by decide)).1] at q23;have q29 := (hd 13 (by decide)).2 29 rfl;rw [show e_ 13 = _ from (hd 13 (by decide)).1] at q29;refine goes_ Tryd.func70 (by kernel_rfl) rfl #[u, .int .i64 e.v] (by rfl) rfl rfl (by first | (simp [Act.eval, q23, q29]; done) | (simp [Act.eval, q23, q29]; rfl)) ?_;refine (r11_Value _ l e.v w hC.2.2.2.2.1 hlx.out).mono ?_;rintro en w' ⟨v, rfl, hv, hb'⟩;exact ⟨v, rfl, hK.out v w' hb' hv⟩
   ·refine At.of _ rfl (fun e_ a w hC hd hb K hK => ?_)
    have q22 := (hd 6 (by decide)).2 22 rfl;rw [show e_ 6 = _ from (hd 6 (by decide)).1] at q22;have q30 := (hd 14 (by decide)).2 30 rfl;refine goes_ Tryd.func54 (by kernel_rfl) rfl #[.agg #[.bool e.b, .slice e.A e.n e.c], e_ 14] (by rfl) rfl rfl (by first | (simp [Act.eval, q22, q30]; done) | (simp [Act.eval, q22, q30]; rfl)) ?_;refine (r2_Mul (fun _ => True) _ _ q.f1 (valR l e.v) w (fun _ _ => trivial) hC.2.2.2.1 (hd 14 (by decide)).1 hqd.out hvd.out).mono ?_;rintro en w' ⟨v, rfl, hv, hb'⟩;exact ⟨v, rfl, hK.out v w' hb' hv⟩
   ·refine At.of _ rfl (fun e_ a w hC hd hb K hK => ?_)
    have q16 := (hd 0 (by decide)).2 16 rfl;rw [show e_ 0 = _ from (hd 0 (by decide)).1] at q16;have q31 := (hd 15 (by decide)).2 31 rfl;refine goes_ Tryd.func52 (by kernel_rfl) rfl #[.agg #[.bool vb, .slice vA vm vc], e_ 15] (by rfl) rfl rfl (by first | (simp [Act.eval, q16, q31]; done) | (simp [Act.eval, q16, q31]; rfl)) ?_;refine (hA.out w hC _ (hd 15 (by decide)).1).mono ?_;rintro en w' ⟨v, rfl, hv, hb'⟩;exact ⟨v, rfl, hK.out v w' hb' hv⟩
   ·intro e_ w7 hC hr a ha
    obtain ⟨yA, yc, he7, -, -⟩ := Kv.openN hr.2;have hv7 : Kv k34 (fun k => k ≠ w1.heap.size) w7 (e_ 16) (cn (nv x.f0 + evP (fun v => nv (valR l v)) ((R.psR x.f1).take (i + 1)))) := hr.2;rw [he7] at hv7;simp only [fill, Act.put, he7, Nat.reduceAdd, Nat.reduceLT, decide_true, decide_false, if_true, Bool.false_eq_true, if_false, List.setIfInBounds_toArray, List.set_cons_zero, List.set_cons_succ] at ha;subst ha;have z0 := Ctx.blk hC.1.blk 0 rfl;have z1 := Ctx.blk hC.1.blk 1 rfl;have f0 := Ctx.frz hC.1.blk 0;have f1 := Ctx.frz hC.1.blk 1;have HN := Sdq.mk (hC.1.put hv7);clear hr he7 hC hv7 hA C;simp only [List.drop_succ_cons, List.drop_zero]
    go_wp2_with fail
    clear z0 z1 f0 f1
    go_roundg j
    case measure => go_light; omega
    case rel => go_light; exact ⟨i + 1, _, _, _, _, by have := HP.out.1; omega, by go_num, HN⟩
end Go.Proofs.YthpgjgmaamcaoaaDoor.P.RB
end
section
namespace Go.Proofs.YthpgjgmaamcaoaaDoor.P
open Go.RowKit Go.Proofs.YthpgjgmaamcaoaaDoorW.PrintWords
section
variable {F : Fence} {n : Nat} {P : Program} {ops : Array Oper} {Q : Exit → Act → World → Prop} {a0 : Act} {C : World → Prop} {R : Nat → Value → World → Prop}
theorem wpOpIn_step {i : Nat} {o : Oper} {K : Act → World → Prop} {a : Act} {w : World} (ho : ops[i]? = some o) (h : if Region.wanted o (yielded ops a.tmps) = true then Oper.wpIn F n P o a w K Q else False) : wpOpIn F n P ops Q i K a w := by
 unfold wpOpIn;rw [ho]
 dsimp only
 split
 ·rename_i hwt
  rw [if_pos hwt] at h;exact h
 ·rename_i hwt
  rw [if_neg hwt] at h;exact h.elim
def StepIn (F : Fence) (n : Nat) (P : Program) (ops : Array Oper) (Q : Exit → Act → World → Prop) (a0 : Act) (C : World → Prop) (R : Nat → Value → World → Prop) (i : Nat) : Prop :=
 ∀ o, ops[i]? = some o → ∀ (e : Nat → Value) (a : Act) (w : World), C w → (∀ x ∈ o.after, Region.binds .any x = true → R x.on (e x.on) w ∧ ∀ t, (ops[x.on]?).bind (·.dst) = some t → a.tmps[t]? = some (e x.on)) →
  (∀ t, some t ∉ dsts ops → a.tmps[t]? = a0.tmps[t]?) → ∀ K : Act → World → Prop, (∀ v w', Below w.heap.size w w' → R i v w' → K (a.put o.dst v) w') →
  if Region.wanted o (yielded ops a.tmps) = true then Oper.wpIn F n P o a w K Q else False
theorem fi_stepIn (hA : apart (dsts ops) = true) (hT : ∀ t, some t ∈ dsts ops → t < a0.tmps.size) (hC : ∀ w w', C w → Below w.heap.size w w' → C w') (hR : ∀ j v w w', R j v w → Below w.heap.size w w' → R j v w')
  {l : Array Bool} {a : Act} {w : World} {i : Nat} (hI : FI ops a0 C R l a w) (hi : i ∈ Region.ready .any ops l) (hS : StepIn F n P ops Q a0 C R i) {K : Act → World → Prop} (hK : ∀ a' w', FI ops a0 C R (l.setIfInBounds i true) a' w' → K a' w') : wpOpIn F n P ops Q i K a w := by
 obtain ⟨hs, hc, hCw, e, rfl, hr⟩ := hI;obtain ⟨o, ho, hli, hisz, hw⟩ := ready_mem hi hs;refine wpOpIn_step ho ?_;refine hS o ho e _ w hCw (fun x hx hb => ⟨hr _ (hw x hx hb), fun t ht => ?_⟩) (fun t ht => fill_other _ 0 a0 ht) K (fun v w' hb hv => hK _ _ ?_)
 ·cases hox : ops[x.on]? with
  | none => rw [hox] at ht; simp at ht
  | some y =>
   rw [hox] at ht;have hd := dst_at hox;rw [show y.dst = some t from ht] at hd;have := fill_at (e := e) (l := lf l) (dsts ops) 0 x.on a0 hA hd (by rw [Nat.zero_add]; exact hw x hx hb) (hT t (List.mem_of_getElem? hd));rw [Nat.zero_add] at this;exact this
 ·refine ⟨by simp [hs], ?_, hC _ _ hCw hb, fun j => if j = i then v else e j, ?_, fun j hj => ?_⟩
  ·intro k hk x hx
   rw [lf_set hisz] at hk ⊢
   dsimp only at hk ⊢
   by_cases hxi : x = i
   ·rw [if_pos hxi]
   ·rw [if_neg hxi]
    by_cases hki : k = i
    ·subst hki
     obtain ⟨o', ho', y, hy, hyb, rfl⟩ := waits_mem hx;obtain rfl := Option.some.inj (ho.symm.trans ho');exact hw y hy hyb
    ·rw [if_neg hki] at hk
     exact hc k hk x hx
  ·rw [lf_set hisz]
   have := fill_set (e := e) (l := lf l) (v := v) (dsts ops) 0 i a0 o.dst hA (dst_at ho) (by rw [Nat.zero_add]; exact hli)
   simpa using this
  ·rw [lf_set hisz] at hj
   dsimp only at hj ⊢
   by_cases hji : j = i
   ·subst hji; simpa using hv
   ·rw [if_neg hji] at hj ⊢
    exact hR _ _ _ _ (hr j hj) hb
theorem flow_butIn {m : Nat} (hm : ops.size = m + 1) (hM : (List.range m).all (marks ops m (waits ops m)).contains = true) (hE : early ops = true) (hA : apart (dsts ops) = true) (hT : ∀ t, some t ∈ dsts ops → t < a0.tmps.size) (hC : ∀ w w', C w → Below w.heap.size w w' → C w') (hR : ∀ j v w w', R j v w → Below w.heap.size w w' → R j v w')
  (hS : ∀ i, i < m → StepIn F n P ops Q a0 C R i) (hQ : ∀ o, ops[m]? = some o → ∀ e w, C w → (∀ j, j < m → R j (e j) w) → ∀ a, a = fill (dsts ops) 0 e (fun j => decide (j < m)) a0 → ∀ K : Act → World → Prop, (∀ a' w', Q .normal a' w' → K a' w') → if Region.wanted o (yielded ops a.tmps) = true then Oper.wpIn F n P o a w K Q else False) :
  ∀ fuel l a w, FI ops a0 C R l a w → lf l m = false → cnt (lf l) ops.size ≤ fuel → wpAnyIn F n P .any ops Q fuel l a w
 | 0, l, a, w, hI, hl, hn => by
  have := cnt_set hl ops.size (by omega)
  omega
 | fuel + 1, l, a, w, hI, hl, hn => by
  refine ⟨fun hr => ?_, fun i hi => ?_⟩
  ·have := ready_nil hr hE hI.1 m (by omega)
   rw [hl] at this;cases this
  ·obtain ⟨o, ho, hli, hisz, hw⟩ := ready_mem hi hI.1
   have hnx := cnt_next hi hI.1;have hilt := (Array.getElem?_eq_some_iff.1 ho).1;by_cases him : i = m
   ·subst him
    obtain ⟨hs, hc, hCw, e, rfl, hr⟩ := hI
    have hall : ∀ j, j < i → lf l j = true := fun j hj => by
     have h1 := List.all_eq_true.1 hM j (List.mem_range.2 hj);refine marks_listed hc i _ (fun x hx => ?_) j (by simpa using h1);obtain ⟨o', ho', y, hy, hyb, rfl⟩ := waits_mem hx;obtain rfl := Option.some.inj (ho.symm.trans ho');exact hw y hy hyb
    have hnil : Region.ready .any ops (l.setIfInBounds i true) = [] := by
     refine ready_zero (by simp [hs]) ?_
     have hz : ∀ n, (∀ j, j < n → lf (l.setIfInBounds i true) j = true) → cnt (lf (l.setIfInBounds i true)) n = 0 := fun n => by
      induction n with
      | zero => intro _; rfl
      | succ n ih => intro h; simp only [cnt]; rw [ih (fun j hj => h j (by omega)), if_pos (h n (by omega))]
     refine hz _ (fun j hj => ?_);rw [lf_set hisz]
     dsimp only
     by_cases hji : j = i
     ·rw [if_pos hji]
     ·rw [if_neg hji]; exact hall j (by omega)
    refine wpOpIn_step ho ?_;refine hQ o ho e w hCw (fun j hj => hr j (hall j hj)) _ (fill_congr _ 0 a0 (fun j _ hj => ?_)) _ (fun a' w' hq => ?_)
    ·have hj2 : j < ops.size := by simpa [dsts] using hj
     refine ⟨?_, fun _ => rfl⟩;by_cases hji : j < i
     ·rw [hall j hji]; simp [hji]
     ·obtain rfl : j = i := by omega
      rw [hl]; simp
    ·cases fuel with
     | zero => exact ⟨hnil, hq⟩
     | succ fuel => exact ⟨fun _ => hq, by rw [hnil]; intro _ h; cases h⟩
   ·refine fi_stepIn hA hT hC hR hI hi (hS i (by omega)) (fun a' w' hI' => flow_butIn hm hM hE hA hT hC hR hS hQ fuel _ a' w' hI' ?_ (by omega))
    rw [lf_set hisz]
    dsimp only
    rw [if_neg (Ne.symm him)];exact hl
def AtR (F : Fence) (n : Nat) (P : Program) (ops : Array Oper) (Q : Exit → Act → World → Prop) (D : List (Option Tmp)) (W : List (List Nat)) (a0 : Act) (C : World → Prop) (R : Nat → Value → World → Prop) (i : Nat) : Prop :=
 ∀ (e : Nat → Value) (a : Act) (w : World), C w → (∀ j, j ∈ W.getD i [] → R j (e j) w ∧ ∀ t, D[j]? = some (some t) → a.tmps[t]? = some (e j)) → (∀ t, some t ∉ D → a.tmps[t]? = a0.tmps[t]?) →
  ∀ K : Act → World → Prop, Sdq (∀ v w', Below w.heap.size w w' → R i v w' → K (a.put (D.getD i none) v) w') →
  match ops[i]? with
  | some o => if Region.wanted o (yielded ops a.tmps) = true then Oper.wpIn F n P o a w K Q else False
  | none => True
theorem AtR.of {D : List (Option Tmp)} {W : List (List Nat)} {i : Nat} (o : Oper) (ho : ops[i]? = some o) (hg : o.guard = none) (h : ∀ (e : Nat → Value) (a : Act) (w : World), C w → (∀ j, j ∈ W.getD i [] → R j (e j) w ∧ ∀ t, D[j]? = some (some t) → a.tmps[t]? = some (e j)) → (∀ t, some t ∉ D → a.tmps[t]? = a0.tmps[t]?) →
  ∀ K : Act → World → Prop, Sdq (∀ v w', Below w.heap.size w w' → R i v w' → K (a.put (D.getD i none) v) w') → Oper.wpIn F n P o a w K Q) : AtR F n P ops Q D W a0 C R i := by
 intro e a w h1 h2 h3 K h4;rw [ho]
 have hw : Region.wanted o (yielded ops a.tmps) = true := by unfold Region.wanted; rw [hg]
 dsimp only
 rw [if_pos hw];exact h e a w h1 h2 h3 K h4
theorem stepin_at {D : List (Option Tmp)} {W : List (List Nat)} (h : tabOf ops = (D, W)) {i : Nat} (hs : AtR F n P ops Q D W a0 C R i) : StepIn F n P ops Q a0 C R i := by
 intro o ho e a w hC hd hb K hK;have hD : dsts ops = D := congrArg Prod.fst h;have hi := (Array.getElem?_eq_some_iff.1 ho).1;have := hs e a w hC (fun j hj => ?_) (fun t ht => hb t (by rw [hD]; exact ht)) K ⟨fun v w' h1 h2 => by rw [dst_tab h ho]; exact hK v w' h1 h2⟩
 ·rw [ho] at this
  exact this
 ·rw [waits_tab h i hi] at hj
  obtain ⟨o', ho', y, hy, hyb, rfl⟩ := waits_mem hj;obtain rfl := Option.some.inj (ho.symm.trans ho');obtain ⟨h1, h2⟩ := hd y hy hyb;refine ⟨h1, fun t ht => h2 t ?_⟩
  cases hy2 : ops[y.on]? with
  | none =>
   rw [← hD] at ht;unfold dsts at ht;rw [List.getElem?_map, Array.getElem?_toList, hy2] at ht
   simp at ht
  | some oy =>
   have := dst_at hy2;rw [hD, ht] at this
   simpa using (Option.some.inj this).symm
theorem flowR {id m : Nat} {w0 : World} {D : List (Option Tmp)} {W : List (List Nat)} (h : tabOf ops = (D, W)) (hn : ops.size = m + 1) (C : World → Prop) (R : Nat → Value → World → Prop) (hm : P.follows .mixedOrders = true)
  (hc : (earlyW W && apart D && D.all (fun d => (d.map fun t => decide (t < a0.tmps.size)).getD true) && (List.range m).all (marksW W m (W.getD m [])).contains) = true)
  (hC : ∀ w w', C w → Below w.heap.size w w' → C w') (hR : ∀ j v w w', R j v w → Below w.heap.size w w' → R j v w') (h0 : C w0)
  (hS : Steps (AtR F n P ops Q D W a0 C R) m) (o : Oper) (ho : ops[m]? = some o) (hg : o.guard = none) (hQ : ∀ e w, C w → Steps (fun j => R j (e j) w) m → ∀ a, a = fill D 0 e (fun j => decide (j < m)) a0 → ∀ K : Act → World → Prop, Sdq (∀ a' w', Q .normal a' w' → K a' w') → Oper.wpIn F n P o a w K Q) : (Code.region id ops true).wpIn F n P Q a0 w0 := by
 simp only [Bool.and_eq_true] at hc;have hD : dsts ops = D := congrArg Prod.fst h;refine wpIn_region_any hm (flow_butIn hn (by rw [marks_tab h m _ (by omega), ← waits_tab h m (by omega)]; exact hc.2) (early_tab h hc.1.1.1) (by rw [hD]; exact hc.1.1.2) (by rw [hD]; exact fun t ht => by have := List.all_eq_true.1 hc.1.2 _ ht; simpa using this) hC hR (fun i hi => stepin_at h (hS.all i hi)) (fun o' ho' e w hCw hr a ha K hK => ?_) _ _ _ _ (fi_start (hC _ _ h0 (below_drew (Below.refl _ _)))) (by unfold lf; rw [Array.getD_eq_getD_getElem?, Array.getElem?_replicate]; split <;> rfl) (cnt_le _));obtain rfl := Option.some.inj (ho.symm.trans ho')
 have hw : Region.wanted o (yielded ops a.tmps) = true := by unfold Region.wanted; rw [hg]
 rw [if_pos hw];rw [hD] at ha;refine hQ e w hCw ?_ a ha K ⟨hK⟩
 have hall : ∀ n, n ≤ m → Steps (fun j => R j (e j) w) n := fun n => by
  induction n with
  | zero => intro _; trivial
  | succ n ih => intro hn; exact ⟨ih (by omega), hr n (by omega)⟩
 exact hall _ (Nat.le_refl _)
end
end Go.Proofs.YthpgjgmaamcaoaaDoor.P
end
section
namespace Go.Proofs.YthpgjgmaamcaoaaDoor.P.LB
open Go.RowKit Go.Shelf Go.Proofs.YthpgjgmaamcaoaaDoor.P Go.Proofs.YthpgjgmaamcaoaaDoorW.PrintWords Go.Proofs.YthpgjgmaamcaoaaDoorW.PrintLast Go.Proofs.YthpgjgmaamcaoaaDoorW.PrintMore Go.Proofs.YthpgjgmaamcaoaaDoor.Nm
set_option maxRecDepth 100000
set_option linter.unusedVariables false
set_option linter.unusedSimpArgs false
def valL (l : List S78) (v : Int) : S24 := match l.find? (fun b => b.f0 == v) with
 | some b => b.f1
 | none => ⟨false, []⟩
theorem valL_at {l : List S78} {v : Int} {i : Nat} (hi : i < l.length) (h0 : ∀ b ∈ l.take i, b.f0 ≠ v) (h1 : l[i].f0 = v) : valL l v = l[i].f1 := by
 unfold valL
 have e : l = l.take i ++ (l[i] :: l.drop (i + 1)) := by rw [← List.drop_eq_getElem_cons hi]; exact (List.take_append_drop i l).symm
 have h2 : l.find? (fun b => b.f0 == v) = some l[i] := by
  conv => lhs; rw [e]
  rw [List.find?_append, List.find?_eq_none.2 (fun b hb => by simpa using h0 b hb), List.find?_cons_of_pos (by simpa using h1)]
  rfl
 rw [h2]
theorem valL_none {l : List S78} {v : Int} (h0 : ∀ b ∈ l, b.f0 ≠ v) : valL l v = ⟨false, []⟩ := by
 unfold valL;rw [List.find?_eq_none.2 (fun b hb => by simpa using h0 b hb)]
theorem bv_zero : bv (⟨false, []⟩ : S24) = 0 := rfl
theorem evP_ins (g : Int → Int) (p : Int × Int) : ∀ r : LnP.Ps, RB.evP g (LnP.ins p r) = p.2 * g p.1 + RB.evP g r
 | [] => by
  unfold LnP.ins
  split
  ·rename_i h; simp [RB.evP, h]
  ·rfl
 | q :: r => by
  unfold LnP.ins
  split
  ·split
   ·rename_i h; simp [RB.evP, h]
   ·rfl
  ·split
   ·rename_i h
    split
    ·rename_i h2
     simp only [RB.evP]
     have : p.2 * g p.1 + q.2 * g q.1 = 0 := by rw [h, ← Int.add_mul, h2, Int.zero_mul]
     omega
    ·simp only [RB.evP]
     rw [Int.add_mul, h]
     omega
   ·simp only [RB.evP, evP_ins g p r]
    omega
theorem evP_nrm (g : Int → Int) : ∀ l : LnP.Ps, RB.evP g (LnP.nrm l) = RB.evP g l
 | [] => rfl
 | p :: r => by rw [LnP.nrm, evP_ins, evP_nrm g r]; rfl
structure KpE (g R : Nat) (W W' : World) : Prop where
 size : W.heap.size ≤ W'.heap.size
 keep : ∀ k, k < W.heap.size → k ≠ g → k ≠ R → W'.heap[k]? = W.heap[k]?
section
variable {g R : Nat} {X Y Z : World}
theorem KpE.refl (W : World) : KpE g R W W := ⟨Nat.le_refl _, fun _ _ _ _ => rfl⟩
theorem KpE.trans (h : KpE g R X Y) (k : KpE g R Y Z) : KpE g R X Z := ⟨Nat.le_trans h.size k.size, fun i hi h1 h2 => (k.keep i (Nat.lt_of_lt_of_le hi h.size) h1 h2).trans (h.keep i hi h1 h2)⟩
theorem KpE.below (hb : Below X.heap.size X Y) : KpE g R X Y := ⟨hb.size, fun k hk _ _ => hb.block k hk⟩
theorem KpE.putR (W : World) (o : Obj) : KpE g R W (W.putObj R o) := ⟨by simp [World.putObj], fun k _ _ h2 => World.putObj_heap_other h2⟩
theorem KpE.set (W : World) (j : Nat) (v : Value) : KpE g R W (W.setCell ⟨g, j, none⟩ v) := ⟨by simp, fun k _ h1 _ => Below.heap_setCell W _ _ _ h1⟩
theorem kpE_ok {w : World} (hb : g < w.heap.size) : KpOk w (KpE g (w.heap.size + 1)) where
 refl := KpE.refl
 trans := KpE.trans
 alloc := fun W W' o h1 h2 => h2.trans (KpE.below (bal (Below.refl _ _) o))
 fresh := fun W W' h1 h2 => ⟨h2.size, fun k h3 h4 => h2.keep k h4 (by omega) (by omega)⟩
end
theorem isrow_grown {k : IntKind} {W W' : World} {A : Option Addr} {xs : List Int} {row : Option Nat} (h : IsRow k W A xs) (hg : W.grownBy W' row) (hr : ∀ r, row = some r → ∃ o : Obj, W.heap[r]? = some o ∧ o.isCells = false) : IsRow k W' A xs := fun i hi => by
 obtain ⟨ad, e, hc⟩ := h i hi;refine ⟨ad, e, ?_⟩;have hlt := World.block_lt_of_cell? W _ hc
 have hb : W'.heap[(ad.add i).block]? = W.heap[(ad.add i).block]? := hg.block _ hlt (fun e2 => by
  obtain ⟨o, ho, hn⟩ := hr _ e2.symm;unfold World.cell? at hc;rw [ho] at hc
  cases o <;> simp [Obj.isCells] at hc hn)
 unfold World.cell? at hc ⊢;rw [hb];exact hc
def Acc (g : Nat) (n : Int) (W : World) : Prop := ∃ (z : S24) (A : Option Addr) (c : Nat), (uBlk g [.bool z.f0, .slice A z.f1.length c] 24).p W ∧ z.f1.length ≤ c ∧ IsRow .u32 W A z.f1 ∧ bv z = n ∧ Dg B32 z.f1 ∧ z.f1.length ≤ 2000
theorem Acc.below {g : Nat} {n : Int} {W W' : World} (h : Acc g n W) (hb : Below W.heap.size W W') : Acc g n W' := by
 obtain ⟨z, A, c, h1, h2, h3, h4⟩ := h;exact ⟨z, A, c, (uBlk _ _ _).up _ _ h1 hb, h2, h3.below hb, h4⟩
theorem Acc.own {β : Type} {B g : Nat} {f : β → Int} : OwnFrom B (fun s W => Acc g (f s) W) := fun s W W' row hs hg hr => by
 obtain ⟨z, A, c, h1, h2, h3, h4⟩ := hs;exact ⟨z, A, c, ownFrom_blk B g _ (fun _ : Unit => [.bool z.f0, .slice A z.f1.length c]) () W W' row h1 hg hr, h2, isrow_grown h3 hg (fun r e => (hr r e).2), h4⟩
theorem Acc.put {g : Nat} {z0 z1 : Value} {W : World} {z : S24} {A : Option Addr} {c : Nat} (hb : (uBlk g [z0, z1] 24).p W) (hk : Kv k24 (fun k => k ≠ g) W (.agg #[.bool z.f0, .slice A z.f1.length c]) z) (hd : Dg B32 z.f1) (hl : z.f1.length ≤ 2000) : Acc g (bv z) ((W.setCell ⟨g, 0, none⟩ (.bool z.f0)).setCell ⟨g, 1, none⟩ (.slice A z.f1.length c)) := by
 have h2 := (hk.far (p := ⟨g, 0, none⟩) (fun k hk => hk) (.bool z.f0)).far (p := ⟨g, 1, none⟩) (fun k hk => hk) (.slice A z.f1.length c);obtain ⟨A', c', e, hc, hF⟩ := h2.openB;simp only [Value.agg.injEq, Array.mk.injEq, List.cons.injEq, Value.slice.injEq, and_true, true_and] at e;obtain ⟨rfl, rfl⟩ := e;exact ⟨z, A, c, Ctx.put (Ctx.put hb 0 _) 1 _, hc, row_of hF, rfl, hd, hl⟩
end Go.Proofs.YthpgjgmaamcaoaaDoor.P.LB
end
section
namespace Go.Proofs.YthpgjgmaamcaoaaDoor.P.LB
open Go.Proofs.YthpgjgmaamcaoaaDoor.P.R (uEl)
open Go.RowKit Go.Shelf Go.Proofs.YthpgjgmaamcaoaaDoor.P Go.Proofs.YthpgjgmaamcaoaaDoorW.PrintWords Go.Proofs.YthpgjgmaamcaoaaDoorW.PrintLast Go.Proofs.YthpgjgmaamcaoaaDoorW.PrintMore Go.Proofs.YthpgjgmaamcaoaaDoor.Nm
set_option maxRecDepth 100000
set_option linter.unusedVariables false
set_option linter.unusedSimpArgs false
attribute [local go_sem] Oper.semAt_some
theorem lin_Eval.tab9 : tabOf (opsOf Tryd.f35 9) = ([some 26, some 27, some 28, some 29, some 30, some 31, none], [[], [], [], [2], [1, 3], [0, 4, 4], [5, 5, 0, 1, 2, 3, 4, 5]]) := by kernel_rfl
theorem absWIn {F : Fence} {n : Nat} {P : Program} {c : Code} {Q : Exit → Act → World → Prop} {a : Act} {W : World} (l : List UpP) (h : Ctx l W) (hk : ∀ W', Ctx l W' → c.wpIn F n P Q a W') : c.wpIn F n P Q a W := hk W h
structure VIn (x : TB) (l : List S78) : Prop where
 n : NIn x
 c : x.f0.f1.length ≤ 1000
 b : ∀ b ∈ l, Dg B32 b.f1.f1 ∧ b.f1.f1.length ≤ 400
theorem valL_in {l : List S78} (h : ∀ b ∈ l, Dg B32 b.f1.f1 ∧ b.f1.f1.length ≤ 400) (v : Int) : Dg B32 (valL l v).f1 ∧ (valL l v).f1.length ≤ 400 := by
 unfold valL
 split
 ·rename_i b hb
  exact h b (List.mem_of_find?_eq_some hb)
 ·exact ⟨fun x hx => (by cases hx), by decide⟩
theorem ev_len {x : TB} {l : List S78} (h : VIn x l) {ps : LnP.Ps} (hl : ps.length ≤ 39) (hp : ∀ p ∈ ps, (can p.2).f1.length ≤ 1001) : (can (bv x.f0 + RB.evP (fun v => bv (valL l v)) ps)).f1.length ≤ 1500 := by
 have hK : (0 : Int) ≤ B32 ^ 1001 := Int.le_of_lt (pow_pos' (B := B32) (by decide) 1001);have h0 := abs_lt' h.n.c.dg h.c
 have h1 := RB.evP_abs (g := fun v => bv (valL l v)) (K := B32 ^ 1001) (M := B32 ^ 400) hK (fun v => Int.le_of_lt (abs_lt' (valL_in h.b v).1 (valL_in h.b v).2)) (l := ps) (fun p hq => by
  have h2 := abs_lt' (can_dg p.2) (hp p hq);rw [bv_can] at h2
  exact Int.le_of_lt h2)
 refine can_len ?_;have h3 := Int.mul_le_mul_of_nonneg_right (show (ps.length : Int) ≤ 39 by omega) (show (0 : Int) ≤ B32 ^ 1001 * B32 ^ 400 from Int.mul_nonneg hK (Int.le_of_lt (pow_pos' (B := B32) (by decide) 400)));rw [← Int.pow_add] at h1 h3;have h4 : (B32 : Int) ^ 1000 ≤ B32 ^ 1401 := pow_mono (by decide) (by decide);have h5 : (B32 : Int) ^ 1402 ≤ B32 ^ 1500 := pow_mono (by decide) (by decide);have h6 : (B32 : Int) ^ 1402 = B32 ^ 1401 * B32 := Int.pow_succ _ _;have h7 : (0 : Int) < B32 ^ 1401 := pow_pos' (by decide) _;rw [show 1001 + 400 = 1401 from rfl] at h1 h3;generalize (B32 : Int) ^ 1401 = X at *;generalize (B32 : Int) ^ 1402 = Y at *;generalize (B32 : Int) ^ 1500 = V at *;generalize (B32 : Int) ^ 1000 = U at *;unfold B32 at h6
 omega
set_option maxHeartbeats 3200000 in
theorem lin_Eval (ok : Nat → Prop) (v u : Value) (x : TB) (l : List S78) (w0 : World) (hok : ∀ k, w0.heap.size ≤ k → ok k) (h : Kv kTB (fun _ => True) w0 v x) (hl : Cv k78 (fun _ => True) w0 u l) (hx : VIn x l) (hlm : l.length ≤ 1000000) :
  Calls Tryd.prog 35 #[v, u] w0 (KPost k24 ok w0 (can (bv x.f0 + RB.evP (fun v => bv (valL l v)) (psB x.f1)))) := by
 obtain ⟨A, c, B, d, rfl, hk, -⟩ := h.openTB;obtain ⟨LA, LC, rfl, hlc, hlF⟩ := hl;have C := Ctx.new (cs := [.bool false, .slice none 0 0]) (t := 24) (Ctx.new (cs := [.slice LA l.length LC]) (t := 68) (Ctx.new (cs := [.bool x.f0.f0, .slice A x.f0.f1.length c, .slice B x.f1.length d]) (t := 27) (Ctx.cons (uB w0) (Below.refl _ _) (Ctx.cons (uK kTB (fun _ => True) (.agg #[.bool x.f0.f0, .slice A x.f0.f1.length c, .slice B x.f1.length d]) x) h (Ctx.cons (uK k24 (fun _ => True) (.agg #[.bool x.f0.f0, .slice A x.f0.f1.length c]) x.f0) hk (Ctx.cons (uCv k78 (fun _ => True) l (.slice LA l.length LC)) ⟨LA, LC, rfl, hlc, hlF⟩ Ctx.nil))))));simp only [World.size_alloc] at C
 obtain ⟨rr, hrr⟩ : ∃ rr, rr = can (bv x.f0 + RB.evP (fun v => bv (valL l v)) (psB x.f1)) := ⟨_, rfl⟩
 rw [← hrr];have HRR := Sdq.mk hrr
 have hps : (LnP.nrm (psB x.f1)).length ≤ 39 ∧ ∀ p ∈ LnP.nrm (psB x.f1), (can p.2).f1.length ≤ 1001 := by
  have hl : (psB x.f1).length ≤ 39 := by have := hx.n.few; unfold psB; simpa using this
  exact ⟨Nat.le_trans (LnP.nrm_len _) hl, fun p hp => nrm_can (L := 1000) hl (psB_abs (fun p hp => ⟨hx.n.dg p hp, hx.n.len p hp⟩)) p hp⟩
 have hps := Sdq.mk hps;have hx := Sdq.mk hx;have hok := Sdq.mk hok;have hL := Sdq.mk (And.intro (show Cv k78 (fun _ => True) w0 (.slice LA l.length LC) l from ⟨LA, LC, rfl, hlc, hlF⟩) hlm)
 obtain ⟨n, en⟩ : ∃ n, n = l.length := ⟨_, rfl⟩
 rw [← en] at C ⊢;have hn := Sdq.mk en;clear h hk hrr hlc hlF hlm en;refine (callsIn_wide (n := 3)).1 (callsIn_of_wp_marks Tryd.func35 rfl trivial (wpIn_wide.2 ?_) rfl);simp only [Tryd.ntmps35, List.size_toArray, List.length_cons, List.length_nil, Nat.reduceAdd, Nat.reduceSub, Array.replicate_succ, Array.replicate_zero, List.push_toArray, List.append_toArray, List.nil_append, List.cons_append]
 go_upto_region 1 with fail
 refine absW _ C ?_;clear C;intro w1 C;have y0 := Ctx.blk C.2.2.1 0 rfl;have y1 := Ctx.blk C.2.2.1 1 rfl;have y2 := Ctx.blk C.2.2.1 2 rfl;have C := Sdq.mk C
 go_upto_region 2 with fail
 have C5 := Ctx.new (cs := [.bool x.f0.f0, .slice A x.f0.f1.length c]) (t := 24) C.out;have hb5 : Below w1.heap.size w1 (w1.alloc (.cells #[.bool x.f0.f0, .slice A x.f0.f1.length c] 24)) := bal (Below.refl _ _) _;have hs1 := Sdq.mk (show w0.heap.size + 2 < w1.heap.size from blk_lt C.out.1);have hb1 := Sdq.mk (show Below w0.heap.size w0 w1 from C.out.2.2.2.1);have hC5 := And.intro C5 hb5
 obtain ⟨g5, eg5⟩ : ∃ g5, g5 = w1.heap.size := ⟨_, rfl⟩
 have C1 := C;clear C C5 hb5 y0 y1 y2
 revert hC5
 rw [← eg5];have heg5 := Sdq.mk eg5;clear eg5;generalize w1.alloc _ = w2;rintro ⟨C, hb12⟩;have y0 := Ctx.blk C.2.2.2.1 0 rfl;have y1 := Ctx.blk C.2.2.2.1 1 rfl;have y2 := Ctx.blk C.2.2.2.1 2 rfl;have hVs := lin_Vars (.agg #[.bool x.f0.f0, .slice A x.f0.f1.length c, .slice B x.f1.length d]) x w2 C.2.2.2.2.2.1;have C := Sdq.mk C;go_wp2_with (go_at_call 32; refine hVs.mono ?_; rintro e w3 ⟨rfl, cs2, ecs, rfl⟩; injection ecs with ecs; subst ecs);clear hVs y0 y1 y2;have C3 := Ctx.new (cs := [.bool x.f0.f0, .slice A x.f0.f1.length c, .slice B x.f1.length d]) (t := 27) C.out;have hs2 := Sdq.mk (show g5 < w2.heap.size from blk_lt C.out.1);have hb13 : Below g5 w1 (w2.alloc (.cells #[.bool x.f0.f0, .slice A x.f0.f1.length c, .slice B x.f1.length d] 27)) := hb12.trans ((bal (Below.refl _ _) _).mono (by have := hs2.out; omega));have hC3 := And.intro C3 hb13
 obtain ⟨Bs, eBs⟩ : ∃ Bs, Bs = w2.heap.size := ⟨_, rfl⟩
 clear C C3 hb13 hb12
 revert hC3
 rw [← eBs];have heBs := Sdq.mk eBs;clear eBs;generalize w2.alloc _ = w3;rintro ⟨C, hb13⟩;have C := Sdq.mk C;have hs3 := Sdq.mk (show Bs < w3.heap.size from blk_lt C.out.1);have hgs3 := Sdq.mk (show g5 < w3.heap.size from blk_lt C.out.2.1)
 have hA0 : Acc g5 (bv x.f0 + RB.evP (fun v => bv (valL l v)) (([] : List VE).map VE.p)) w3 := by
  obtain ⟨A', c', e, hc, hF⟩ := (show Kv k24 (fun _ => True) w3 (.agg #[.bool x.f0.f0, .slice A x.f0.f1.length c]) x.f0 from C.out.2.2.2.2.2.2.2.1).openB;simp only [Value.agg.injEq, Array.mk.injEq, List.cons.injEq, Value.slice.injEq, and_true, true_and] at e;obtain ⟨rfl, rfl⟩ := e;exact ⟨x.f0, A, c, C.out.2.1, hc, row_of hF, by show _ = bv x.f0 + 0; omega, hx.out.n.c.dg, by have := hx.out.c; omega⟩
 apply wp_rangeX (gf := 68) (lb := #[.pointer (some ⟨Bs, 0, none⟩)]) rfl (enters_of Tryd.func68 (by kernel_rfl) rfl)
  (vars_x Bs A c B d x w3 C.out.1 C.out.2.2.2.2.2.2.1 hx.out.n (kpE_ok hgs3.out)) KpE.trans (fun W o o' _ => KpE.putR W o') (fun _ => rfl)
  (fun pre W => Acc g5 (bv x.f0 + RB.evP (fun v => bv (valL l v)) (pre.map VE.p)) W ∧ Below g5 w1 W ∧ ∀ y ∈ pre, y.p ∈ LnP.nrm (psB x.f1)) (fun _ _ _ => False)
  (OwnFrom.and Acc.own (OwnFrom.and (ownFrom_below (by have := heg5.out; omega) (by have := hgs3.out; omega)) (ownFrom_pure _ _))) (fun _ _ _ _ _ hs _ _ => hs) ⟨hA0, hb13, fun _ h => by cases h⟩
  (fun y a' W => ∃ g, a' = { tmps := #[.agg #[.bool x.f0.f0, .slice A x.f0.f1.length c, .slice B x.f1.length d], .slice LA n LC, .pointer (some ⟨w0.heap.size, 0, none⟩), .pointer (some ⟨w0.heap.size + 1, 0, none⟩), .pointer (some ⟨w0.heap.size + 1 + 1, 0, none⟩), .pointer (some ⟨g5, 0, none⟩), .int .i64 y.v, .pointer (some ⟨g, 0, none⟩), undef, undef, .pointer (some ⟨w0.heap.size, 0, none⟩), .agg #[.bool x.f0.f0, .slice A x.f0.f1.length c], .agg #[.bool x.f0.f0, .slice A x.f0.f1.length c, .slice B x.f1.length d], .func (.func 68) #[] #[.pointer (some ⟨Bs, 0, none⟩)], .int .i64 y.v, .agg #[.bool (can y.n).f0, .slice y.A (can y.n).f1.length y.c], undef, undef, undef, undef, undef, undef, undef, undef, undef, undef, undef, undef, undef, undef, undef, undef, undef, undef, undef], defers := [] } ∧ w3.heap.size + 2 ≤ g ∧ (uBlk g [.bool (can y.n).f0, .slice y.A (can y.n).f1.length y.c] 24).p W ∧ y.p ∈ LnP.nrm (psB x.f1) ∧ (can y.n).f1.length ≤ y.c ∧ ∀ W', KpE g5 (w3.heap.size + 1) W W' → IsRow .u32 W' y.A (can y.n).f1)
  ?hAx ?assign ?body ?done ?stop
 case hAx =>
  rintro y a' W o o' ⟨g, e, hgs, h1, h2, h3, h4⟩ ho hc;refine ⟨g, e, hgs, (World.putObj_heap_other (fun e => ?_)).trans h1, h2, h3, fun W' hW' => h4 W' ((KpE.putR W o').trans hW')⟩;rw [← e, show W.heap[g]? = _ from h1] at ho;cases ho;cases hc
 case assign =>
  rintro lr pre y W K hsz ⟨hI, hB, hm⟩ ⟨h1, h2, h3⟩ hK
  have hE := fun (o : Obj) => And.intro (bal (Below.refl W.heap.size W) o) (KpE.below (g := g5) (R := w3.heap.size + 1) (bal (Below.refl W.heap.size W) o))
  have hE := Sdq.mk hE
  dsimp only [encV]
  gi_wp2
  exact hK _ _ ((KeepsOthers.alloc _ _).from _) (hE.out _).2 ⟨hI.below (hE.out _).1, hB.trans ((hE.out _).1.mono (by have := hB.size; have := heg5.out; have := hgs3.out; omega)), hm⟩ ⟨W.heap.size, rfl, hsz, blk_new W _, h1, h2, fun W' hW' => h3 W' ((hE.out _).2.trans hW')⟩
 case stop =>
  rintro D cd pre W _ _ h _;exact h.elim
 case body =>
  rintro lr pre y a' W ⟨hA, hB, hm⟩ ⟨g, rfl, hgs, hg, hmem, hcap, hrow⟩ hlen;obtain ⟨z, zA, zc, hzb, hzl, hzr, hze, hzd, hzn⟩ := hA;have hgW : g5 < W.heap.size := blk_lt hzb;have hbW : Below w0.heap.size w0 W := hb1.out.trans (hB.mono (by have := hs1.out; have := heg5.out; omega))
  have C7 : Ctx [uBlk (w0.heap.size + 1) [.slice LA n LC] 68, uBlk g5 [.bool z.f0, .slice zA z.f1.length zc] 24, uBlk g [.bool (can y.n).f0, .slice y.A (can y.n).f1.length y.c] 24, uCv k78 (fun _ => True) l (.slice LA n LC), uK k24 (fun _ => True) (.agg #[.bool z.f0, .slice zA z.f1.length zc]) z, uK k24 (fun _ => True) (.agg #[.bool (can y.n).f0, .slice y.A (can y.n).f1.length y.c]) (can y.n), uB W] W := ⟨(hB.block _ (by have := hs1.out; have := heg5.out; omega)).trans C1.out.2.1, hzb, hg, by rw [hn.out]; exact hL.out.1.below hbW, Kv.mkB hzl (hzr.F (by omega)), Kv.mkB hcap ((hrow W (KpE.refl W)).F (by have := (show (can y.n).f1.length ≤ 1001 from hps.out.2 y.p hmem); omega)), Below.refl _ _, trivial⟩
  have hm2 := Sdq.mk (show ∀ q ∈ pre ++ [y], q.p ∈ LnP.nrm (psB x.f1) from fun q hq => by
   rcases List.mem_append.1 hq with hq | hq
   ·exact hm q hq
   ·obtain rfl : q = y := by simpa using hq
    exact hmem)
  have hev : bv x.f0 + RB.evP (fun v => bv (valL l v)) ((pre ++ [y]).map VE.p) = bv z + y.n * bv (valL l y.v) := by
   rw [List.map_append, RB.evP_append, hze];simp only [List.map_cons, List.map_nil, RB.evP, VE.p]
   omega
  have hev := Sdq.mk hev;have hyl := Sdq.mk (show (can y.n).f1.length ≤ 1001 from hps.out.2 y.p hmem)
  have hpl := Sdq.mk (show ((pre ++ [y]).map VE.p).length ≤ 39 ∧ ∀ q ∈ (pre ++ [y]).map VE.p, (can q.2).f1.length ≤ 1001 from ⟨by rw [List.length_map, List.length_append, List.length_singleton]; have := hps.out.1; omega, fun q hq => by
   obtain ⟨r, hr, rfl⟩ := List.mem_map.1 hq
   exact hps.out.2 _ (hm2.out r hr)⟩)
  have hfin := Sdq.mk (fun (V : World) (hV : KpE g5 (w3.heap.size + 1) W V) (hk : KeepsFrom w3.heap.size W V) (hBV : Below g5 w1 V) (ha : Acc g5 (bv z + y.n * bv (valL l y.v)) V) => (show KeepsFrom w3.heap.size W V ∧ KpE g5 (w3.heap.size + 1) W V ∧ Acc g5 (bv x.f0 + RB.evP (fun v => bv (valL l v)) ((pre ++ [y]).map VE.p)) V ∧ Below g5 w1 V ∧ ∀ q ∈ pre ++ [y], q.p ∈ LnP.nrm (psB x.f1) from ⟨hk, hV, by rw [hev.out]; exact ha, hBV, hm2.out⟩));have hkf := Sdq.mk (fun (V : World) (hV : Below W.heap.size W V) => (show KeepsFrom w3.heap.size W V from ⟨hV.size, fun k o _ hk _ => (hV.block k (Array.getElem?_eq_some_iff.1 hk).1).trans hk⟩));have hz := Sdq.mk (And.intro hzd hzn);have hgg := Sdq.mk (And.intro hgs hgW);have hBB := Sdq.mk hB;have hzq := Sdq.mk (show Acc g5 (bv z) W from ⟨z, zA, zc, hzb, hzl, hzr, rfl, hzd, hzn⟩);have b0 := Ctx.blk C7.1 0 rfl;have C7 := Sdq.mk C7
  have hnm : n ≤ 1000000 := by rw [hn.out]; exact hL.out.2
  clear hzb hzl hzr hze hzd hzn hg hmem hcap hrow hgs hgW hbW hB hm hlen
  gi_wp2_with fail
  clear b0
  gi_loopg [18] n (fun gk s18 vr_ => ∃ (i : Nat), gk + i = n ∧ s18 = .int .i64 (i : Int) ∧ Sdq (Ctx [uBlk (w0.heap.size + 1) [.slice LA n LC] 68, uBlk g5 [.bool z.f0, .slice zA z.f1.length zc] 24, uBlk g [.bool (can y.n).f0, .slice y.A (can y.n).f1.length y.c] 24, uCv k78 (fun _ => True) l (.slice LA n LC), uK k24 (fun _ => True) (.agg #[.bool z.f0, .slice zA z.f1.length zc]) z, uK k24 (fun _ => True) (.agg #[.bool (can y.n).f0, .slice y.A (can y.n).f1.length y.c]) (can y.n), uB W] vr_) ∧ Sdq (∀ b ∈ l.take i, b.f0 ≠ y.v))
  case atStart => exact ⟨0, by omega, rfl, C7, ⟨fun b hb => by cases hb⟩⟩
  case round =>
   clear C7;obtain ⟨i, hgi, rfl, C2, hI⟩ := hrel
   cases gk with
   | zero =>
    obtain rfl : i = n := by omega
    have h1 := hI.out;rw [List.take_of_length_le (by have := hn.out; omega)] at h1;have hq := Sdq.mk (show bv z + y.n * bv (valL l y.v) = bv z by rw [valL_none h1, bv_zero, Int.mul_zero, Int.add_zero]);have hb := C2.out.2.2.2.2.2.2.1;have hfn := hfin.out _ (KpE.below hb) (hkf.out _ hb) (hBB.out.trans (Below.mono hb (by have := hgg.out.2; omega))) (by rw [hq.out]; exact hzq.out.below hb);clear hI C2 hb h1 hq
    gi_wp2_with fail
    exact hfn
   | succ j =>
    have hin : i < l.length := by have := hn.out; omega
    obtain ⟨B', d', e1, -, hF2⟩ := C2.out.2.2.2.1
    injection e1 with e2 e9 e3
    subst e2;subst e3;clear e9;obtain ⟨ad, e, rfl, x0, x1, x2, hfk⟩ := LB.row_el hF2 hin;have HP := Sdq.mk hgi
    have hin2 : i < n := by omega
    have hev2 : e.v = l[i].f0 := (LB.fk_el hfk).1;have hst := Sdq.mk (show l.take (i + 1) = l.take i ++ [l[i]] from List.take_succ_eq_append_getElem hin);clear hF2 hgi;by_cases hv : e.v = y.v
    ·have hvl := Sdq.mk (show valL l y.v = l[i].f1 from valL_at hin hI.out (hev2 ▸ hv))
     have hqd := Sdq.mk (hx.out.b l[i] (List.getElem_mem hin));have kq := LB.el_kv hfk
     obtain ⟨q, eq⟩ : ∃ q, q = l[i] := ⟨_, rfl⟩
     rw [← eq] at hvl hqd kq;have C8 := Ctx.new (cs := [.int .i64 y.v, .bool e.b, .slice e.A e.n e.c]) (t := 78) (Ctx.cons (uK k24 (fun _ => True) (.agg #[.bool e.b, .slice e.A e.n e.c]) q.f1) kq C2.out);have b0 := Ctx.blk C2.out.1 0 rfl;clear hfk hst hev2 eq hin hI C2 kq
     gi_upto_region 9 with fail
     clear x0 x1 x2 b0
     obtain ⟨g9, eg9⟩ : ∃ g9, g9 = wr.heap.size := ⟨_, rfl⟩
     simp only [← eg9] at C8 ⊢;clear eg9
     have hmd : Big (can (bv (can y.n) * bv q.f1)) := ⟨can_dg _, Nat.le_trans (can_len (k := 1402) (by
      have h1 := mul_abs (Int.le_of_lt (abs_lt' (can_dg y.n) hyl.out)) (Int.le_of_lt (abs_lt' hqd.out.1 hqd.out.2));rw [← Int.pow_add] at h1;refine Int.lt_of_le_of_lt h1 ?_;rw [show (1402 : Nat) = 1001 + 400 + 1 from rfl, Int.pow_succ];have h7 : (0 : Int) < B32 ^ (1001 + 400) := pow_pos' (by decide) _;generalize (B32 : Int) ^ (1001 + 400) = X at *;unfold B32
      omega)) (by decide)⟩
     have hMul := Sdq.mk (fun (w : World) (hC : Ctx [uBlk g9 [.int .i64 y.v, .bool e.b, .slice e.A e.n e.c] 78, uK k24 (fun _ => True) (.agg #[.bool e.b, .slice e.A e.n e.c]) q.f1, uBlk (w0.heap.size + 1) [.slice (some ad) n LC] 68, uBlk g5 [.bool z.f0, .slice zA z.f1.length zc] 24, uBlk g [.bool (can y.n).f0, .slice y.A (can y.n).f1.length y.c] 24, uCv k78 (fun _ => True) l (.slice (some ad) n LC), uK k24 (fun _ => True) (.agg #[.bool z.f0, .slice zA z.f1.length zc]) z, uK k24 (fun _ => True) (.agg #[.bool (can y.n).f0, .slice y.A (can y.n).f1.length y.c]) (can y.n), uB W] w) => big_Mul (fun _ => True) _ _ (can y.n) q.f1 w (fun _ _ => trivial) hC.2.2.2.2.2.2.2.1 hC.2.1 ⟨can_dg _, by have := hyl.out; omega⟩ ⟨hqd.out.1, by have := hqd.out.2; omega⟩);have hAdd := Sdq.mk (fun (w : World) (hC : Ctx [uBlk g9 [.int .i64 y.v, .bool e.b, .slice e.A e.n e.c] 78, uK k24 (fun _ => True) (.agg #[.bool e.b, .slice e.A e.n e.c]) q.f1, uBlk (w0.heap.size + 1) [.slice (some ad) n LC] 68, uBlk g5 [.bool z.f0, .slice zA z.f1.length zc] 24, uBlk g [.bool (can y.n).f0, .slice y.A (can y.n).f1.length y.c] 24, uCv k78 (fun _ => True) l (.slice (some ad) n LC), uK k24 (fun _ => True) (.agg #[.bool z.f0, .slice zA z.f1.length zc]) z, uK k24 (fun _ => True) (.agg #[.bool (can y.n).f0, .slice y.A (can y.n).f1.length y.c]) (can y.n), uB W] w) (p : Value) (hp : Kv k24 (fun _ => True) w p (can (bv (can y.n) * bv q.f1))) => big_Add (fun k => k ≠ g5) _ p z (can (bv (can y.n) * bv q.f1)) w (fun k hk => by have := blk_lt (show w.heap[g5]? = _ from hC.2.2.2.1); omega) hC.2.2.2.2.2.2.1 hp ⟨hz.out.1, by have := hz.out.2; omega⟩ hmd);refine absWIn _ C8 ?_;clear C8;intro w6 C;refine flowR (m := 6) lin_Eval.tab9 rfl (Ctx _) (Rl [uEq (.agg #[.bool z.f0, .slice zA z.f1.length zc]), uEq (.agg #[.bool (can y.n).f0, .slice y.A (can y.n).f1.length y.c]), uEq (.pointer (some ⟨g9, 1, none⟩)), uEq (.agg #[.bool e.b, .slice e.A e.n e.c]), uKd k24 (fun _ => True) (can (bv (can y.n) * bv q.f1)), uKd k24 (fun k => k ≠ g5) (can (bv z + bv (can (bv (can y.n) * bv q.f1))))]) rfl (by kernel_rfl) (fun _ _ h hb => h.below hb) (Rl.up _) C ⟨⟨⟨⟨⟨⟨trivial, ?_⟩, ?_⟩, ?_⟩, ?_⟩, ?_⟩, ?_⟩ _ rfl rfl ?_
     ·refine AtR.of _ rfl rfl (fun e_ a w hC hd hb K hK => ?_)
      have b5 : a.tmps[5]? = some (.pointer (some ⟨g5, 0, none⟩)) := hb 5 (by decide);have c0 := Ctx.blk hC.2.2.2.1 0 rfl;have c1 := Ctx.blk hC.2.2.2.1 1 rfl;have hk := hK.out (.agg #[.bool z.f0, .slice zA z.f1.length zc]) w (Below.refl _ _) rfl;clear hC hd hb hK hMul hAdd
      go_simp
      exact hk
     ·refine AtR.of _ rfl rfl (fun e_ a w hC hd hb K hK => ?_)
      have b7 : a.tmps[7]? = some (.pointer (some ⟨g, 0, none⟩)) := hb 7 (by decide);have c0 := Ctx.blk hC.2.2.2.2.1 0 rfl;have c1 := Ctx.blk hC.2.2.2.2.1 1 rfl;have hk := hK.out (.agg #[.bool (can y.n).f0, .slice y.A (can y.n).f1.length y.c]) w (Below.refl _ _) rfl;clear hC hd hb hK hMul hAdd
      go_simp
      exact hk
     ·refine AtR.of _ rfl rfl (fun e_ a w hC hd hb K hK => ?_)
      have b9 : a.tmps[9]? = some (.pointer (some ⟨g9, 0, none⟩)) := hb 9 (by decide);have hk := hK.out (.pointer (some ⟨g9, 1, none⟩)) w (Below.refl _ _) rfl;clear hC hd hb hK hMul hAdd
      go_simp
      exact hk
     ·refine AtR.of _ rfl rfl (fun e_ a w hC hd hb K hK => ?_)
      have q28 := (hd 2 (by decide)).2 28 rfl;rw [show e_ 2 = _ from (hd 2 (by decide)).1] at q28;have c1 := Ctx.blk hC.1 1 rfl;have c2 := Ctx.blk hC.1 2 rfl;have hk := hK.out (.agg #[.bool e.b, .slice e.A e.n e.c]) w (Below.refl _ _) rfl;clear hC hd hb hK hMul hAdd
      go_simp
      exact hk
     ·refine AtR.of _ rfl rfl (fun e_ a w hC hd hb K hK => ?_)
      have q27 := (hd 1 (by decide)).2 27 rfl;rw [show e_ 1 = _ from (hd 1 (by decide)).1] at q27;have q29 := (hd 3 (by decide)).2 29 rfl;rw [show e_ 3 = _ from (hd 3 (by decide)).1] at q29;have hM := hMul.out w hC;have hk := hK.out;clear hC hd hb hK hMul hAdd
      go_simp
      refine ⟨trivial, ?_⟩
      gi_at_call 40
      refine (CallsIn.inRound lr (callsIn_wide.2 hM)).mono ?_;rintro en w' ⟨v, rfl, hv, hb'⟩;exact hk v w' hb' hv
     ·refine AtR.of _ rfl rfl (fun e_ a w hC hd hb K hK => ?_)
      have q26 := (hd 0 (by decide)).2 26 rfl;rw [show e_ 0 = _ from (hd 0 (by decide)).1] at q26;have q30 := (hd 4 (by decide)).2 30 rfl;have hM := hAdd.out w hC _ (hd 4 (by decide)).1;have hk := hK.out;clear hC hd hb hK hMul hAdd
      go_simp
      refine ⟨trivial, ?_⟩
      gi_at_call 38
      refine (CallsIn.inRound lr (callsIn_wide.2 hM)).mono ?_;rintro en w' ⟨v, rfl, hv, hb'⟩;exact hk v w' hb' hv
     ·intro e_ w10 hC hr a ha K hK
      obtain ⟨yA, yc, he5, -, -⟩ := Kv.openB hr.2;have hv5 : Kv k24 (fun k => k ≠ g5) w10 (e_ 5) (can (bv z + bv (can (bv (can y.n) * bv q.f1)))) := hr.2;rw [he5] at hv5;simp only [fill, Act.put, he5, Nat.reduceAdd, Nat.reduceLT, decide_true, decide_false, if_true, Bool.false_eq_true, if_false, List.setIfInBounds_toArray, List.set_cons_zero, List.set_cons_succ] at ha;subst ha;have z0 := Ctx.blk hC.2.2.2.1 0 rfl;have z1 := Ctx.blk hC.2.2.2.1 1 rfl;have f0 := Ctx.frz hC.2.2.2.1 0;have f1 := Ctx.frz hC.2.2.2.1 1
      have hval : bv z + bv (can (bv (can y.n) * bv q.f1)) = bv z + y.n * bv (valL l y.v) := by rw [bv_can, bv_can, hvl.out]
      have hnl : ((can (bv z + bv (can (bv (can y.n) * bv q.f1))))).f1.length ≤ 2000 := by
       rw [hval, ← hev.out];exact Nat.le_trans (ev_len hx.out hpl.out.1 hpl.out.2) (by decide)
      have hA := Acc.put hC.2.2.2.1 hv5 (can_dg _) hnl;rw [show bv (can (bv z + bv (can (bv (can y.n) * bv q.f1)))) = bv z + y.n * bv (valL l y.v) from (bv_can _).trans hval] at hA;have hb := hC.2.2.2.2.2.2.2.2.1;have hb0 : Below W.heap.size W w10 := hb;have hkp : KpE g5 (w3.heap.size + 1) W ((w10.setCell ⟨g5, 0, none⟩ (.bool ((can (bv z + bv (can (bv (can y.n) * bv q.f1))))).f0)).setCell ⟨g5, 1, none⟩ (.slice yA ((can (bv z + bv (can (bv (can y.n) * bv q.f1))))).f1.length yc)) := ((KpE.below hb0).trans (KpE.set _ _ _)).trans (KpE.set _ _ _)
      have hkk : KeepsFrom w3.heap.size W ((w10.setCell ⟨g5, 0, none⟩ (.bool ((can (bv z + bv (can (bv (can y.n) * bv q.f1))))).f0)).setCell ⟨g5, 1, none⟩ (.slice yA ((can (bv z + bv (can (bv (can y.n) * bv q.f1))))).f1.length yc)) := ⟨hkp.size, fun k o hk1 hk2 _ => by
       have hlt := (Array.getElem?_eq_some_iff.1 hk2).1
       exact (Below.heap_setCell _ ⟨g5, 1, none⟩ _ k (show k ≠ g5 by have := hgs3.out; omega)).trans ((Below.heap_setCell _ ⟨g5, 0, none⟩ _ k (show k ≠ g5 by have := hgs3.out; omega)).trans ((hb0.block k hlt).trans hk2))⟩
      have hbb : Below g5 w1 ((w10.setCell ⟨g5, 0, none⟩ (.bool ((can (bv z + bv (can (bv (can y.n) * bv q.f1))))).f0)).setCell ⟨g5, 1, none⟩ (.slice yA ((can (bv z + bv (can (bv (can y.n) * bv q.f1))))).f1.length yc)) := ((hBB.out.trans (hb0.mono (by have := hgg.out.2; omega))).setCell (p := ⟨g5, 0, none⟩) (Nat.le_refl _) _).setCell (p := ⟨g5, 1, none⟩) (Nat.le_refl _) _;have hfn := Sdq.mk (hfin.out _ hkp hkk hbb hA);have hk := hK.out;clear hr he5 hC hv5 hMul hAdd C hval hnl hA hb hb0 hkp hkk hbb hK
      go_simp
      refine hk _ _ ?_;clear hk z0 z1 f0 f1
      gi_wp2_with fail
      exact hfn.out
    ·have hI2 := Sdq.mk (show ∀ b ∈ l.take (i + 1), b.f0 ≠ y.v from fun b hb => by
      rw [hst.out] at hb
      rcases List.mem_append.1 hb with hb | hb
      ·exact hI.out b hb
      ·rw [List.mem_singleton.1 hb, ← hev2]; exact hv)
     have C8 := Sdq.mk (fun (o : Obj) => Ctx.below (bal (Below.refl _ _) o) C2.out);have b0 := Ctx.blk C2.out.1 0 rfl;clear hfk hst hev2 hin hI C2
     gi_wp2_with fail
     gi_roundg j
     case measure => go_light; omega
     case rel => go_light; exact ⟨i + 1, by have := HP.out; omega, by go_num, ⟨C8.out _⟩, hI2⟩
 case done =>
  rintro D ys W hD hS ⟨hA, hB, -⟩ hK;rw [hS, evP_nrm] at hA;obtain ⟨z, zA, zc, hzb, hzl, hzr, hze, hzd, hzn⟩ := hA
  have hlt : w0.heap.size + 2 < g5 := by have := hs1.out; have := heg5.out; omega
  have hres : (uBlk (w0.heap.size + 1 + 1) [.bool false, .slice none 0 0] 24).p W := (hB.block _ (by have := heg5.out; omega)).trans C1.out.1;have hbW : Below w0.heap.size w0 W := hb1.out.trans (hB.mono (by omega));have hDW := blk_lt hK;have hNm := big_Norm (fun k => (ok k ∧ k ≠ D) ∧ k ≠ w0.heap.size + 1 + 1) (.agg #[.bool z.f0, .slice zA z.f1.length zc]) z W (fun k hk => by have := hbW.size; have := blk_lt hres; exact ⟨⟨hok.out k (by omega), by omega⟩, by omega⟩) (Kv.mkB hzl (hzr.F (by omega))) ⟨hzd, by omega⟩;rw [hze, ← HRR.out] at hNm;have z0 := Ctx.blk hzb 0 rfl;have z1 := Ctx.blk hzb 1 rfl;have hD2 := Sdq.mk (show w0.heap.size + 1 + 1 < D ∧ w0.heap.size ≤ D by have := hgs3.out; omega);have hKA := Sdq.mk (And.intro hK hDW);have hrA := Sdq.mk (And.intro hres hbW);clear hzb hzl hzr hze hzd hzn hlt hres hbW hB hS hK hDW hD;go_wp2_with (go_at_call 50; refine hNm.mono ?_; rintro e9 w9 ⟨v9, rfl, hv9, hb9⟩; obtain ⟨nA, nc, rfl, -, -⟩ := hv9.openB; have hres9 := (uBlk _ _ _).up _ _ hrA.out.1 hb9; have E := Sdq.mk (end2 (ok := fun k => ok k ∧ k ≠ D) hres9 (below_step hrA.out.2 hb9) (show w0.heap.size ≤ w0.heap.size + 1 + 1 by omega) (fun k hk => hk) hv9 _ rfl); have r0 := Ctx.blk hres9 0 rfl; have r1 := Ctx.blk hres9 1 rfl; have f0 := Ctx.frz hres9 0; have f1 := Ctx.frz hres9 1; have hKD := Sdq.mk ((hb9.block D hKA.out.2).trans hKA.out.1); clear hres9);have hKw := Sdq.mk (show ((w9.setCell ⟨w0.heap.size + 1 + 1, 0, none⟩ (.bool rr.f0)).setCell ⟨w0.heap.size + 1 + 1, 1, none⟩ (.slice nA rr.f1.length nc)).heap[D]? = some (.deferred (some [])) from (Below.heap_setCell _ ⟨w0.heap.size + 1 + 1, 1, none⟩ _ D (show D ≠ w0.heap.size + 1 + 1 by have := hD2.out; omega)).trans ((Below.heap_setCell _ ⟨w0.heap.size + 1 + 1, 0, none⟩ _ D (show D ≠ w0.heap.size + 1 + 1 by have := hD2.out; omega)).trans hKD.out));have E := E.out;clear z0 z1 r0 r1 f0 f1 hNm hKD hKA hrA;generalize World.setCell (World.setCell _ _ _) _ _ = wf at E hKw ⊢;obtain ⟨⟨v9, hv9e, hkv, hbe⟩, e0, e1⟩ := E
  injection hv9e with hv9e
  subst hv9e;have e0 := cell_put hKw.out rfl (o' := .deferred none) e0;have e1 := cell_put hKw.out rfl (o' := .deferred none) e1;refine marks_ret1 hKw.out (.agg #[.bool rr.f0, .slice nA rr.f1.length nc]) (by first | (simp [results, Tryd.results35, go_sem, e0, e1]; done) | (simp [results, Tryd.results35, go_sem, e0, e1]; rfl)) ⟨_, rfl, ?_, below_put hbe hD2.out.2 hKw.out _⟩;obtain ⟨cs, ec, hfk⟩ := hkv;exact ⟨cs, ec, Kd.FK_mono (Kd.FK_step hfk (fun k hk _ => World.putObj_heap_other hk.2)) (fun k hk => hk.1)⟩
end Go.Proofs.YthpgjgmaamcaoaaDoor.P.LB
end
section
namespace Go.Proofs.YthpgjgmaamcaoaaDoor.P
open Go.RowKit Go.Shelf Go.Proofs.YthpgjgmaamcaoaaDoor.P Go.Proofs.YthpgjgmaamcaoaaDoorW.PrintWords Go.Proofs.YthpgjgmaamcaoaaDoorW.PrintLast Go.Proofs.YthpgjgmaamcaoaaDoorW.PrintMore Go.Proofs.YthpgjgmaamcaoaaDoor.Nm
set_option maxRecDepth 100000
set_option linter.unusedVariables false
set_option linter.unusedSimpArgs false
theorem law_evals.tab4 : tabOf (opsOf Tryd.f7 4) = ([some 20, some 21, some 22, some 23, some 24, some 25, some 26, some 27, some 28, some 29, some 30, some 4], [[], [0, 0], [1], [1], [2, 3, 1, 1], [1], [5, 4, 1], [1], [6, 7, 6, 1], [4, 8, 8, 1], [1, 9], [10, 9, 0, 1, 2, 3, 4, 5, 6, 7, 8, 9, 10]]) := by kernel_rfl
theorem val_ofB (l : List S78) (v : Int) : nv (RB.valR (l.map RB.ofB) v) = bv (LB.valL l v) := by
 unfold RB.valR LB.valL;rw [List.find?_map]
 show nv (match ((l.find? (fun b => b.f0 == v)).map RB.ofB) with | some b => b.f1 | none => ⟨false, []⟩) = _
 cases l.find? (fun b => b.f0 == v) with
 | none => rfl
 | some b => exact nv_cn _
theorem lite_vin {x : TB} {l : List S78} (h : Lite x) (hd : Lim x) (hb : RB.BLite l) (hl : ∀ b ∈ l, Dg B32 b.f1.f1) : LB.VIn x l := ⟨lin_nin (lite_lin h hd), by have := h.2.1; omega, fun b hm => ⟨hl b hm, by have := hb.2 b hm; omega⟩⟩
theorem lite_ein {x : TB} {l : List S78} (h : Lite x) (hd : Lim x) (hb : RB.BLite l) (hl : ∀ b ∈ l, Dg B32 b.f1.f1) : RB.EIn (R.ofT x) (l.map RB.ofB) := ⟨lite_din h hd, by show cn _ = cn (nv (cn _)); rw [nv_cn], fun b hm => by
  obtain ⟨c, hc, rfl⟩ := List.mem_map.1 hm
  exact ⟨cn_dg _, cn_K (bv_K (hl c hc) (hb.2 c hc))⟩, by rw [List.length_map]; have := hb.1; omega⟩
theorem ev_both {x : TB} {l : List S78} (h : Lite x) (hd : Lim x) (hb : RB.BLite l) (hl : ∀ b ∈ l, Dg B32 b.f1.f1) : Big (can (bv x.f0 + RB.evP (fun v => bv (LB.valL l v)) (psB x.f1))) ∧ Dec (cn (bv x.f0 + RB.evP (fun v => bv (LB.valL l v)) (psB x.f1))) := by
 have h0 := bv_K hd.c h.2.1
 have h1 := RB.evP_abs (g := fun v => bv (LB.valL l v)) (K := K4) (M := K4) K4_pos (fun v => by
  unfold LB.valL
  split
  ·rename_i b hf
   have hm := List.mem_of_find?_eq_some hf;exact bv_K (hl b hm) (hb.2 b hm)
  ·exact K4_pos) (lite_ps h hd)
 have h3 := Int.mul_le_mul_of_nonneg_right (show ((psB x.f1).length : Int) ≤ 12 by rw [psB_len]; have := h.1; omega) kk_pos;have hk := K4_le;have h9 := kk_pos;refine both_of ?_;generalize K4 * K4 = X at *
 omega
set_option maxHeartbeats 3200000 in
theorem law_evals_b (u v : Value) (x : TB) (l : List S78) (w0 : World) (h : Kv kTB (fun _ => True) w0 u x) (hl : Cv k78 (fun _ => True) w0 v l) (hT : TabOk w0) (dl : ∀ b ∈ l, Dg B32 b.f1.f1) (hb : ¬RB.BLite l) :
  Calls Tryd.prog 7 #[u, v] w0 fun e w' => e = .returned (.bool true) ∧ Below w0.heap.size w0 w' := by
 obtain ⟨A, c, B, d, rfl, -, -⟩ := h.openTB;obtain ⟨LA, LC, rfl, -, -⟩ := id hl;have C := Ctx.new (cs := [.bool x.f0.f0, .slice A x.f0.f1.length c, .slice B x.f1.length d]) (t := 27) (Ctx.cons (uB w0) (Below.refl _ _) (Ctx.cons (uK kTB (fun _ => True) (.agg #[.bool x.f0.f0, .slice A x.f0.f1.length c, .slice B x.f1.length d]) x) h (Ctx.cons (uCv k78 (fun _ => True) l (.slice LA l.length LC)) hl (Ctx.cons uTab hT Ctx.nil))));clear h hl hT;have hbl : decide (RB.BLite l) = false := decide_eq_false hb;go_enter Tryd.func7, Tryd.ntmps7
 go_upto_region 1 with fail
 refine absW _ C ?_;clear C;intro w1 C;have hB := RB.law_bindings (fun _ => True) (.slice LA l.length LC) l w1 (fun _ _ => trivial) C.2.2.2.1 dl;rw [hbl] at hB;have C := Sdq.mk C;go_wp2_with (first | (go_at_call 10; refine (law_summed _ C2.2.2.2.2.1).mono ?_; rintro e4 w4 ⟨rfl, hb4⟩; have C4 := C2.below hb4) | (go_at_call 34; refine hB.mono ?_; rintro e2 w2 ⟨bu, rfl, hbu, hb2⟩; have C2 := C.out.below hb2; have z1 := Ctx.blk C2.1 0 rfl; have z2 := Ctx.blk C2.1 1 rfl; have z3 := Ctx.blk C2.1 2 rfl; clear hB) | fail);go_ret;exact ⟨rfl, C4.2.1⟩
set_option maxHeartbeats 3200000 in
theorem law_evals_x (u v : Value) (x : TB) (l : List S78) (w0 : World) (h : Kv kTB (fun _ => True) w0 u x) (hl : Cv k78 (fun _ => True) w0 v l) (hT : TabOk w0) (dl : ∀ b ∈ l, Dg B32 b.f1.f1) (hb : RB.BLite l) (hx : ¬Lite x) :
  Calls Tryd.prog 7 #[u, v] w0 fun e w' => e = .returned (.bool true) ∧ Below w0.heap.size w0 w' := by
 obtain ⟨A, c, B, d, rfl, -, -⟩ := h.openTB;obtain ⟨LA, LC, rfl, -, -⟩ := id hl;have C := Ctx.new (cs := [.bool x.f0.f0, .slice A x.f0.f1.length c, .slice B x.f1.length d]) (t := 27) (Ctx.cons (uB w0) (Below.refl _ _) (Ctx.cons (uK kTB (fun _ => True) (.agg #[.bool x.f0.f0, .slice A x.f0.f1.length c, .slice B x.f1.length d]) x) h (Ctx.cons (uCv k78 (fun _ => True) l (.slice LA l.length LC)) hl (Ctx.cons uTab hT Ctx.nil))));clear h hl hT;have hbl : decide (RB.BLite l) = true := decide_eq_true hb;go_enter Tryd.func7, Tryd.ntmps7
 go_upto_region 1 with fail
 refine absW _ C ?_;clear C;intro w1 C;have hB := RB.law_bindings (fun _ => True) (.slice LA l.length LC) l w1 (fun _ _ => trivial) C.2.2.2.1 dl;rw [hbl] at hB;have C := Sdq.mk C;go_wp2_with (first | (go_at_call 10; refine (law_summed _ C3.2.2.2.2.1).mono ?_; rintro e4 w4 ⟨rfl, hb4⟩; have C4 := C3.below hb4) | (go_at_call 9; refine (law_lightT C2.2.2.1 (x := x) (b := false) (by simpa using hx)).mono ?_; rintro e3 w3 ⟨rfl, hb3⟩; have C3 := C2.below hb3; clear z1 z2 z3) | (go_at_call 34; refine hB.mono ?_; rintro e2 w2 ⟨bu, rfl, hbu, hb2⟩; have C2 := C.out.below hb2; have z1 := Ctx.blk C2.1 0 rfl; have z2 := Ctx.blk C2.1 1 rfl; have z3 := Ctx.blk C2.1 2 rfl; clear hB) | fail);go_ret;exact ⟨rfl, C4.2.1⟩
set_option maxHeartbeats 3200000 in
theorem law_evals_l (u v : Value) (x : TB) (l : List S78) (w0 : World) (h : Kv kTB (fun _ => True) w0 u x) (hl : Cv k78 (fun _ => True) w0 v l) (hT : TabOk w0) (dl : ∀ b ∈ l, Dg B32 b.f1.f1) (hb : RB.BLite l) (hx : Lite x) (dx : Lim x) :
  Calls Tryd.prog 7 #[u, v] w0 fun e w' => e = .returned (.bool true) ∧ Below w0.heap.size w0 w' := by
 obtain ⟨A, c, B, d, rfl, -, -⟩ := h.openTB;obtain ⟨LA, LC, rfl, -, -⟩ := id hl;have C := Ctx.new (cs := [.bool x.f0.f0, .slice A x.f0.f1.length c, .slice B x.f1.length d]) (t := 27) (Ctx.cons (uB w0) (Below.refl _ _) (Ctx.cons (uK kTB (fun _ => True) (.agg #[.bool x.f0.f0, .slice A x.f0.f1.length c, .slice B x.f1.length d]) x) h (Ctx.cons (uCv k78 (fun _ => True) l (.slice LA l.length LC)) hl (Ctx.cons uTab hT Ctx.nil))));clear h hl hT;have hbl : decide (RB.BLite l) = true := decide_eq_true hb;have hvi := Sdq.mk (lite_vin hx dx hb dl);have hbx := Sdq.mk (lite_bin hx dx);have heb := Sdq.mk (ev_both hx dx hb dl);have hlm := Sdq.mk (show l.length ≤ 1000000 by have := hb.1; omega)
 have hre := Sdq.mk (fun (w : World) (p q : Value) (hp : Kv kTR (fun _ => True) w p (R.ofT x)) (hq : Cv k118 (fun _ => True) w q (l.map RB.ofB)) => by
  have h1 := RB.r11_Eval (fun _ => True) p q (R.ofT x) (l.map RB.ofB) w (fun _ _ => trivial) hp hq (lite_ein hx dx hb dl);rw [nv_ofT, psR_ofT, show (fun v => nv (RB.valR (l.map RB.ofB) v)) = fun v => bv (LB.valL l v) from funext (val_ofB l)] at h1
  exact h1)
 go_enter Tryd.func7, Tryd.ntmps7
 go_upto_region 1 with fail
 refine absW _ C ?_;clear C;intro w1 C;have hB := RB.law_bindings (fun _ => True) (.slice LA l.length LC) l w1 (fun _ _ => trivial) C.2.2.2.1 dl;rw [hbl] at hB;have C := Sdq.mk C
 go_upto_region 4 with (first | (go_at_call 9; refine (law_lightT C2.2.2.1 (x := x) (b := true) (by simpa using hx)).mono ?_; rintro e3 w3 ⟨rfl, hb3⟩; have C3 := C2.below hb3; clear z1 z2 z3) | (go_at_call 34; refine hB.mono ?_; rintro e2 w2 ⟨bu, rfl, hbu, hb2⟩; have C2 := C.out.below hb2; have z1 := Ctx.blk C2.1 0 rfl; have z2 := Ctx.blk C2.1 1 rfl; have z3 := Ctx.blk C2.1 2 rfl; clear hB) | fail)
 have C6 : Ctx [uCv k118 (fun _ => True) (l.map RB.ofB) bu, uBlk w0.heap.size [.bool x.f0.f0, .slice A x.f0.f1.length c, .slice B x.f1.length d] 27, uB w0, uK kTB (fun _ => True) (.agg #[.bool x.f0.f0, .slice A x.f0.f1.length c, .slice B x.f1.length d]) x, uCv k78 (fun _ => True) l (.slice LA l.length LC), uTab] w3 := ⟨(hbu hb).below hb3, C3⟩
 clear C C2 C3 hb2 hb3 hbu;refine absW _ C6 ?_;clear C6;intro w6 C;refine flowT (n := 12) law_evals.tab4 rfl (Ctx _) (Rl [uEq (.bool true), uEq (.bool true), uEq (.agg #[.bool x.f0.f0, .slice A x.f0.f1.length c, .slice B x.f1.length d]), uEq (.slice LA l.length LC), uKd k24 (fun _ => True) (can (bv x.f0 + RB.evP (fun v => bv (LB.valL l v)) (psB x.f1))), uEq (.agg #[.bool x.f0.f0, .slice A x.f0.f1.length c, .slice B x.f1.length d]), uKd kTR (fun _ => True) (R.ofT x), uEq (bu), uKd k34 (fun _ => True) (cn (bv x.f0 + RB.evP (fun v => bv (LB.valL l v)) (psB x.f1))), uEq (.bool true), uEq (.bool true), uEq (.bool true)]) rfl (by kernel_rfl) (fun _ _ h hb => h.below hb) (Rl.up _) C ⟨⟨⟨⟨⟨⟨⟨⟨⟨⟨⟨⟨trivial, ?_⟩, ?_⟩, ?_⟩, ?_⟩, ?_⟩, ?_⟩, ?_⟩, ?_⟩, ?_⟩, ?_⟩, ?_⟩, ?_⟩ ?_
 ·refine At.of _ rfl (fun e_ a w hC hd hb K hK => ?_)
  refine goes_ Tryd.func10 (by kernel_rfl) rfl #[] (by rfl) rfl rfl (by first | (simp [Act.eval]; done) | (simp [Act.eval]; rfl)) ?_;refine (law_summedT w hC.2.2.2.2.2.1).mono ?_;rintro en w' ⟨v, rfl, hv, hb'⟩;exact ⟨v, rfl, hK.out v w' hb' hv⟩
 ·refine At.of _ rfl (fun e_ a w hC hd hb K hK => ?_)
  have q20 := (hd 0 (by decide)).2 20 rfl;rw [show e_ 0 = _ from (hd 0 (by decide)).1] at q20;refine value_ (w1 := w) (v := .bool true) (by rfl) rfl ?_ (hK.out _ _ (Below.refl _ _) rfl);clear hC hd hb hK hvi hlm hbx hre heb
  first | (go_simp; done) | (go_simp; rfl)
 ·refine At.of _ rfl (fun e_ a w hC hd hb K hK => ?_)
  have gg21 := (hd 1 (by decide)).2 21 rfl;rw [show e_ 1 = _ from (hd 1 (by decide)).1] at gg21;have b2 : a.tmps[2]? = some (.pointer (some ⟨w0.heap.size, 0, none⟩)) := hb 2 (by decide);have cc0 : w.cell? ⟨w0.heap.size, 0, none⟩ = some (.bool x.f0.f0) := Ctx.blk hC.2.1 0 rfl;have cc1 : w.cell? ⟨w0.heap.size, 1, none⟩ = some (.slice A x.f0.f1.length c) := Ctx.blk hC.2.1 1 rfl;have cc2 : w.cell? ⟨w0.heap.size, 2, none⟩ = some (.slice B x.f1.length d) := Ctx.blk hC.2.1 2 rfl;refine value_ (w1 := w) (v := .agg #[.bool x.f0.f0, .slice A x.f0.f1.length c, .slice B x.f1.length d]) (by simp [Region.wanted, yielded, gg21]) rfl ?_ (hK.out _ _ (Below.refl _ _) rfl);clear hC hd hb hK hvi hlm hbx hre heb
  first | (go_simp; done) | (go_simp; rfl)
 ·refine At.of _ rfl (fun e_ a w hC hd hb K hK => ?_)
  have gg21 := (hd 1 (by decide)).2 21 rfl;rw [show e_ 1 = _ from (hd 1 (by decide)).1] at gg21;have b1 : a.tmps[1]? = some (.slice LA l.length LC) := hb 1 (by decide);refine value_ (w1 := w) (v := .slice LA l.length LC) (by simp [Region.wanted, yielded, gg21]) rfl ?_ (hK.out _ _ (Below.refl _ _) rfl);clear hC hd hb hK hvi hlm hbx hre heb
  first | (go_simp; done) | (go_simp; rfl)
 ·refine At.of _ rfl (fun e_ a w hC hd hb K hK => ?_)
  have gg21 := (hd 1 (by decide)).2 21 rfl;rw [show e_ 1 = _ from (hd 1 (by decide)).1] at gg21;have q22 := (hd 2 (by decide)).2 22 rfl;rw [show e_ 2 = _ from (hd 2 (by decide)).1] at q22;have q23 := (hd 3 (by decide)).2 23 rfl;rw [show e_ 3 = _ from (hd 3 (by decide)).1] at q23;refine goes_ Tryd.func35 (by kernel_rfl) rfl #[.agg #[.bool x.f0.f0, .slice A x.f0.f1.length c, .slice B x.f1.length d], .slice LA l.length LC] (by simp [Region.wanted, yielded, gg21]) rfl rfl (by first | (simp [Act.eval, q22, q23]; done) | (simp [Act.eval, q22, q23]; rfl)) ?_;refine (LB.lin_Eval (fun _ => True) _ _ x l w (fun _ _ => trivial) hC.2.2.2.1 hC.2.2.2.2.1 hvi.out hlm.out).mono ?_;rintro en w' ⟨v, rfl, hv, hb'⟩;exact ⟨v, rfl, hK.out v w' hb' hv⟩
 ·refine At.of _ rfl (fun e_ a w hC hd hb K hK => ?_)
  have gg21 := (hd 1 (by decide)).2 21 rfl;rw [show e_ 1 = _ from (hd 1 (by decide)).1] at gg21;have b2 : a.tmps[2]? = some (.pointer (some ⟨w0.heap.size, 0, none⟩)) := hb 2 (by decide);have cc0 : w.cell? ⟨w0.heap.size, 0, none⟩ = some (.bool x.f0.f0) := Ctx.blk hC.2.1 0 rfl;have cc1 : w.cell? ⟨w0.heap.size, 1, none⟩ = some (.slice A x.f0.f1.length c) := Ctx.blk hC.2.1 1 rfl;have cc2 : w.cell? ⟨w0.heap.size, 2, none⟩ = some (.slice B x.f1.length d) := Ctx.blk hC.2.1 2 rfl;refine value_ (w1 := w) (v := .agg #[.bool x.f0.f0, .slice A x.f0.f1.length c, .slice B x.f1.length d]) (by simp [Region.wanted, yielded, gg21]) rfl ?_ (hK.out _ _ (Below.refl _ _) rfl);clear hC hd hb hK hvi hlm hbx hre heb
  first | (go_simp; done) | (go_simp; rfl)
 ·refine At.of _ rfl (fun e_ a w hC hd hb K hK => ?_)
  have gg21 := (hd 1 (by decide)).2 21 rfl;rw [show e_ 1 = _ from (hd 1 (by decide)).1] at gg21;have q25 := (hd 5 (by decide)).2 25 rfl;rw [show e_ 5 = _ from (hd 5 (by decide)).1] at q25;refine goes_ Tryd.func14 (by kernel_rfl) rfl #[.agg #[.bool x.f0.f0, .slice A x.f0.f1.length c, .slice B x.f1.length d]] (by simp [Region.wanted, yielded, gg21]) rfl rfl (by first | (simp [Act.eval, q25]; done) | (simp [Act.eval, q25]; rfl)) ?_;refine (R.law_of (fun _ => True) _ x w (fun _ _ => trivial) hC.2.2.2.1 hbx.out).mono ?_;rintro en w' ⟨v, rfl, hv, hb'⟩;exact ⟨v, rfl, hK.out v w' hb' hv⟩
 ·refine At.of _ rfl (fun e_ a w hC hd hb K hK => ?_)
  have gg21 := (hd 1 (by decide)).2 21 rfl;rw [show e_ 1 = _ from (hd 1 (by decide)).1] at gg21;have b5 : a.tmps[5]? = some (bu) := hb 5 (by decide);refine value_ (w1 := w) (v := bu) (by simp [Region.wanted, yielded, gg21]) rfl ?_ (hK.out _ _ (Below.refl _ _) rfl);clear hC hd hb hK hvi hlm hbx hre heb
  first | (go_simp; done) | (go_simp; rfl)
 ·refine At.of _ rfl (fun e_ a w hC hd hb K hK => ?_)
  have gg21 := (hd 1 (by decide)).2 21 rfl;rw [show e_ 1 = _ from (hd 1 (by decide)).1] at gg21;have q26 := (hd 6 (by decide)).2 26 rfl;have q27 := (hd 7 (by decide)).2 27 rfl;rw [show e_ 7 = _ from (hd 7 (by decide)).1] at q27;refine goes_ Tryd.func36 (by kernel_rfl) rfl #[e_ 6, bu] (by simp [Region.wanted, yielded, gg21]) rfl rfl (by first | (simp [Act.eval, q26, q27]; done) | (simp [Act.eval, q26, q27]; rfl)) ?_;refine (hre.out w _ _ (hd 6 (by decide)).1 hC.1).mono ?_;rintro en w' ⟨v, rfl, hv, hb'⟩;exact ⟨v, rfl, hK.out v w' hb' hv⟩
 ·refine At.of _ rfl (fun e_ a w hC hd hb K hK => ?_)
  have gg21 := (hd 1 (by decide)).2 21 rfl;rw [show e_ 1 = _ from (hd 1 (by decide)).1] at gg21;have q24 := (hd 4 (by decide)).2 24 rfl;have q28 := (hd 8 (by decide)).2 28 rfl;refine goes_ Tryd.func33 (by kernel_rfl) rfl #[e_ 4, e_ 8] (by simp [Region.wanted, yielded, gg21]) rfl rfl (by first | (simp [Act.eval, q24, q28]; done) | (simp [Act.eval, q24, q28]; rfl)) ?_;refine (R.law_sameT _ _ _ w (hd 4 (by decide)).1 (hd 8 (by decide)).1 heb.out.1 heb.out.2).mono ?_;rintro en w' ⟨v, rfl, hv, hb'⟩;exact ⟨v, rfl, hK.out v w' hb' hv⟩
 ·refine At.of _ rfl (fun e_ a w hC hd hb K hK => ?_)
  have q21 := (hd 1 (by decide)).2 21 rfl;rw [show e_ 1 = _ from (hd 1 (by decide)).1] at q21;have q29 := (hd 9 (by decide)).2 29 rfl;rw [show e_ 9 = _ from (hd 9 (by decide)).1] at q29;refine value_ (w1 := w) (v := .bool true) (by rfl) rfl ?_ (hK.out _ _ (Below.refl _ _) rfl);clear hC hd hb hK hvi hlm hbx hre heb
  first | (go_simp; done) | (go_simp; rfl)
 ·refine At.of _ rfl (fun e_ a w hC hd hb K hK => ?_)
  have q30 := (hd 10 (by decide)).2 30 rfl;rw [show e_ 10 = _ from (hd 10 (by decide)).1] at q30;refine value_ (w1 := w) (v := .bool true) (by rfl) rfl ?_ (hK.out _ _ (Below.refl _ _) rfl);clear hC hd hb hK hvi hlm hbx hre heb
  first | (go_simp; done) | (go_simp; rfl)
 ·intro e_ w10 hC hr
  have r11 : e_ 11 = .bool true := hr.2;simp only [fill, Act.put, r11, if_true, List.setIfInBounds_toArray, List.set_cons_zero, List.set_cons_succ];have hb10 := hC.2.2.1;clear hr r11 hC
  go_wp2_with fail
  go_ret;exact ⟨rfl, hb10⟩
theorem law_evals (u v : Value) (x : TB) (l : List S78) (w0 : World) (h : Kv kTB (fun _ => True) w0 u x) (hl : Cv k78 (fun _ => True) w0 v l) (hT : TabOk w0) (dl : ∀ b ∈ l, Dg B32 b.f1.f1) (dx : Lim x) :
  Calls Tryd.prog 7 #[u, v] w0 fun e w' => e = .returned (.bool true) ∧ Below w0.heap.size w0 w' := by
 by_cases hb : RB.BLite l
 ·by_cases hx : Lite x
  ·exact law_evals_l u v x l w0 h hl hT dl hb hx dx
  ·exact law_evals_x u v x l w0 h hl hT dl hb hx
 ·exact law_evals_b u v x l w0 h hl hT dl hb
end Go.Proofs.YthpgjgmaamcaoaaDoor.P
end
section
namespace Go.Proofs.YthpgjgmaamcaoaaDoor.levals
open Go.ChangeShapes Go.WideShapes Go.ChangeAt Go.RowKit Go.Proofs.YthpgjgmaamcaoaaDoorW.PrintWords Go.Proofs.YthpgjgmaamcaoaaDoor.P Go.Proofs.YthpgjgmaamcaoaaDoor.laidThree
open Go.ChangeMaps (open_string shut_string)
set_option linter.unusedVariables false
set_option maxRecDepth 100000
theorem own : ownKnob Tryd.prog.godebug = none := by kernel_rfl
theorem laidOut : laidOutB Tryd.prog = true := by kernel_rfl
theorem cells_78 : Tryd.prog.cellsOf 78 = 3 := by kernel_rfl
theorem cells_68 : Tryd.prog.cellsOf 68 = 1 := by kernel_rfl
instance : Inhabited S78 := ⟨z78⟩
section
open Go.Proofs.YthpgjgmaamcaoaaDoor.Nm
variable {H : Type} {enc : TypeId × Value → H} {W : World} {sp : Nat → Bool} {held : Bool}
theorem openBd {fuel : Nat} {cs : List Value} {x : DataW H × List MemPlace} (h : DataW.trod enc Tryd.prog W 0 sp held fuel 78 cs = some x) : ∃ v : S78, k78.K W v cs ∧ Dg B32 v.f1.f1 ∧ -9223372036854775808 ≤ v.f0 ∧ v.f0 ≤ 9223372036854775807 := by
 obtain ⟨xs, n, hn, rfl, hl, hlen, hf⟩ := DataW.trod_struct Tryd.underlying78 h;rw [cells_78] at hl
 obtain ⟨a, b, c, rfl⟩ : ∃ a b c, cs = [a, b, c] := by
  match cs, hl with
  | [a, b, c], _ => exact ⟨a, b, c, rfl⟩
 obtain ⟨y0, y1, rfl⟩ : ∃ a b, xs = [a, b] := by
  match xs, hlen with
  | [a, b], _ => exact ⟨a, b, rfl⟩
 have f0 : DataW.trod enc Tryd.prog W 0 sp held n 3 (([a, b, c].drop 0).take (Tryd.prog.cellsOf 3)) = some y0 := hf 0 _ rfl;have f1 : DataW.trod enc Tryd.prog W 0 sp held n 24 (([a, b, c].drop 1).take (Tryd.prog.cellsOf 24)) = some y1 := hf 1 _ rfl;rw [cells_3] at f0;rw [cells_24] at f1;obtain ⟨z, hz, _, hw⟩ := DataW.trod_int Tryd.underlying3 f0
 obtain rfl : a = .int .i64 z := by simpa using hz
 obtain ⟨v, hv, hd⟩ := openB f1
 have hw : -2 ^ 63 ≤ z ∧ z ≤ 2 ^ 63 - 1 := by simpa [Lit.wf, IntKind.min, IntKind.max, IntKind.signed, IntKind.bits] using hw
 exact ⟨⟨z, v⟩, ⟨[.int .i64 z], [b, c], rfl, rfl, hv⟩, hd, by show -9223372036854775808 ≤ z; omega, by show z ≤ 9223372036854775807; omega⟩
theorem openCellL {fuel : Nat} {c : Value} {x : DataW H × List MemPlace} (hf : DataW.trod enc Tryd.prog W 0 sp held fuel 68 [c] = some x) : ∃ (l3 : List S78) (A3 : Option Addr) (c3 : Nat), c = .slice A3 l3.length c3 ∧ l3.length ≤ c3 ∧ k78.C W A3 l3.length l3 ∧ ∀ v ∈ l3, Dg B32 v.f1.f1 ∧ -9223372036854775808 ≤ v.f0 ∧ v.f0 ≤ 9223372036854775807 := by
  rcases DataW.trod_slice Tryd.underlying68 hf with ⟨hc, _⟩ | ⟨ad, len, cap, elems, rest, n2, hn2, hc, _, _, h1, h2, h3, h4, _⟩
  ·obtain rfl : c = .slice none 0 0 := by simpa using hc
   exact ⟨[], none, 0, rfl, Nat.le_refl _, Kd.C_nil _ W, fun x hx => by cases hx⟩
  ·obtain rfl : c = .slice (some ad) len cap := by simpa using hc
   obtain ⟨f, hff⟩ := Deep.choose_lt (α := S78) (n := len) (p := fun i v => ∃ cs, cs.length = 3 ∧ k78.K W v cs ∧ (∀ j u, cs[j]? = some u → W.cell? (ad.add (i * 3 + j)) = some u) ∧ Dg B32 v.f1.f1 ∧ -9223372036854775808 ≤ v.f0 ∧ v.f0 ≤ 9223372036854775807) (fun i hi => by
    have h5 := h4 i hi;rw [List.getElem?_eq_getElem (by omega)] at h5;obtain ⟨cs', h6, h7⟩ := Option.bind_eq_some_iff.1 h5;rw [cells_78] at h6;obtain ⟨_, h8, h9⟩ := World.cells?_some h6;obtain ⟨v, hv, hg⟩ := openBd h7;refine ⟨v, cs', h8, hv, fun j u hu => ?_, hg⟩
    have hj : j < 3 := by have := (List.getElem?_eq_some_iff.1 hu).1; omega
    rw [← hu, ← h9 j hj, Deep.add_add])
   have hll : ((List.range len).map f).length = len := by simp
   refine ⟨(List.range len).map f, some ad, cap, by rw [hll], by rw [hll]; exact h1, ?_, fun v hv => ?_⟩
   ·rw [hll]
    refine ⟨hll, by unfold maxLen at h2; omega, fun _ => ⟨ad, rfl, fun j p hj => ?_⟩⟩
    have hjl : j < len := by have := (List.getElem?_eq_some_iff.1 hj).1; rw [hll] at this; exact this
    obtain ⟨cs', e1, e2, e3, e4⟩ := hff j hjl
    have : p = f j := by simpa [List.getElem?_range, hjl] using hj.symm
    subst this;exact ⟨cs', e1, e2, e3⟩
   ·obtain ⟨j, hj, rfl⟩ := List.mem_map.1 hv
    obtain ⟨cs', e1, e2, e3, e4⟩ := hff j (List.mem_range.1 hj);exact e4
theorem cv_of {α : Type} {d : Kd α} (hd : Kd.Heap d) {A : Option Addr} {n : Nat} {xs : List α} (h : d.C W A n xs) : Kd.F d W (fun _ => True) A n xs := fun W' hW => hd.C (fun k hk => hW k trivial hk) h
theorem openArgL {b0 : Nat} {v : Value} {d : DataW H} {p : List MemPlace} (hv : Value.okWide Tryd.prog W .any b0 68 v) (h : DataW.Trod enc Tryd.prog W 0 sp held 68 v d p) :
  ∃ s : List S78, Cv k78 (fun _ => True) W v s ∧ ∀ b ∈ s, Dg B32 b.f1.f1 := by
 obtain ⟨a1, len, cap, rfl⟩ := okWide_slice Tryd.underlying68 hv;obtain ⟨fuel, hf⟩ := h;obtain ⟨l3, A3, c3, e, m3, g3, d3⟩ := openCellL (c := .slice a1 len cap) (by simpa [Value.cells] using hf);exact ⟨l3, ⟨A3, c3, e, m3, cv_of k78_heap g3⟩, fun b hb => (d3 b hb).1⟩
end
theorem contract (H : Type) (enc : TypeId × Value → H) (W : World) (base : Nat) (args : Array Value) (ds gs : List (DataW H)) (before : List MemPlace)
  (hval0 : ∀ (j : Nat) t v, Tryd.f7.params[j]? = some t → args[j]? = some v → Value.okWide Tryd.prog W .any base t v)
  (hW : DataW.Whole enc Tryd.prog Tryd.f7.params.toList Rows.linearEvalsSpec.vars false W args.toList ds gs before) (hL : laidMetH Tryd.prog Rows.linearEvalsRow.laid W) :
  Calls Tryd.prog 7 args W fun e W' => ∃ v, e = .returned v ∧ Rows.linearEvalsSpec.post enc Tryd.prog Tryd.f7 false true false false W args v W' := by
 have hval := hval0;have hW' := hW;obtain ⟨p, q, hA0, hV, rfl, hfz, hnd⟩ := hW;have hA : DataW.TrodAll enc Tryd.prog W 0 (fun _ => true) true Tryd.f7.params.toList args.toList ds p := hA0;rw [Tryd.params7] at hA hval;obtain ⟨v0, vs0, d0, ds0, p0, q0, hargs, rfl, rfl, h0, r0⟩ := trodAll_cons hA;obtain ⟨v1, vs1, d1, ds1, p1, q1, rfl, rfl, rfl, h1, r1⟩ := trodAll_cons r0;obtain ⟨rfl, rfl, rfl⟩ := trodAll_nil r1
 obtain rfl : args = #[v0, v1] := by cases args; simp_all
 obtain ⟨rfl, rfl⟩ := trodVars_none hV;have k0 := h0
 have lt0 : ∀ x ∈ p0, x.block < W.heap.size := by obtain ⟨m, hm⟩ := k0; exact DataW.trod_lt m _ _ _ hm
 have k1 := h1
 have lt1 : ∀ x ∈ p1, x.block < W.heap.size := by obtain ⟨m, hm⟩ := k1; exact DataW.trod_lt m _ _ _ hm
 obtain ⟨s0, x0, g0⟩ := openArgT (hval 0 27 v0 rfl rfl) h0;obtain ⟨s1, x1, g1⟩ := openArgL (hval 1 68 v1 rfl rfl) h1;have hT := tabs (W := W) hL;clear hA0 hval0
 refine (law_evals v0 v1 s0 s1 W x0 x1 hT g1 ⟨g0.c, g0.p⟩).mono fun e W' ⟨he, bel⟩ => ?_
 subst he;exact ⟨_, rfl, _, _, _, [], _, [], hW', trodAll_mk1 (shut_bool Tryd.underlying4 _), (trodAll_cons_mk (Below.trod laidOut (by kernel_rfl) (of_decide_eq_true (by kernel_rfl)) k0 bel lt0) (trodAll_cons_mk (Below.trod laidOut (by kernel_rfl) (of_decide_eq_true (by kernel_rfl)) k1 bel lt1) trodAll_mk0)), rfl, bel.frame _, fun h => by cases h⟩
theorem laid_met (os : Os) : laidMet Tryd.prog Rows.linearEvalsRow.laid ((laidWorld os).forCall (fun _ _ => 0) ⟨#[], #[.agg #[.bool false, .slice none 0 0, .slice none 0 0], .slice none 0 0], []⟩).memory :=
 laidMet_of_run' 8 (by kernel_rfl) (by kernel_rfl)
theorem reads (os : Os) {H : Type} (enc : TypeId × Value → H) : ∃ places, DataW.whole enc Tryd.prog ((laidWorld os).forCall (fun _ _ => 0) ⟨#[], #[.agg #[.bool false, .slice none 0 0, .slice none 0 0], .slice none 0 0], []⟩).memory Tryd.f7.params.toList Rows.linearEvalsSpec.vars false (#[.agg #[.bool false, .slice none 0 0, .slice none 0 0], .slice none 0 0] : Array Value).toList 8 = some ([.agg [.agg [.lit (.bool false), .nil], .nil], .nil], [], places) :=
 ⟨[], by kernel_rfl⟩
theorem lifted (os : Os) (started : os.Started) (H : Type) (enc : TypeId × Value → H) (F : Stop.Interp) :
  ReturnsInHanded {} Tryd.checked os 7 .any ((OpenSpec.ofChange Rows.linearEvalsSpec).preRow enc Tryd.prog Tryd.f7 Rows.linearEvalsRow.domain false Rows.linearEvalsRow.laid) (((OpenSpec.ofChange Rows.linearEvalsSpec).at F).post enc Tryd.prog Tryd.f7 false true false false) := by
 obtain ⟨places, hx⟩ := reads os enc
 refine returnsInHanded_of_row (C := Tryd.checked) (s := OpenSpec.ofChange Rows.linearEvalsSpec) own started (by kernel_rfl) Tryd.func7
  (witness_row_atRef (enc := enc) (C := Tryd.checked) false (laidWorld os) #[.agg #[.bool false, .slice none 0 0, .slice none 0 0], .slice none 0 0] rfl (by kernel_rfl) (by kernel_rfl) (by kernel_rfl)
   (OpenSpec.preRow_of_cond 8 hx (by kernel_rfl) (fun k hk => by cases hk) (by kernel_rfl) (laid_met os))) ?_
 intro W base args ds gs before hval hW _ _ _ hL _ _;exact contract H enc W base args ds gs before hval hW hL
theorem said : Rows.LinearEvalsSaid :=
 OpenClaim.holds_of_cond 7 Tryd.f7 rfl rfl rfl rfl rfl rfl rfl ⟨rfl, rfl, rfl, rfl, rfl⟩ rfl rfl rfl rfl rfl (by kernel_rfl) Tryd.func7 (by kernel_rfl)
  (of_decide_eq_true (by kernel_rfl)) (by unfold Func.isWrapper; first | (rw [if_pos (by decide +kernel)]; kernel_rfl) | (rw [if_neg (by decide +kernel)]; exact ⟨rfl, rfl⟩))
  (fun os started H enc _ F => by rw [OpenClaim.pre_eq_preRow]; exact lifted os started H enc F)
theorem plain (f : FuncId) (fn : Func) (hf : Tryd.pinned.checked.prog.funcNamed "whetstone/whetstonelaw11.LinearEvals" = some f) (hfn : Tryd.pinned.checked.prog.funcs[f]? = some fn) :
  false = Tryd.pinned.checked.prog.looks [] ∧ ∀ (j : Nat) t, fn.params[j]? = some t → Tryd.pinned.checked.prog.wantsStandIn t = false := by
 obtain rfl : f = 7 := Option.some.inj ((show Tryd.prog.funcNamed "whetstone/whetstonelaw11.LinearEvals" = some 7 by kernel_rfl).symm.trans hf) |>.symm
 obtain rfl : fn = Tryd.f7 := (Option.some.inj (Tryd.func7.symm.trans hfn)).symm;refine ⟨by kernel_rfl, fun j t ht => ?_⟩;rw [Tryd.params7] at ht
 obtain rfl | rfl : t = 27 ∨ t = 68 := by simpa using Array.mem_of_getElem? ht
 ·exact (show Tryd.prog.wantsStandIn 27 = false by kernel_rfl)
 ·exact (show Tryd.prog.wantsStandIn 68 = false by kernel_rfl)
theorem card : Rows.LinearEvalsCardSaid :=
 Claim7.holds_tied_plain_at .later [] _ _ _ _ said (fun _ h => by cases h) (by kernel_rfl) (fun _ h => by cases h) linearEvals_row_tie rfl ⟨rfl, rfl⟩ (by kernel_rfl) rfl plain (by kernel_rfl)
end Go.Proofs.YthpgjgmaamcaoaaDoor.levals
namespace Go.Proofs.YthpgjgmaamcaoaaDoor
theorem linearEvalsCard_holds : Rows.LinearEvalsCardSaid := levals.card
#print axioms linearEvalsCard_holds
end Go.Proofs.YthpgjgmaamcaoaaDoor
end
