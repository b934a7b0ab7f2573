/- Walks and words of this session, put together by a program of this session (pack.py). Conditions: as each text says. -/
import Derived.Test.YthpgjgmaamcaoaaDoorV4
import Derived.Test.YthpgjgmaamcaoaaDoorV6
set_option linter.unusedVariables false
set_option linter.unusedSimpArgs false
section
namespace Go.Proofs.YthpgjgmaamcaoaaDoor.P
open Go.RowKit Go.Shelf Go.Proofs.YthpgjgmaamcaoaaDoorW.PrintWords Go.Proofs.YthpgjgmaamcaoaaDoorW.PrintLast Go.Proofs.YthpgjgmaamcaoaaDoorW.PrintMore Go.Proofs.YthpgjgmaamcaoaaDoor.Nm
set_option maxRecDepth 100000
set_option linter.unusedVariables false
set_option linter.unusedSimpArgs false
theorem lin_Scale.tab5 : tabOf (opsOf Tryd.f24 5) = ([some 20, some 21, some 22, some 23, some 24, some 25, some 26, some 27, some 28, some 29, some 30, some 31, none], [[], [0], [], [2], [], [4], [], [5, 6], [3, 7], [8], [1, 9, 7], [0, 1, 2, 3, 4, 5, 6, 7, 8, 9, 10], [11, 10, 10, 0, 1, 2, 3, 4, 5, 6, 7, 8, 9, 10]]) := by kernel_rfl
structure SIn (x : TB) : Prop where
 few : x.f1.length ≤ 39
 c : Dg B32 x.f0.f1 ∧ x.f0.f1.length ≤ 400
 p : ∀ p ∈ x.f1, Dg B32 p.f1.f1 ∧ p.f1.f1.length ≤ 400
theorem abs_lt' {x : S24} {k : Nat} (hd : Dg B32 x.f1) (hl : x.f1.length ≤ k) : ((bv x).natAbs : Int) < B32 ^ k := by
 have h1 := val_lt (B := B32) (by decide) hd;have h0 := val_nonneg (B := B32) (by decide) hd;have h2 := pow_mono (B := B32) (by decide) hl
 have : ((bv x).natAbs : Int) = val B32 x.f1 := by unfold bv sg; split <;> omega
 omega
theorem mul_len {x y : S24} (hx : Dg B32 x.f1 ∧ x.f1.length ≤ 400) (hy : Dg B32 y.f1 ∧ y.f1.length ≤ 400) : (can (bv x * bv y)).f1.length ≤ 800 := by
 refine can_len ?_;have h1 := abs_lt' hx.1 hx.2;have h2 := abs_lt' hy.1 hy.2;have hp := pow_pos' (B := B32) (by decide) 400;rw [Int.natAbs_mul, Int.natCast_mul, show (800 : Nat) = 400 + 400 from rfl, Int.pow_add];generalize B32 ^ 400 = K at *;generalize ((bv x).natAbs : Int) = a at *
 have hb : (0 : Int) ≤ ((bv y).natAbs : Int) := by omega
 generalize ((bv y).natAbs : Int) = b at *;have e1 : a * b ≤ K * b := Int.mul_le_mul_of_nonneg_right (by omega) hb;have e2 : K * b < K * K := Int.mul_lt_mul_of_pos_left h2 (by omega)
 omega
def sp (n : Int) (p : S44) : S44 := ⟨p.f0, can (bv p.f1 * n)⟩
set_option maxHeartbeats 3200000 in
theorem lin_Scale (ok : Nat → Prop) (v u : Value) (x : TB) (y : S24) (w0 : World) (hok : ∀ k, w0.heap.size ≤ k → ok k) (h : Kv kTB (fun _ => True) w0 v x) (h' : Kv k24 (fun _ => True) w0 u y) (hx : SIn x) (hy : Dg B32 y.f1 ∧ y.f1.length ≤ 400) :
  Calls Tryd.prog 24 #[v, u] w0 (KPost kTB ok w0 (tt (bv x.f0 * bv y) (LnP.nrm ((psB x.f1).map (fun p => (p.1, p.2 * bv y)))))) := by
 obtain ⟨A, c, B, d, rfl, hk, hp⟩ := h.openTB;obtain ⟨nA, nc, rfl, nl, nF⟩ := h'.openB;have C := Ctx.new (cs := [.bool false, .slice none 0 0, .slice none 0 0]) (t := 27) (Ctx.new (cs := [.bool y.f0, .slice nA y.f1.length nc]) (t := 24) (Ctx.new (cs := [.bool x.f0.f0, .slice A x.f0.f1.length c, .slice B x.f1.length d]) (t := 27) (Ctx.cons (uB w0) (Below.refl _ _) (Ctx.cons (uK k24 (fun _ => True) (.agg #[.bool x.f0.f0, .slice A x.f0.f1.length c]) x.f0) hk (Ctx.cons (uCv k44 (fun k => k < w0.heap.size) x.f1 (.slice B x.f1.length d)) (hp.within (fun k _ h => h)) (Ctx.cons (uK k24 (fun _ => True) (.agg #[.bool y.f0, .slice nA y.f1.length nc]) y) h' Ctx.nil))))));simp only [World.size_alloc] at C;have hx := Sdq.mk hx;have hy := Sdq.mk hy;have hok := Sdq.mk hok
 obtain ⟨rr, hrr⟩ : ∃ rr, rr = tt (bv x.f0 * bv y) (LnP.nrm ((psB x.f1).map (fun p => (p.1, p.2 * bv y)))) := ⟨_, rfl⟩
 rw [← hrr];have HRR := Sdq.mk hrr;clear h h' hk hp hrr nl nF;go_enter Tryd.func24, Tryd.ntmps24
 go_upto_region 1 with fail
 refine absW _ C ?_;clear C;intro w1 C;have y0 := Ctx.blk C.2.2.1 0 rfl;have y1 := Ctx.blk C.2.2.1 1 rfl;have n0 := Ctx.blk C.2.1 0 rfl;have n1 := Ctx.blk C.2.1 1 rfl;have hMl := big_Mul (fun _ => True) (.agg #[.bool x.f0.f0, .slice A x.f0.f1.length c]) (.agg #[.bool y.f0, .slice nA y.f1.length nc]) x.f0 y w1 (fun _ _ => trivial) C.2.2.2.2.1 C.2.2.2.2.2.2.1 ⟨hx.out.c.1, by have := hx.out.c.2; omega⟩ ⟨hy.out.1, by have := hy.out.2; omega⟩;have C := Sdq.mk C
 go_upto_region 2 with (go_at_call 40; refine hMl.mono ?_; rintro e4 w4 ⟨v4, rfl, hv4, hb4⟩; obtain ⟨zA, zc, rfl, -, -⟩ := hv4.openB)
 have hB0 := Sdq.mk (BS.start (x0 := can (bv x.f0 * bv y)) hv4);have C := Sdq.mk (C.out.below hb4);clear hv4 hb4 hMl y0 y1 n0 n1;have y2 := Ctx.blk ((uBlk _ _ _).up _ _ C.out.2.2.1 (bal (Below.refl _ _) (.cells #[.bool (can (bv x.f0 * bv y)).f0, .slice zA (can (bv x.f0 * bv y)).f1.length zc, .slice none 0 0] 27))) 2 rfl
 obtain ⟨cv, ecv⟩ : ∃ cv, cv = can (bv x.f0 * bv y) := ⟨_, rfl⟩
 rw [← ecv] at hB0 y2 ⊢;have hcv := Sdq.mk ecv;clear ecv
 obtain ⟨W5, eW5⟩ : ∃ W5, W5 = w4.alloc (.cells #[.bool cv.f0, .slice zA cv.f1.length zc, .slice none 0 0] 27) := ⟨_, rfl⟩
 rw [← eW5] at hB0 y2 ⊢;clear eW5
 go_wp2_with fail
 clear y2
 obtain ⟨n, en⟩ : ∃ n, n = x.f1.length := ⟨_, rfl⟩
 rw [← en];have hn := Sdq.mk en
 have hn39 : n ≤ 39 := by rw [en]; exact hx.out.few
 clear en
 obtain ⟨go, ego⟩ : ∃ go, go = w4.heap.size := ⟨_, rfl⟩
 rw [← ego];have hgo := Sdq.mk ego;clear ego
 go_loopg [16] n (fun gk s16 wr => ∃ (i : Nat) (pv : Value) (os : List El), gk + i = n ∧ s16 = .int .i64 (i : Int) ∧ Sdq (BS w4 wr cv.f0 zA zc cv pv os ((x.f1.take i).map (sp (bv y)))))
 case atStart => exact ⟨0, _, _, rfl, rfl, hB0⟩
 case round =>
  clear hB0;obtain ⟨i, pv, os, hgi, rfl, hN⟩ := hrel
  cases gk with
  | zero =>
   obtain rfl : i = n := by omega
   obtain ⟨PA, pc, rfl⟩ := hN.out.pvf
   obtain ⟨no, eno0⟩ : ∃ no, no = os.length := ⟨_, rfl⟩
   rw [← eno0] at hN;rw [List.take_of_length_le (by have := hn.out; omega)] at hN;have hC2 := Sdq.mk (And.intro ((uBlk _ _ _).up _ _ C.out.1 hN.out.bel) (below_step C.out.2.2.2.1 hN.out.bel))
   have hNm := lin_Norm (fun k => ok k ∧ k ≠ w0.heap.size + 2) _ _ wr (fun k hk => by
    have h1 := blk_lt (show wr.heap[w0.heap.size + 2]? = _ from hC2.out.1)
    exact ⟨hok.out k (by omega), by omega⟩) (hN.out.kv (by have := hx.out.few; simp; omega)) ⟨by have := hx.out.few; simpa using this, by rw [hcv.out]; exact ⟨can_dg _, Nat.le_trans (mul_len hx.out.c hy.out) (by decide)⟩, fun p hp => by
     obtain ⟨z, _, rfl⟩ := List.mem_map.1 hp
     exact can_dg _, fun p hp => by
     obtain ⟨z, hz, rfl⟩ := List.mem_map.1 hp;have := mul_len (hx.out.p z hz) hy.out
     show (can (bv z.f1 * bv y)).f1.length ≤ 1000
     omega⟩
   have hrr := Sdq.mk (show tt (bv cv) (LnP.nrm (psB (x.f1.map (sp (bv y))))) = rr by
    rw [HRR.out, hcv.out, bv_can]
    congr 2
    unfold psB sp;simp only [List.map_map];refine List.map_congr_left (fun p _ => ?_)
    simp [bv_can])
   dsimp only at hNm
   rw [hrr.out] at hNm;have z0 := Ctx.blk hN.out.blk 0 rfl;have z1 := Ctx.blk hN.out.blk 1 rfl;have z2 := Ctx.blk hN.out.blk 2 rfl;rw [← hgo.out] at z0 z1 z2;clear hN eno0;go_wp2_with (go_at_call 17; refine hNm.mono ?_; rintro e2 w2 ⟨v2, rfl, hv2, hb2⟩; obtain ⟨yA, yc, yB, yd, rfl, -, -⟩ := hv2.openTB; have hC3 := And.intro ((uBlk _ _ _).up _ _ hC2.out.1 hb2) (below_step hC2.out.2 hb2); have E := Sdq.mk (end3 (O := fun k => ok k ∧ k ≠ w0.heap.size + 2) (ok := ok) hC3.1 hC3.2 (by omega) (fun k hk => hk) hv2 _ rfl); have r0 := Ctx.blk hC3.1 0 rfl; have r1 := Ctx.blk hC3.1 1 rfl; have r2 := Ctx.blk hC3.1 2 rfl; have f0 := Ctx.frz hC3.1 0; have f1 := Ctx.frz hC3.1 1; have f2 := Ctx.frz hC3.1 2; clear hC3 hv2 hb2);have E := E.out;clear r0 r1 r2 f0 f1 f2;generalize World.setCell _ _ _ = wf at E ⊢;obtain ⟨EP, e0, e1, e2⟩ := E;exact bodyPost_ret (by first | (simp [results, Tryd.results24, go_sem, e0, e1, e2]; done) | (simp [results, Tryd.results24, go_sem, e0, e1, e2]; rfl)) rfl EP
  | succ j =>
   have hin : i < x.f1.length := by have := hn.out; omega
   obtain ⟨B', d', e1, -, hF⟩ := C.out.2.2.2.2.2.1.below hN.out.bel
   injection e1 with e2 _ e3
   subst e2;subst e3;obtain ⟨ad, e, rfl, x0, x1, x2, hfk⟩ := row_el hF hin;have HP := Sdq.mk (And.intro hgi hin)
   have hin2 : i < n := by omega
   have hst := Sdq.mk (show (x.f1.take (i + 1)).map (sp (bv y)) = (x.f1.take i).map (sp (bv y)) ++ [sp (bv y) x.f1[i]] by rw [List.take_succ_eq_append_getElem hin, List.map_append]; rfl);have hev : e.v = x.f1[i].f0 := (fk_el hfk).1;have hqd := hx.out.p x.f1[i] (List.getElem_mem hin)
   obtain ⟨q, eq⟩ : ∃ q, q = x.f1[i] := ⟨_, rfl⟩
   rw [← eq] at hfk hev hst hqd;have HEV := Sdq.mk hev;clear hev;have hqd := Sdq.mk hqd
   obtain ⟨xs, hxs⟩ : ∃ xs, xs = (x.f1.take i).map (sp (bv y)) := ⟨_, rfl⟩
   rw [← hxs] at hN hst;have hxl := Sdq.mk (show xs.length ≤ 39 by rw [hxs]; simp; omega);have hfk := Sdq.mk hfk;clear hF eq hxs hgi hin
   go_upto_region 5 with fail
   obtain ⟨PA, pc, rfl⟩ := hN.out.pvf
   obtain ⟨no, eno0⟩ : ∃ no, no = os.length := ⟨_, rfl⟩
   rw [← eno0] at hN;have eno := Sdq.mk eno0;clear eno0;have hba : Below wr.heap.size wr (wr.alloc (.cells #[.int .i64 e.v, .bool e.b, .slice e.A e.n e.c] 44)) := bal (Below.refl _ _) _
   have C6 : Ctx [uBlk wr.heap.size [.int .i64 e.v, .bool e.b, .slice e.A e.n e.c] 44, uBS w4 cv.f0 zA zc cv (.slice PA no pc) os xs, ⟨fun W => Kd.FK k44 W (fun k => k < w0.heap.size) q e.cs, fun _ _ h hb => Kd.FK_below h hb⟩, uBlk (w0.heap.size + 1) [.bool y.f0, .slice nA y.f1.length nc] 24, uK k24 (fun _ => True) (.agg #[.bool y.f0, .slice nA y.f1.length nc]) y] (wr.alloc (.cells #[.int .i64 e.v, .bool e.b, .slice e.A e.n e.c] 44)) := ⟨blk_new wr _, (uBS _ _ _ _ _ _ _ _).up _ _ hN.out hba, Kd.FK_below hfk.out hba, (uBlk _ _ _).up _ _ ((uBlk _ _ _).up _ _ C.out.2.1 hN.out.bel) hba, (uK _ _ _ _).up _ _ ((uK _ _ _ _).up _ _ C.out.2.2.2.2.2.2.1 hN.out.bel) hba, trivial⟩
   refine absW _ C6 ?_;clear C6 hN hba hfk x0 x1 x2;generalize wr.heap.size = p6;have hL := Sdq.mk (fun (W : World) (hC : Ctx [uBlk p6 [.int .i64 e.v, .bool e.b, .slice e.A e.n e.c] 44, uBS w4 cv.f0 zA zc cv (.slice PA no pc) os xs, ⟨fun W => Kd.FK k44 W (fun k => k < w0.heap.size) q e.cs, fun _ _ h hb => Kd.FK_below h hb⟩, uBlk (w0.heap.size + 1) [.bool y.f0, .slice nA y.f1.length nc] 24, uK k24 (fun _ => True) (.agg #[.bool y.f0, .slice nA y.f1.length nc]) y] W) => big_Mul (Fo go (.slice PA no pc)) (.agg #[.bool e.b, .slice e.A e.n e.c]) (.agg #[.bool y.f0, .slice nA y.f1.length nc]) q.f1 y W (by rw [hgo.out]; exact hC.2.1.fresh) ((el_kv hC.2.2.1).mono (fun _ _ => trivial)) hC.2.2.2.2.1 ⟨hqd.out.1, by have := hqd.out.2; omega⟩ ⟨hy.out.1, by have := hy.out.2; omega⟩);intro w6 C;refine flowS (m := 10) (n := 13) lin_Scale.tab5 rfl (Ctx _) (Rl [uEq (.pointer (some ⟨go, 2, none⟩)), uEq (.slice PA no pc), uEq (.pointer (some ⟨p6, 0, none⟩)), uEq (.int .i64 e.v), uEq (.pointer (some ⟨p6, 1, none⟩)), uEq (.agg #[.bool e.b, .slice e.A e.n e.c]), uEq (.agg #[.bool y.f0, .slice nA y.f1.length nc]), uKd k24 (Fo go (.slice PA no pc)) (can (bv q.f1 * bv y)), uKd k44 (Fo go (.slice PA no pc)) ⟨q.f0, can (bv q.f1 * bv y)⟩, uBx (Fo go (.slice PA no pc)) ⟨q.f0, can (bv q.f1 * bv y)⟩]) rfl (by kernel_rfl) (by kernel_rfl) (fun _ _ h hb => h.below hb) (Rl.up _) C ⟨⟨⟨⟨⟨⟨⟨⟨⟨⟨trivial, ?_⟩, ?_⟩, ?_⟩, ?_⟩, ?_⟩, ?_⟩, ?_⟩, ?_⟩, ?_⟩, ?_⟩ ?_
   ·refine At.of _ rfl (fun e_ a w hC hd hb K hK => ?_)
    have b5 : a.tmps[5]? = some (.pointer (some ⟨go, 0, none⟩)) := hb 5 (by decide);refine value_ (w1 := w) (v := .pointer (some ⟨go, 2, none⟩)) (by rfl) rfl ?_ (hK.out _ _ (Below.refl _ _) rfl);clear hC hd hb hK hL
    first | (go_simp; done) | (go_simp; rfl)
   ·refine At.of _ rfl (fun e_ a w hC hd hb K hK => ?_)
    have q20 := (hd 0 (by decide)).2 20 rfl;rw [show e_ 0 = _ from (hd 0 (by decide)).1] at q20;have cc2 : w.cell? ⟨w4.heap.size, 2, none⟩ = some (.slice PA no pc) := Ctx.blk hC.2.1.blk 2 rfl;rw [← hgo.out] at cc2;refine value_ (w1 := w) (v := .slice PA no pc) (by rfl) rfl ?_ (hK.out _ _ (Below.refl _ _) rfl);clear hC hd hb hK hL
    first | (go_simp; done) | (go_simp; rfl)
   ·refine At.of _ rfl (fun e_ a w hC hd hb K hK => ?_)
    have b7 : a.tmps[7]? = some (.pointer (some ⟨p6, 0, none⟩)) := hb 7 (by decide);refine value_ (w1 := w) (v := .pointer (some ⟨p6, 0, none⟩)) (by rfl) rfl ?_ (hK.out _ _ (Below.refl _ _) rfl);clear hC hd hb hK hL
    first | (go_simp; done) | (go_simp; rfl)
   ·refine At.of _ rfl (fun e_ a w hC hd hb K hK => ?_)
    have q22 := (hd 2 (by decide)).2 22 rfl;rw [show e_ 2 = _ from (hd 2 (by decide)).1] at q22;have cc0 : w.cell? ⟨p6, 0, none⟩ = some (.int .i64 e.v) := Ctx.blk hC.1 0 rfl;refine value_ (w1 := w) (v := .int .i64 e.v) (by rfl) rfl ?_ (hK.out _ _ (Below.refl _ _) rfl);clear hC hd hb hK hL
    first | (go_simp; done) | (go_simp; rfl)
   ·refine At.of _ rfl (fun e_ a w hC hd hb K hK => ?_)
    have b7 : a.tmps[7]? = some (.pointer (some ⟨p6, 0, none⟩)) := hb 7 (by decide);refine value_ (w1 := w) (v := .pointer (some ⟨p6, 1, none⟩)) (by rfl) rfl ?_ (hK.out _ _ (Below.refl _ _) rfl);clear hC hd hb hK hL
    first | (go_simp; done) | (go_simp; rfl)
   ·refine At.of _ rfl (fun e_ a w hC hd hb K hK => ?_)
    have q24 := (hd 4 (by decide)).2 24 rfl;rw [show e_ 4 = _ from (hd 4 (by decide)).1] at q24;have cc1 : w.cell? ⟨p6, 1, none⟩ = some (.bool e.b) := Ctx.blk hC.1 1 rfl;have cc2 : w.cell? ⟨p6, 2, none⟩ = some (.slice e.A e.n e.c) := Ctx.blk hC.1 2 rfl;refine value_ (w1 := w) (v := .agg #[.bool e.b, .slice e.A e.n e.c]) (by rfl) rfl ?_ (hK.out _ _ (Below.refl _ _) rfl);clear hC hd hb hK hL
    first | (go_simp; done) | (go_simp; rfl)
   ·refine At.of _ rfl (fun e_ a w hC hd hb K hK => ?_)
    have b3 : a.tmps[3]? = some (.pointer (some ⟨w0.heap.size + 1, 0, none⟩)) := hb 3 (by decide);have cc1 : w.cell? ⟨w0.heap.size + 1, 0, none⟩ = some (.bool y.f0) := Ctx.blk hC.2.2.2.1 0 rfl;have cc2 : w.cell? ⟨w0.heap.size + 1, 1, none⟩ = some (.slice nA y.f1.length nc) := Ctx.blk hC.2.2.2.1 1 rfl;refine value_ (w1 := w) (v := .agg #[.bool y.f0, .slice nA y.f1.length nc]) (by rfl) rfl ?_ (hK.out _ _ (Below.refl _ _) rfl);clear hC hd hb hK hL
    first | (go_simp; done) | (go_simp; rfl)
   ·refine At.of _ rfl (fun e_ a w hC hd hb K hK => ?_)
    have q25 := (hd 5 (by decide)).2 25 rfl;rw [show e_ 5 = _ from (hd 5 (by decide)).1] at q25;have q26 := (hd 6 (by decide)).2 26 rfl;rw [show e_ 6 = _ from (hd 6 (by decide)).1] at q26;refine goes_ Tryd.func40 (by kernel_rfl) rfl #[.agg #[.bool e.b, .slice e.A e.n e.c], .agg #[.bool y.f0, .slice nA y.f1.length nc]] (by rfl) rfl rfl (by first | (simp [Act.eval, q25, q26]; done) | (simp [Act.eval, q25, q26]; rfl)) ?_;refine (hL.out w hC).mono ?_;rintro en w' ⟨v, rfl, hv, hb'⟩;exact ⟨v, rfl, hK.out v w' hb' hv⟩
   ·refine At.of _ rfl (fun e_ a w hC hd hb K hK => ?_)
    have q23 := (hd 3 (by decide)).2 23 rfl;rw [show e_ 3 = _ from (hd 3 (by decide)).1] at q23;have q27 := (hd 7 (by decide)).2 27 rfl;obtain ⟨yA, yc, he7, yl, yF⟩ := Kv.openB (hd 7 (by decide)).1;rw [he7] at q27;refine value_ (w1 := w) (v := .agg #[.int .i64 e.v, .bool (can (bv q.f1 * bv y)).f0, .slice yA (can (bv q.f1 * bv y)).f1.length yc]) (by rfl) rfl ?_ (hK.out _ _ (Below.refl _ _) ⟨_, rfl, by rw [HEV.out]; exact k44_mkF w _ ⟨q.f0, can (bv q.f1 * bv y)⟩ yl yF⟩);clear hC hd hb hK hL yl yF he7
    first | (go_simp; done) | (go_simp; rfl)
   ·refine At.of _ rfl (fun e_ a w hC hd hb K hK => ?_)
    have q28 := (hd 8 (by decide)).2 28 rfl;obtain ⟨cs8, he8, hK8⟩ := (hd 8 (by decide)).1;obtain ⟨yA, yc, rfl, yl, yF⟩ := k44_openF hK8;rw [he8] at q28;refine value_ (w1 := w.alloc (.cells (El.cs ⟨q.f0, (can (bv q.f1 * bv y)).f0, yA, (can (bv q.f1 * bv y)).f1.length, yc⟩).toArray 44)) (v := .slice (some ⟨w.heap.size, 0, none⟩) 1 1) (by rfl) rfl ?_ (hK.out _ _ (bal (Below.refl _ _) _) ⟨w.heap.size, _, rfl, blk_new w _, Kd.FK_below hK8 (bal (Below.refl _ _) _)⟩);clear hC hd hb hK hL yl yF he8 hK8;unfold El.cs
    first | (go_simp; done) | (go_simp; rfl)
   ·intro e_ w10 hC hr a ha
    obtain ⟨gb, e', he9, hbx, hK9⟩ := hr.2;have r1 : e_ 1 = .slice PA no pc := hr.1.1.1.1.1.1.1.1.2;simp only [fill, Act.put, r1, he9, Nat.reduceAdd, Nat.reduceLT, decide_true, decide_false, if_true, Bool.false_eq_true, if_false, List.setIfInBounds_toArray, List.set_cons_zero, List.set_cons_succ] at ha;subst ha;clear hr r1 he9 hL;obtain ⟨i0, hi, hzz⟩ := Option.map_eq_some_iff.1 infoP;simp only [Prod.mk.injEq] at hzz;obtain ⟨hz1, hz2, hz3⟩ := hzz;have hHI := Sdq.mk (And.intro hi (And.intro hz1 (And.intro hz2 hz3)));clear hi hz1 hz2 hz3;have hN := Sdq.mk hC.2.1;have hnw := Sdq.mk (bx_news hbx);have hone := Sdq.mk (cs_one1 e');rw [hgo.out] at hK9;have hK := Sdq.mk hK9;have hOL := Sdq.mk (show os.length ≤ 100001 by have := hN.out.len; have := hxl.out; omega);have hs6 := Sdq.mk (show w4.heap.size + 1 ≤ w10.heap.size by have h1 := blk_lt (show w10.heap[w4.heap.size]? = _ from hN.out.blk); omega);clear hC hbx hK9;simp only [List.drop_succ_cons, List.drop_zero]
    go_wp2_with (first
     | ((with_reducible refine gate_builtin (b := .append) (xs := #[.tmp 21, .tmp 29]) rfl ?_); at_builtin; go_loud (refine wpList_append_own_at _ rfl (.tmp 21) (.tmp 29) 25 rfl (w4.heap.size + 1) 44 i0 _ 3 40 undP hHI.out.1 hHI.out.2.1 hHI.out.2.2.1 hHI.out.2.2.2 rfl (by decide) (.slice PA no pc) os.length (os.flatMap El.cs) rfl hN.out.own ⟨gb, 0, none⟩ 1 1 e'.cs rfl rfl hnw.out hone.out (by have := hOL.out; simp only [maxLen]; omega) (by have := hOL.out; omega) hs6.out ?_; intro v1 w11 hown1 hg1 hnil1 hat1; obtain ⟨g1, c1, hv1, -⟩ := ownsRow_slice hown1 (by omega); subst hv1; have hgb := (show (uBlk w4.heap.size _ 27).p w11 from (hg1.block _ (blk_lt (show w10.heap[w4.heap.size]? = _ from hN.out.blk)) hN.out.apart).trans hN.out.blk); have z3 := Ctx.blk hgb 2 rfl; have f3 := Ctx.frz hgb 2; have HNS := Sdq.mk (hN.out.app hK.out hg1 hat1 hown1); rw [← hgo.out] at z3 f3 HNS; clear hgb hown1 hg1 hnil1 hat1)))
    clear z3 f3
    go_roundg j
    case measure => go_light; omega
    case rel => go_light; exact ⟨i + 1, .slice (some ⟨g1, 0, none⟩) (os.length + 1) c1, os ++ [e'], by have := HP.out; omega, by go_num, ⟨by rw [hst.out]; exact HNS.out⟩⟩
end Go.Proofs.YthpgjgmaamcaoaaDoor.P
end
section
namespace Go.Proofs.YthpgjgmaamcaoaaDoor.P
open Go.RowKit Go.Proofs.YthpgjgmaamcaoaaDoorW.PrintWords
section
variable {P : Program} {ops : Array Oper} {Q : Exit → Act → World → Prop}
def StepD (P : Program) (ops : Array Oper) (Q : Exit → Act → World → Prop) (a0 : Act) (C : World → Prop) (R : (Nat → Value) → Nat → Value → World → Prop) (i : Nat) : Prop :=
 ∀ o, ops[i]? = some o → ∀ (e : Nat → Value) (a : Act) (w : World), C w → (∀ x ∈ o.after, Region.binds .any x = true → R e x.on (e x.on) w ∧ ∀ t, (ops[x.on]?).bind (·.dst) = some t → a.tmps[t]? = some (e x.on)) →
  (∀ t, some t ∉ dsts ops → a.tmps[t]? = a0.tmps[t]?) → ∀ K : Act → World → Prop, (∀ v w', Below w.heap.size w w' → R e i v w' → K (a.put o.dst v) w') →
  if Region.wanted o (yielded ops a.tmps) = true then Oper.wp P o a w K Q else K (a.put o.dst undef) w
def FID (ops : Array Oper) (a0 : Act) (C : World → Prop) (R : (Nat → Value) → Nat → Value → World → Prop) (l : Array Bool) (a : Act) (w : World) : Prop :=
 l.size = ops.size ∧ Closed ops l ∧ C w ∧ ∃ e, a = fill (dsts ops) 0 e (lf l) a0 ∧ ∀ j, lf l j = true → R e j (e j) w
variable {a0 : Act} {C : World → Prop} {R : (Nat → Value) → Nat → Value → World → Prop}
theorem fid_step (hA : apart (dsts ops) = true) (hT : ∀ t, some t ∈ dsts ops → t < a0.tmps.size) (hC : ∀ w w', C w → Below w.heap.size w w' → C w') (hR : ∀ e j v w w', R e j v w → Below w.heap.size w w' → R e j v w') (hdep : ∀ i, i < ops.size → ∀ e e' : Nat → Value, (∀ j, j ∈ waits ops i → e j = e' j) → ∀ v w, R e i v w → R e' i v w)
  (hE : early ops = true) {l : Array Bool} {a : Act} {w : World} {i : Nat} (hI : FID ops a0 C R l a w) (hi : i ∈ Region.ready .any ops l) (hS : StepD P ops Q a0 C R i) {K : Act → World → Prop} (hK : ∀ a' w', FID ops a0 C R (l.setIfInBounds i true) a' w' → K a' w') : wpOp P ops Q i K a w := by
 obtain ⟨hs, hc, hCw, e, rfl, hr⟩ := hI;obtain ⟨o, ho, hli, hisz, hw⟩ := ready_mem hi hs;refine wpOp_step ho (fun K' hK' => ?_);refine hS o ho e _ w hCw (fun x hx hb => ⟨hr _ (hw x hx hb), fun t ht => ?_⟩) (fun t ht => fill_other _ 0 a0 ht) K' (fun v w' hb hv => hK' _ _ (hK _ _ ?_))
 ·cases hox : ops[x.on]? with
  | none => rw [hox] at ht; simp at ht
  | some y =>
   rw [hox] at ht;have hd := dst_at hox;rw [show y.dst = some t from ht] at hd;have := fill_at (e := e) (l := lf l) (dsts ops) 0 x.on a0 hA hd (by rw [Nat.zero_add]; exact hw x hx hb) (hT t (List.mem_of_getElem? hd));rw [Nat.zero_add] at this;exact this
 ·refine ⟨by simp [hs], ?_, hC _ _ hCw hb, fun j => if j = i then v else e j, ?_, fun j hj => ?_⟩
  ·intro k hk x hx
   rw [lf_set hisz] at hk ⊢
   dsimp only at hk ⊢
   by_cases hxi : x = i
   ·rw [if_pos hxi]
   ·rw [if_neg hxi]
    by_cases hki : k = i
    ·subst hki
     obtain ⟨o', ho', y, hy, hyb, rfl⟩ := waits_mem hx;obtain rfl := Option.some.inj (ho.symm.trans ho');exact hw y hy hyb
    ·rw [if_neg hki] at hk
     exact hc k hk x hx
  ·rw [lf_set hisz]
   have := fill_set (e := e) (l := lf l) (v := v) (dsts ops) 0 i a0 o.dst hA (dst_at ho) (by rw [Nat.zero_add]; exact hli)
   simpa using this
  ·have hdj : ∀ j, lf l j = true ∨ j = i → ∀ y, y ∈ waits ops j → (if y = i then v else e y) = e y := fun j hj y hy => by
    refine if_neg (fun hyi => ?_);rw [hyi] at hy
    rcases hj with hj | hj
    ·have := hc j hj i hy
     rw [hli] at this;cases this
    ·rw [hj] at hy
     obtain ⟨o', ho', z, hz, hzb, hzz⟩ := waits_mem hy;obtain rfl := Option.some.inj (ho.symm.trans ho');have h1 := List.all_eq_true.1 hE i (List.mem_range.2 (Array.getElem?_eq_some_iff.1 ho).1);rw [ho] at h1;simp only [Option.map_some, Option.getD_some] at h1;have h2 := Array.all_eq_true'.1 h1 z hz;simp only [hzb, Bool.not_true, Bool.false_or, decide_eq_true_eq] at h2
     omega
   rw [lf_set hisz] at hj
   dsimp only at hj
   by_cases hji : j = i
   ·subst hji
    refine hdep j (Array.getElem?_eq_some_iff.1 ho).1 e _ (fun y hy => (hdj j (.inr rfl) y hy).symm) _ _ ?_
    simpa using hv
   ·rw [if_neg hji] at hj
    have hjn : j < ops.size := by
     refine Classical.byContradiction fun hge => ?_
     unfold lf at hj;rw [Array.getD_eq_getD_getElem?, Array.getElem?_eq_none (by omega)] at hj;cases hj
    have h3 := hdep j hjn e (fun j => if j = i then v else e j) (fun y hy => (hdj j (.inl hj) y hy).symm) _ _ (hR e j _ _ _ (hr j hj) hb)
    simpa [hji] using h3
theorem fid_start {w0 : World} (h : C w0) : FID ops a0 C R (Array.replicate ops.size false) a0 w0 := by
 have hl : ∀ j, lf (Array.replicate ops.size false) j = false := fun j => by
  unfold lf;rw [Array.getD_eq_getD_getElem?];rw [Array.getElem?_replicate]
  split <;> rfl
 refine ⟨by simp, fun k hk => ?_, h, fun _ => undef, ?_, fun j hj => ?_⟩
 ·rw [hl] at hk; cases hk
 ·have : ∀ (D : List (Option Tmp)) (k : Nat), fill D k (fun _ => undef) (lf (Array.replicate ops.size false)) a0 = a0 := fun D => by
   induction D with
   | nil => intro _; rfl
   | cons d D ih => intro k; simp only [fill, hl, Bool.false_eq_true, if_false]; exact ih _
  rw [this]
 ·rw [hl] at hj; cases hj
theorem flowD_seq {m : Nat} (hmn : m < ops.size) (hM : (List.range m).all (marks ops m (waits ops m)).contains = true) (hCh : ∀ t, m < t → t < ops.size → (waits ops t).contains (t - 1) = true) (hSq : Region.seqB .any ops (ops.size - m) m (headArr ops.size m) = true) (hE : early ops = true) (hA : apart (dsts ops) = true) (hT : ∀ t, some t ∈ dsts ops → t < a0.tmps.size) (hC : ∀ w w', C w → Below w.heap.size w w' → C w') (hR : ∀ e j v w w', R e j v w → Below w.heap.size w w' → R e j v w') (hdep : ∀ i, i < ops.size → ∀ e e' : Nat → Value, (∀ j, j ∈ waits ops i → e j = e' j) → ∀ v w, R e i v w → R e' i v w)
  (hS : ∀ i, i < m → StepD P ops Q a0 C R i) (hQ : ∀ e w, C w → (∀ j, j < m → R e j (e j) w) → ∀ a, a = fill (dsts ops) 0 e (fun j => decide (j < m)) a0 → wpList P ops Q (ops.toList.drop m) a w) :
  ∀ fuel l a w, FID ops a0 C R l a w → (∀ t, m ≤ t → lf l t = false) → cnt (lf l) ops.size = fuel → wpAny P .any ops Q fuel l a w := by
 intro fuel
 induction fuel with
 | zero =>
  intro l a w hI hl hn;have := cnt_pos (hl m (Nat.le_refl _)) ops.size hmn
  omega
 | succ fuel ih =>
  intro l a w hI hl hn;by_cases hall : ∀ j, j < m → lf l j = true
  ·obtain ⟨hs, hc, hCw, e, rfl, hr⟩ := hI
   have hlh : ∀ j, j < ops.size → lf l j = decide (j < m) := fun j _ => by
    by_cases hj : j < m
    ·rw [hall j hj]; simp [hj]
    ·rw [hl j (by omega)]; simp [hj]
   have hle := head_eq hs hlh;have hcn := cnt_head ops.size hlh;rw [hcn] at hn
   have hlen : (ops.toList.drop m).length = fuel + 1 := by rw [List.length_drop, Array.length_toList]; exact hn
   rw [← hlen];refine wpAny_of_seq (ops.toList.drop m) m l _ w (fun j => by rw [List.getElem?_drop, Array.getElem?_toList]) (by rw [hlen, hle, ← hn]; exact hSq) ?_;exact hQ e w hCw (fun j hj => hr j (hall j hj)) _ (fill_congr _ 0 a0 (fun j _ hj => ⟨hlh j (by simpa [dsts] using hj), fun _ => rfl⟩))
  ·refine ⟨fun hr => ?_, fun i hi => ?_⟩
   ·have := ready_nil hr hE hI.1 m hmn
    rw [hl m (Nat.le_refl _)] at this;cases this
   ·obtain ⟨o, ho, hli, hisz, hw⟩ := ready_mem hi hI.1
    have hnx := cnt_next hi hI.1;have hilt := (Array.getElem?_eq_some_iff.1 ho).1
    have hwl : ∀ x, x ∈ waits ops i → lf l x = true := fun x hx => by
     obtain ⟨o', ho', y, hy, hyb, rfl⟩ := waits_mem hx;obtain rfl := Option.some.inj (ho.symm.trans ho');exact hw y hy hyb
    have him : i < m := by
     refine Classical.byContradiction fun hge => ?_
     by_cases e : i = m
     ·subst e
      exact hall (fun j hj => marks_listed hI.2.1 i _ hwl j (by simpa using List.all_eq_true.1 hM j (List.mem_range.2 hj)))
     ·have h1 := hwl (i - 1) (by simpa using hCh i (by omega) hilt)
      rw [hl (i - 1) (by omega)] at h1;cases h1
    refine fid_step hA hT hC hR hdep hE hI hi (hS i him) (fun a' w' hI' => ih _ a' w' hI' (fun t ht => ?_) (by omega));rw [lf_set hisz]
    dsimp only
    rw [if_neg (by omega)];exact hl t ht
def AtD (P : Program) (ops : Array Oper) (Q : Exit → Act → World → Prop) (D : List (Option Tmp)) (W : List (List Nat)) (a0 : Act) (C : World → Prop) (R : (Nat → Value) → Nat → Value → World → Prop) (i : Nat) : Prop :=
 ∀ (e : Nat → Value) (a : Act) (w : World), C w → (∀ j, j ∈ W.getD i [] → R e j (e j) w ∧ ∀ t, D[j]? = some (some t) → a.tmps[t]? = some (e j)) → (∀ t, some t ∉ D → a.tmps[t]? = a0.tmps[t]?) →
  ∀ K : Act → World → Prop, Sdq (∀ v w', Below w.heap.size w w' → R e i v w' → K (a.put (D.getD i none) v) w') →
  match ops[i]? with
  | some o => if Region.wanted o (yielded ops a.tmps) = true then Oper.wp P o a w K Q else K (a.put (D.getD i none) undef) w
  | none => True
theorem stepd_at {D : List (Option Tmp)} {W : List (List Nat)} (h : tabOf ops = (D, W)) {i : Nat} (hs : AtD P ops Q D W a0 C R i) : StepD P ops Q a0 C R i := by
 intro o ho e a w hC hd hb K hK;have hD : dsts ops = D := congrArg Prod.fst h;have hi := (Array.getElem?_eq_some_iff.1 ho).1;have := hs e a w hC (fun j hj => ?_) (fun t ht => hb t (by rw [hD]; exact ht)) K ⟨fun v w' h1 h2 => by rw [dst_tab h ho]; exact hK v w' h1 h2⟩
 ·rw [ho, dst_tab h ho] at this
  exact this
 ·rw [waits_tab h i hi] at hj
  obtain ⟨o', ho', y, hy, hyb, rfl⟩ := waits_mem hj;obtain rfl := Option.some.inj (ho.symm.trans ho');obtain ⟨h1, h2⟩ := hd y hy hyb;refine ⟨h1, fun t ht => h2 t ?_⟩
  cases hy2 : ops[y.on]? with
  | none =>
   rw [← hD] at ht;unfold dsts at ht;rw [List.getElem?_map, Array.getElem?_toList, hy2] at ht
   simp at ht
  | some oy =>
   have := dst_at hy2;rw [hD, ht] at this
   simpa using (Option.some.inj this).symm
theorem flowD {id m n : Nat} {w0 : World} {D : List (Option Tmp)} {W : List (List Nat)} (h : tabOf ops = (D, W)) (hn : ops.size = n) (C : World → Prop) (R : (Nat → Value) → Nat → Value → World → Prop) (hm : P.follows .mixedOrders = true)
  (hc : (earlyW W && apart D && D.all (fun d => (d.map fun t => decide (t < a0.tmps.size)).getD true) && (List.range m).all (marksW W m (W.getD m [])).contains && (List.range n).all (fun t => decide (t ≤ m) || (W.getD t []).contains (t - 1)) && decide (m < n)) = true) (hSq : Region.seqB .any ops (n - m) m (headArr n m) = true)
  (hC : ∀ w w', C w → Below w.heap.size w w' → C w') (hR : ∀ e j v w w', R e j v w → Below w.heap.size w w' → R e j v w') (hdep : ∀ i, i < n → ∀ e e' : Nat → Value, (∀ j, j ∈ W.getD i [] → e j = e' j) → ∀ v w, R e i v w → R e' i v w) (h0 : C w0)
  (hS : Steps (AtD P ops Q D W a0 C R) m) (hQ : ∀ e w, C w → Steps (fun j => R e j (e j) w) m → ∀ a, a = fill D 0 e (fun j => decide (j < m)) a0 → wpList P ops Q (ops.toList.drop m) a w) : (Code.region id ops true).wp P Q a0 w0 := by
 subst hn;simp only [Bool.and_eq_true, decide_eq_true_eq] at hc;have hD : dsts ops = D := congrArg Prod.fst h;refine wp_region_any hm (flowD_seq hc.2 (by rw [marks_tab h m _ (by omega), ← waits_tab h m hc.2]; exact hc.1.1.2) (fun t h1 h2 => ?_) hSq (early_tab h hc.1.1.1.1.1) (by rw [hD]; exact hc.1.1.1.1.2) (by rw [hD]; exact fun t ht => by have := List.all_eq_true.1 hc.1.1.1.2 _ ht; simpa using this) hC hR (fun i hi e e' he => hdep i hi e e' (fun j hj => he j (by rw [waits_tab h i hi] at hj; exact hj))) (fun i hi => stepd_at h (hS.all i hi)) (fun e w hCw hr a ha => ?_) _ _ _ _ (fid_start (hC _ _ h0 (below_drew (Below.refl _ _)))) (fun t _ => ?_) (cnt_none _ (fun j _ => ?_)))
 ·have := List.all_eq_true.1 hc.1.2 t (List.mem_range.2 h2)
  simp only [Bool.or_eq_true, decide_eq_true_eq] at this;rw [← waits_tab h t h2];exact this.resolve_left (by omega)
 ·rw [hD] at ha
  refine hQ e w hCw ?_ a ha
  have hall : ∀ n, n ≤ m → Steps (fun j => R e j (e j) w) n := fun n => by
   induction n with
   | zero => intro _; trivial
   | succ n ih => intro hn; exact ⟨ih (by omega), hr n (by omega)⟩
  exact hall _ (Nat.le_refl _)
 ·unfold lf; rw [Array.getD_eq_getD_getElem?, Array.getElem?_replicate]; split <;> rfl
 ·unfold lf; rw [Array.getD_eq_getD_getElem?, Array.getElem?_replicate]; split <;> rfl
theorem AtD.of {D : List (Option Tmp)} {W : List (List Nat)} {i : Nat} (o : Oper) (ho : ops[i]? = some o) (h : ∀ (e : Nat → Value) (a : Act) (w : World), C w → (∀ j, j ∈ W.getD i [] → R e j (e j) w ∧ ∀ t, D[j]? = some (some t) → a.tmps[t]? = some (e j)) → (∀ t, some t ∉ D → a.tmps[t]? = a0.tmps[t]?) →
  ∀ K : Act → World → Prop, Sdq (∀ v w', Below w.heap.size w w' → R e i v w' → K (a.put (D.getD i none) v) w') → if Region.wanted o (yielded ops a.tmps) = true then Oper.wp P o a w K Q else K (a.put (D.getD i none) undef) w) : AtD P ops Q D W a0 C R i := by
 intro e a w h1 h2 h3 K h4;rw [ho];exact h e a w h1 h2 h3 K h4
end
end Go.Proofs.YthpgjgmaamcaoaaDoor.P
end
section
namespace Go.Proofs.YthpgjgmaamcaoaaDoor.P
open Go.RowKit Go.Shelf Go.Proofs.YthpgjgmaamcaoaaDoorW.PrintWords Go.Proofs.YthpgjgmaamcaoaaDoorW.PrintLast Go.Proofs.YthpgjgmaamcaoaaDoorW.PrintMore Go.Proofs.YthpgjgmaamcaoaaDoor.Nm
set_option maxRecDepth 100000
set_option linter.unusedVariables false
set_option linter.unusedSimpArgs false
theorem lin_Add.tab1 : tabOf (opsOf Tryd.f18 1) = ([some 5, some 6, some 7, some 8, some 9, some 10, some 11, some 12, some 13, some 14, some 15, some 16, some 17, none], [[], [0], [], [2], [1, 3], [], [5], [6, 4], [], [8], [7, 9, 7], [4, 10], [11, 10], [12, 12, 0, 1, 2, 3, 4, 5, 6, 7, 8, 9, 10, 11, 12]]) := by kernel_rfl
theorem wpl_append_opt {P : Program} {ops : Array Oper} {rest : List Oper} {o : Oper} {a : Act} {Q : Exit → Act → World → Prop} {W : World} (hgd : o.guard = none) (s x : Operand) (t e : TypeId) (i0 : TypeInfo) (z : Value) (bytes : Nat)
  (ho : o.op = .call { callee := .builtin .append, args := #[s, x], argTypes := #[t, t] }) (ht : P.underlying t = some (.slice e)) (hi : P.info? e = some i0) (hz0 : i0.zero = some z) (hz1 : i0.size = 3) (hz2 : i0.bytes = bytes) (hz : z.cells.size = 3)
  (v : Value) (n : Nat) (xs : List Value) (A : Option Addr) (m c : Nat) (news : List Value) (hs : a.eval s = v) (hx : a.eval x = .slice A m c) (base : Nat) (hown : W.ownsRow base e 3 v n xs) (hl : news.length = m * 3)
  (hnews : ∀ ad, A = some ad → ∀ j u, news[j]? = some u → W.cell? (ad.add j) = some u) (hA : A = none → m = 0) (h1 : ∀ u ∈ news, u.oneCell' = true) (h63 : n + m ≤ maxLen) (hbytes : (n + m) * bytes ≤ 140737488355328) (hbase : base ≤ W.heap.size)
  (h : ∀ v' w', w'.ownsRow base e 3 v' (n + m) (xs ++ news) → W.grownBy w' v.ownBlock → wpList P ops Q rest (a.put o.dst v') w') : wpList P ops Q (o :: rest) a W := by
 have hrun : ∃ v1 w1, (Builtin.append_ #[t, t] o.type #[v, .slice A m c]).run P W = .ok v1 w1 ∧ w1.ownsRow base e 3 v1 (n + m) (xs ++ news) ∧ W.grownBy w1 v.ownBlock := by
  rcases A with _ | ad
  ·have h0 := hA rfl
   subst h0;obtain rfl : news = [] := List.eq_nil_of_length_eq_zero (by omega);refine ⟨v, W, ?_, by rw [List.append_nil]; exact hown, World.grownBy.refl W _⟩
   rcases hown.2 with ⟨rfl, hn⟩ | ⟨g, cap, cur, rfl, _, _, hnc, _⟩
   ·simp [Builtin.append_, run_underlying ht, sizeOf, typeInfo, hi, Builtin.lenOf, Builtin.firstCells]
   ·simp [Builtin.append_, run_underlying ht, sizeOf, typeInfo, hi, Builtin.lenOf, Builtin.firstCells, hnc, storeCells]
  ·obtain ⟨v1, w1, hrun, h2, hg, _, _⟩ := run_append_own_at (P := P) W base t o.type e i0 z 3 bytes ht hi hz0 hz1 hz2 hz (by decide) v n xs hown ad m c news hl (hnews ad rfl) h1 h63 hbytes hbase
   exact ⟨v1, w1, hrun, h2, hg⟩
 obtain ⟨v1, w1, hr, h2, h3⟩ := hrun
 refine wpList_plain hgd fun K hK => ?_
 unfold Oper.wp execOp;simp only [ho, resolve, invoke, builtin, Sem.run_bind, Sem.run_pure, Result.andThen_ok, List.map_toArray, List.map_cons, List.map_nil, hs, hx, hr];exact hK _ _ (h v1 w1 h2 h3)
def uClone (b : Nat) (xs : List S44) (c : S24) (z v : Value) : UpP := ⟨fun W => ∃ ps : PE, ps.map Prod.fst = xs ∧ Rp (fun k => k < b) W ps ∧ ∃ base, b < base ∧ base ≤ W.heap.size ∧ W.ownsRow base 44 3 v ps.length ((ps.map Prod.snd).flatMap El.cs) ∧ Kv k24 (fun k => k < base) W z c, fun W W' h hb => by
 obtain ⟨ps, h1, h2, base, h3, h4, h5, h6⟩ := h
 exact ⟨ps, h1, h2.below hb, base, h3, Nat.le_trans h4 hb.size, ownsRow_below h5 hb, h6.below hb⟩⟩
def RlD (l : List ((Nat → Value) → Value → UpP)) (e : Nat → Value) (j : Nat) (v : Value) (w : World) : Prop := match l[j]? with
 | some u => (u e v).p w
 | none => True
theorem RlD.up (l : List ((Nat → Value) → Value → UpP)) (e : Nat → Value) (j : Nat) (v : Value) (w w' : World) (h : RlD l e j v w) (hb : Below w.heap.size w w') : RlD l e j v w' := by
 unfold RlD at *
 split
 ·rename_i u hu
  rw [hu] at h;exact (u e v).up w w' h hb
 ·trivial
theorem row_form {W : World} {base n : Nat} {v : Value} {inner : List Value} (h : W.ownsRow base 44 3 v n inner) : ∃ LA lc, v = .slice LA n lc := by
 rcases h.2 with ⟨rfl, rfl⟩ | ⟨g, cap, cur, rfl, _⟩
 ·exact ⟨_, _, rfl⟩
 ·exact ⟨_, _, rfl⟩
set_option maxHeartbeats 3200000 in
theorem lin_Add (ok : Nat → Prop) (v u : Value) (x y : TB) (w0 : World) (hok : ∀ k, w0.heap.size ≤ k → ok k) (h : Kv kTB (fun _ => True) w0 v x) (h' : Kv kTB (fun _ => True) w0 u y) (hx : NIn x) (hy : NIn y) (hxy : x.f1.length + y.f1.length ≤ 39) (hcc : Big (can (bv x.f0 + bv y.f0))) :
  Calls Tryd.prog 18 #[v, u] w0 (KPost kTB ok w0 (tt (bv x.f0 + bv y.f0) (LnP.nrm (psB x.f1 ++ psB y.f1)))) := by
 obtain ⟨A, c, B, d, rfl, hk, hp⟩ := h.openTB;obtain ⟨A2, c2, B2, d2, rfl, hk2, hp2⟩ := h'.openTB;have C := Ctx.new (cs := [.bool false, .slice none 0 0, .slice none 0 0]) (t := 27) (Ctx.new (cs := [.bool y.f0.f0, .slice A2 y.f0.f1.length c2, .slice B2 y.f1.length d2]) (t := 27) (Ctx.new (cs := [.bool x.f0.f0, .slice A x.f0.f1.length c, .slice B x.f1.length d]) (t := 27) (Ctx.cons (uB w0) (Below.refl _ _) (Ctx.cons (uK k24 (fun _ => True) (.agg #[.bool x.f0.f0, .slice A x.f0.f1.length c]) x.f0) hk (Ctx.cons (uK k24 (fun _ => True) (.agg #[.bool y.f0.f0, .slice A2 y.f0.f1.length c2]) y.f0) hk2 (Ctx.cons (uCv k44 (fun k => k < w0.heap.size) x.f1 (.slice B x.f1.length d)) (hp.within (fun k _ h => h)) (Ctx.cons (uCv k44 (fun k => k < w0.heap.size) y.f1 (.slice B2 y.f1.length d2)) (hp2.within (fun k _ h => h)) Ctx.nil)))))));simp only [World.size_alloc] at C;have hx := Sdq.mk hx;have hy := Sdq.mk hy;have hok := Sdq.mk hok;have hxy := Sdq.mk hxy;have hcc := Sdq.mk hcc
 obtain ⟨rr, hrr⟩ : ∃ rr, rr = tt (bv x.f0 + bv y.f0) (LnP.nrm (psB x.f1 ++ psB y.f1)) := ⟨_, rfl⟩
 rw [← hrr];have HRR := Sdq.mk hrr;clear h h' hk hp hk2 hp2 hrr;go_enter Tryd.func18, Tryd.ntmps18
 go_upto_region 1 with fail
 refine absW _ C ?_;clear C;intro w1 C;refine flowD (m := 10) (n := 14) lin_Add.tab1 rfl (Ctx _) (RlD [fun _ => uEq (.pointer (some ⟨w0.heap.size, 0, none⟩)), fun _ => uEq (.agg #[.bool x.f0.f0, .slice A x.f0.f1.length c]), fun _ => uEq (.pointer (some ⟨w0.heap.size + 1, 0, none⟩)), fun _ => uEq (.agg #[.bool y.f0.f0, .slice A2 y.f0.f1.length c2]), fun _ => uKd k24 (fun k => w0.heap.size + 2 < k) (can (bv x.f0 + bv y.f0)), fun _ => uEq (.pointer (some ⟨w0.heap.size, 2, none⟩)), fun _ => uEq (.slice B x.f1.length d), fun e => uClone (w0.heap.size + 2) x.f1 (can (bv x.f0 + bv y.f0)) (e 4), fun _ => uEq (.pointer (some ⟨w0.heap.size + 1, 2, none⟩)), fun _ => uEq (.slice B2 y.f1.length d2)]) rfl (by kernel_rfl) (by kernel_rfl) (fun _ _ h hb => h.below hb) (RlD.up _) ?_ C ⟨⟨⟨⟨⟨⟨⟨⟨⟨⟨trivial, ?_⟩, ?_⟩, ?_⟩, ?_⟩, ?_⟩, ?_⟩, ?_⟩, ?_⟩, ?_⟩, ?_⟩ ?_
 ·intro i hi e e' he v w h
  have h14 : i = 0 ∨ i = 1 ∨ i = 2 ∨ i = 3 ∨ i = 4 ∨ i = 5 ∨ i = 6 ∨ i = 7 ∨ i = 8 ∨ i = 9 ∨ i = 10 ∨ i = 11 ∨ i = 12 ∨ i = 13 := by omega
  rcases h14 with rfl | rfl | rfl | rfl | rfl | rfl | rfl | rfl | rfl | rfl | rfl | rfl | rfl | rfl
  all_goals first | exact h | (have h4 := he 4 (by decide); show (uClone _ _ _ (e' 4) v).p w; rw [← h4]; exact h)
 ·refine AtD.of _ rfl (fun e_ a w hC hd hb K hK => ?_)
  have b2 : a.tmps[2]? = some (.pointer (some ⟨w0.heap.size, 0, none⟩)) := hb 2 (by decide);refine value_ (w1 := w) (v := .pointer (some ⟨w0.heap.size, 0, none⟩)) (by rfl) rfl ?_ (hK.out _ _ (Below.refl _ _) rfl);clear hC hd hb hK
  first | (go_simp; done) | (go_simp; rfl)
 ·refine AtD.of _ rfl (fun e_ a w hC hd hb K hK => ?_)
  have q5 := (hd 0 (by decide)).2 5 rfl;rw [show e_ 0 = _ from (hd 0 (by decide)).1] at q5;have cc0 : w.cell? ⟨w0.heap.size, 0, none⟩ = some (.bool x.f0.f0) := Ctx.blk hC.2.2.1 0 rfl;have cc1 : w.cell? ⟨w0.heap.size, 1, none⟩ = some (.slice A x.f0.f1.length c) := Ctx.blk hC.2.2.1 1 rfl;refine value_ (w1 := w) (v := .agg #[.bool x.f0.f0, .slice A x.f0.f1.length c]) (by rfl) rfl ?_ (hK.out _ _ (Below.refl _ _) rfl);clear hC hd hb hK
  first | (go_simp; done) | (go_simp; rfl)
 ·refine AtD.of _ rfl (fun e_ a w hC hd hb K hK => ?_)
  have b3 : a.tmps[3]? = some (.pointer (some ⟨w0.heap.size + 1, 0, none⟩)) := hb 3 (by decide);refine value_ (w1 := w) (v := .pointer (some ⟨w0.heap.size + 1, 0, none⟩)) (by rfl) rfl ?_ (hK.out _ _ (Below.refl _ _) rfl);clear hC hd hb hK
  first | (go_simp; done) | (go_simp; rfl)
 ·refine AtD.of _ rfl (fun e_ a w hC hd hb K hK => ?_)
  have q7 := (hd 2 (by decide)).2 7 rfl;rw [show e_ 2 = _ from (hd 2 (by decide)).1] at q7;have cc0 : w.cell? ⟨w0.heap.size + 1, 0, none⟩ = some (.bool y.f0.f0) := Ctx.blk hC.2.1 0 rfl;have cc1 : w.cell? ⟨w0.heap.size + 1, 1, none⟩ = some (.slice A2 y.f0.f1.length c2) := Ctx.blk hC.2.1 1 rfl;refine value_ (w1 := w) (v := .agg #[.bool y.f0.f0, .slice A2 y.f0.f1.length c2]) (by rfl) rfl ?_ (hK.out _ _ (Below.refl _ _) rfl);clear hC hd hb hK
  first | (go_simp; done) | (go_simp; rfl)
 ·refine AtD.of _ rfl (fun e_ a w hC hd hb K hK => ?_)
  have q6 := (hd 1 (by decide)).2 6 rfl;rw [show e_ 1 = _ from (hd 1 (by decide)).1] at q6;have q8 := (hd 3 (by decide)).2 8 rfl;rw [show e_ 3 = _ from (hd 3 (by decide)).1] at q8;refine goes_ Tryd.func38 (by kernel_rfl) rfl #[.agg #[.bool x.f0.f0, .slice A x.f0.f1.length c], .agg #[.bool y.f0.f0, .slice A2 y.f0.f1.length c2]] (by rfl) rfl rfl (by first | (simp [Act.eval, q6, q8]; done) | (simp [Act.eval, q6, q8]; rfl)) ?_;refine (big_Add (fun k => w0.heap.size + 2 < k) _ _ x.f0 y.f0 w (fun k hk => by have := blk_lt (show w.heap[w0.heap.size + 2]? = _ from hC.1); omega) hC.2.2.2.2.1 hC.2.2.2.2.2.1 hx.out.c hy.out.c).mono ?_;rintro en w' ⟨v, rfl, hv, hb'⟩;exact ⟨v, rfl, hK.out v w' hb' hv⟩
 ·refine AtD.of _ rfl (fun e_ a w hC hd hb K hK => ?_)
  have b2 : a.tmps[2]? = some (.pointer (some ⟨w0.heap.size, 0, none⟩)) := hb 2 (by decide);refine value_ (w1 := w) (v := .pointer (some ⟨w0.heap.size, 2, none⟩)) (by rfl) rfl ?_ (hK.out _ _ (Below.refl _ _) rfl);clear hC hd hb hK
  first | (go_simp; done) | (go_simp; rfl)
 ·refine AtD.of _ rfl (fun e_ a w hC hd hb K hK => ?_)
  have q10 := (hd 5 (by decide)).2 10 rfl;rw [show e_ 5 = _ from (hd 5 (by decide)).1] at q10;have cc2 : w.cell? ⟨w0.heap.size, 2, none⟩ = some (.slice B x.f1.length d) := Ctx.blk hC.2.2.1 2 rfl;refine value_ (w1 := w) (v := .slice B x.f1.length d) (by rfl) rfl ?_ (hK.out _ _ (Below.refl _ _) rfl);clear hC hd hb hK
  first | (go_simp; done) | (go_simp; rfl)
 ·refine AtD.of _ rfl (fun e_ a w hC hd hb K hK => ?_)
  have q11 := (hd 6 (by decide)).2 11 rfl;rw [show e_ 6 = _ from (hd 6 (by decide)).1] at q11;refine goes_ Tryd.func46 (by kernel_rfl) rfl #[.slice B x.f1.length d] (by rfl) rfl rfl (by first | (simp [Act.eval, q11]; done) | (simp [Act.eval, q11]; rfl)) ?_;obtain ⟨ps, hps, hR, hcl⟩ := sl_Clone (ok := fun k => k < w0.heap.size) _ x.f1 w hC.2.2.2.2.2.2.1 (by have := hx.out.few; omega);refine hcl.mono ?_;rintro en w' ⟨⟨hbw, v, rfl, hown⟩, -⟩;exact ⟨v, rfl, hK.out v w' hbw ⟨ps, hps, (hR.mono (fun k hk => by omega)).below hbw, w.heap.size, by have := blk_lt (show w.heap[w0.heap.size + 2]? = _ from hC.1); omega, hbw.size, hown, (((hd 4 (by decide)).1 : Kv _ _ _ _ _).within (fun k _ h => h)).below hbw⟩⟩
 ·refine AtD.of _ rfl (fun e_ a w hC hd hb K hK => ?_)
  have b3 : a.tmps[3]? = some (.pointer (some ⟨w0.heap.size + 1, 0, none⟩)) := hb 3 (by decide);refine value_ (w1 := w) (v := .pointer (some ⟨w0.heap.size + 1, 2, none⟩)) (by rfl) rfl ?_ (hK.out _ _ (Below.refl _ _) rfl);clear hC hd hb hK
  first | (go_simp; done) | (go_simp; rfl)
 ·refine AtD.of _ rfl (fun e_ a w hC hd hb K hK => ?_)
  have q13 := (hd 8 (by decide)).2 13 rfl;rw [show e_ 8 = _ from (hd 8 (by decide)).1] at q13;have cc2 : w.cell? ⟨w0.heap.size + 1, 2, none⟩ = some (.slice B2 y.f1.length d2) := Ctx.blk hC.2.1 2 rfl;refine value_ (w1 := w) (v := .slice B2 y.f1.length d2) (by rfl) rfl ?_ (hK.out _ _ (Below.refl _ _) rfl);clear hC hd hb hK
  first | (go_simp; done) | (go_simp; rfl)
 ·intro e_ w10 hC hr a ha
  obtain ⟨ps, hps, hR, base, hbase, hbs, hown, hz4⟩ := hr.1.1.2;obtain ⟨zA, zc, he4, zl, zF⟩ := Kv.openB hz4;have r9 : e_ 9 = .slice B2 y.f1.length d2 := hr.2;obtain ⟨LA, lc, he7⟩ := row_form hown;simp only [fill, Act.put, r9, he4, he7, Nat.reduceAdd, Nat.reduceLT, decide_true, decide_false, if_true, Bool.false_eq_true, if_false, List.setIfInBounds_toArray, List.set_cons_zero, List.set_cons_succ] at ha;subst ha;rw [he7] at hown;rw [he4] at hz4;clear hr r9 he4 he7;obtain ⟨B2', d2', e1, hdl, hF2⟩ := hC.2.2.2.2.2.2.2.1
  injection e1 with e2 _ e3
  subst e2;subst e3;obtain ⟨qs, hqs, hR2, hcell2⟩ := els_of hF2
  have hA2 : B2 = none → y.f1.length = 0 := fun h0 => by
   rcases Nat.eq_zero_or_pos y.f1.length with h1 | h1
   ·exact h1
   ·obtain ⟨ad, _, hA, _⟩ := Kd.F_get hF2 z44 (0 : Int) (by omega) (by omega)
    rw [h0] at hA; cases hA
  have hpl : ps.length = x.f1.length := by rw [← hps]; simp
  have hql : qs.length = y.f1.length := by rw [← hqs]; simp
  obtain ⟨i0, hi, hzz⟩ := Option.map_eq_some_iff.1 infoP;simp only [Prod.mk.injEq] at hzz;obtain ⟨hz1, hz2, hz3⟩ := hzz;have hHI := Sdq.mk (And.intro hi (And.intro hz1 (And.intro hz2 hz3)));have C := Sdq.mk hC;have hA2 := Sdq.mk hA2;have hcell2 := Sdq.mk hcell2;have hfl := Sdq.mk (show ((qs.map Prod.snd).flatMap El.cs).length = y.f1.length * 3 by rw [cs_flat, List.length_map, hql]);have hone := Sdq.mk (cs_one (qs.map Prod.snd));have hown := Sdq.mk hown;have hR := Sdq.mk hR;have hR2 := Sdq.mk hR2;have hpq := Sdq.mk (And.intro hps (And.intro hqs (And.intro hpl (And.intro hql (And.intro hbase hbs)))));have hzc := Sdq.mk (And.intro zl zF);have h39 := Sdq.mk (show ps.length + y.f1.length ≤ 39 by rw [hpl]; exact hxy.out);clear hi hz1 hz2 hz3 hC hF2 hdl hps hqs hpl hql hbase hbs zl zF;simp only [List.drop_succ_cons, List.drop_zero]
  have hNm := Sdq.mk (fun (w11 : World) (L1 : Option Addr) (l1 : Nat) (ho : w11.ownsRow base 44 3 (.slice L1 (ps.length + y.f1.length) l1) (ps.length + y.f1.length) ((ps.map Prod.snd).flatMap El.cs ++ (qs.map Prod.snd).flatMap El.cs)) (hg : w10.grownBy w11 (Value.slice LA ps.length lc).ownBlock) => (show Calls Tryd.prog 17 #[.agg #[.bool (can (bv x.f0 + bv y.f0)).f0, .slice zA (can (bv x.f0 + bv y.f0)).f1.length zc, .slice L1 (ps.length + y.f1.length) l1]] w11 (KPost kTB (fun k => ok k ∧ k ≠ w0.heap.size + 2) w11 rr) ∧ (uBlk (w0.heap.size + 2) [.bool false, .slice none 0 0, .slice none 0 0] 27).p w11 ∧ Below w0.heap.size w0 w11 from by
   obtain ⟨hps, hqs, hpl, hql, hbase, hbs⟩ := hpq.out
   have hob : ∀ k, k < base → some k ≠ (Value.slice LA ps.length lc).ownBlock := fun k hk he => by
    rcases hown.out.2 with ⟨h3, _⟩ | ⟨g', cap', cur, h3, hb, _⟩
    ·rw [h3] at he; cases he
    ·rw [h3] at he; simp only [Value.ownBlock, Option.some.injEq] at he; omega
   have hBW : ∀ k, k < base → w11.heap[k]? = w10.heap[k]? := fun k hk => hg.block k (Nat.lt_of_lt_of_le hk hbs) (hob k hk)
   have hres := (hBW _ hbase).trans C.out.1
   have hbel : Below w0.heap.size w0 w11 := C.out.2.2.2.1.grown hg C.out.2.2.2.1.size (fun k hk => by
    refine Classical.byContradiction fun hn => ?_
    exact hob k (by omega) hk.symm)
   have hrow := ns_row (W := w11) (base := base) (O := fun _ => True) (pv := .slice L1 (ps.length + y.f1.length) l1) (os := (ps ++ qs).map Prod.snd) (xs := (ps ++ qs).map Prod.fst) (by rw [List.map_append, List.flatMap_append, List.length_append, List.length_map, List.length_map, hql]; exact ho) (fun _ _ => trivial) (by simp) (by have := h39.out; simp; omega) (fun i z e hz he => by
    rw [List.getElem?_map] at hz he;obtain ⟨p, hp, rfl⟩ := Option.map_eq_some_iff.1 hz;rw [hp] at he;simp only [Option.map_some, Option.some.injEq] at he;subst he
    rcases List.mem_append.1 (List.mem_of_getElem? hp) with h | h
    ·exact Kd.FK_mono (Kd.FK_step (hR.out p h) (fun k hk _ => hBW k (by omega))) (fun _ _ => trivial)
    ·exact Kd.FK_mono (Kd.FK_step (hR2.out p h) (fun k hk _ => hBW k (by omega))) (fun _ _ => trivial))
   rw [List.map_append, hps, hqs] at hrow;obtain ⟨B3, d3, e3, l3, F3⟩ := hrow;simp only [Value.slice.injEq] at e3;obtain ⟨rfl, hlen, rfl⟩ := e3;refine ⟨?_, hres, hbel⟩
   have hkv : Kv kTB (fun _ => True) w11 (.agg #[.bool (can (bv x.f0 + bv y.f0)).f0, .slice zA (can (bv x.f0 + bv y.f0)).f1.length zc, .slice L1 (ps.length + y.f1.length) l1]) ⟨can (bv x.f0 + bv y.f0), x.f1 ++ y.f1⟩ := by
    rw [hlen];exact ⟨_, rfl, kTB_mkF w11 _ ⟨can (bv x.f0 + bv y.f0), x.f1 ++ y.f1⟩ hzc.out.1 (Kd.F_mono (Kd.F_step hzc.out.2 (fun k hk _ => hBW k hk)) (fun _ _ => trivial)) l3 F3⟩
   have h1 := lin_Norm (fun k => ok k ∧ k ≠ w0.heap.size + 2) _ _ w11 (fun k hk => by have h1 := blk_lt (show w11.heap[w0.heap.size + 2]? = _ from hres); exact ⟨hok.out k (by omega), by omega⟩) hkv ⟨by have := hxy.out; simpa using this, hcc.out, fun p hp => (List.mem_append.1 hp).elim (hx.out.dg p) (hy.out.dg p), fun p hp => (List.mem_append.1 hp).elim (hx.out.len p) (hy.out.len p)⟩;rw [HRR.out]
   dsimp only at h1
   rw [bv_can, show psB (x.f1 ++ y.f1) = psB x.f1 ++ psB y.f1 from List.map_append ..] at h1
   exact h1))
  clear hR hR2 hzc
  go_wp2_with (first
   | ((with_reducible refine gate_builtin (b := .append) (xs := #[.tmp 12, .tmp 14]) rfl ?_); at_builtin; go_loud (refine wpl_append_opt rfl (.tmp 12) (.tmp 14) 25 44 i0 _ 40 rfl undP hHI.out.1 hHI.out.2.1 hHI.out.2.2.1 hHI.out.2.2.2 rfl (.slice LA ps.length lc) ps.length ((ps.map Prod.snd).flatMap El.cs) B2 y.f1.length d2 ((qs.map Prod.snd).flatMap El.cs) rfl rfl base hown.out hfl.out hcell2.out hA2.out hone.out (by have := h39.out; simp only [maxLen]; omega) (by have := h39.out; omega) hpq.out.2.2.2.2.2 ?_; intro v1 w11 hown1 hg1; obtain ⟨L1, l1, hv1⟩ := row_form hown1; subst hv1; have hNw := hNm.out w11 L1 l1 hown1 hg1; clear hown1 hg1; obtain ⟨hN1, hN2, hN3⟩ := hNw; have hN2 := Sdq.mk hN2; have hN3 := Sdq.mk hN3))
   | (go_at_call 17; refine hN1.mono ?_; rintro e2 w2 ⟨v2, rfl, hv2, hb2⟩; obtain ⟨yA, yc, yB, yd, rfl, -, -⟩ := hv2.openTB; have hC3 := And.intro ((uBlk _ _ _).up _ _ hN2.out hb2) (below_step hN3.out hb2); have E := Sdq.mk (end3 (O := fun k => ok k ∧ k ≠ w0.heap.size + 2) (ok := ok) hC3.1 hC3.2 (by omega) (fun k hk => hk) hv2 _ rfl); have r0 := Ctx.blk hC3.1 0 rfl; have r1 := Ctx.blk hC3.1 1 rfl; have r2 := Ctx.blk hC3.1 2 rfl; have f0 := Ctx.frz hC3.1 0; have f1 := Ctx.frz hC3.1 1; have f2 := Ctx.frz hC3.1 2; clear hC3 hv2 hb2))
  have E := E.out;clear r0 r1 r2 f0 f1 f2;generalize World.setCell _ _ _ = wf at E ⊢;obtain ⟨EP, e0, e1, e2⟩ := E;exact bodyPost_ret (by first | (simp [results, Tryd.results18, go_sem, e0, e1, e2]; done) | (simp [results, Tryd.results18, go_sem, e0, e1, e2]; rfl)) rfl EP
end Go.Proofs.YthpgjgmaamcaoaaDoor.P
end
section
namespace Go.Proofs.YthpgjgmaamcaoaaDoor.LnP
theorem one_mem : ∀ {l : Ps}, One l → ∀ p ∈ l, cf l p.1 = p.2
 | q :: r, h, p, hp => by
  rcases List.mem_cons.1 hp with rfl | hp
  ·exact h.head
  ·have h1 := (List.pairwise_cons.1 h.1).1 p hp
   rw [cf_cons, if_neg (by omega), Int.zero_add];exact one_mem h.tail p hp
theorem cf_abs {K : Int} (hK : 0 ≤ K) : ∀ {l : Ps}, (∀ p ∈ l, (p.2.natAbs : Int) ≤ K) → ∀ v, ((cf l v).natAbs : Int) ≤ l.length * K
 | [], _, v => by simp [cf]
 | q :: r, h, v => by
  have h1 := cf_abs hK (l := r) (fun p hp => h p (List.mem_cons_of_mem _ hp)) v;have h2 := h q (List.mem_cons_self ..);rw [cf_cons, List.length_cons, Int.natCast_add, Int.add_mul, show ((1 : Nat) : Int) * K = K by simp]
  split <;> omega
theorem nrm_abs {K : Int} (hK : 0 ≤ K) {l : Ps} (h : ∀ p ∈ l, (p.2.natAbs : Int) ≤ K) : ∀ p ∈ nrm l, (p.2.natAbs : Int) ≤ l.length * K := fun p hp => by
 rw [← one_mem (nrm_one l) p hp, cf_nrm];exact cf_abs hK h p.1
theorem ins_len (p : Int × Int) : ∀ r : Ps, (ins p r).length ≤ r.length + 1
 | [] => by unfold ins; split <;> simp
 | q :: r => by
  have := ins_len p r;unfold ins
  split
  ·split <;> simp
  ·split
   ·split <;> simp <;> omega
   ·simp; omega
theorem nrm_len : ∀ l : Ps, (nrm l).length ≤ l.length
 | [] => Nat.le_refl _
 | p :: r => by
  have h1 := nrm_len r;have h2 := ins_len p (nrm r)
  show (ins p (nrm r)).length ≤ _
  simp only [List.length_cons]
  omega
end Go.Proofs.YthpgjgmaamcaoaaDoor.LnP
end
section
namespace Go.Proofs.YthpgjgmaamcaoaaDoor.P
open Go.RowKit Go.Shelf Go.Proofs.YthpgjgmaamcaoaaDoorW.PrintWords Go.Proofs.YthpgjgmaamcaoaaDoorW.PrintLast Go.Proofs.YthpgjgmaamcaoaaDoorW.PrintMore Go.Proofs.YthpgjgmaamcaoaaDoor.Nm
set_option maxRecDepth 100000
set_option linter.unusedVariables false
set_option linter.unusedSimpArgs false
theorem kv_num {O : Nat → Prop} {W : World} {b : Bool} {A : Option Addr} {c : Nat} {x : S24} (h : Kv k24 O W (.agg #[.bool b, .slice A x.f1.length c]) x) : Kv kTB O W (.agg #[.bool b, .slice A x.f1.length c, .slice none 0 0]) ⟨x, []⟩ := by
 obtain ⟨A', c', he, hl, hF⟩ := h.openB;simp only [Value.agg.injEq, Array.mk.injEq, List.cons.injEq, Value.bool.injEq, Value.slice.injEq, and_true, true_and] at he;obtain ⟨hcb, rfl, rfl⟩ := he;subst hcb;exact ⟨_, rfl, kTB_mkF W _ ⟨x, []⟩ hl hF (Nat.le_refl _) (Kd.F_nil _ _ _)⟩
set_option maxHeartbeats 1600000 in
theorem lin_Of (ok : Nat → Prop) (v : Value) (x : S24) (w0 : World) (hok : ∀ k, w0.heap.size ≤ k → ok k) (h : Kv k24 (fun _ => True) w0 v x) (hx : Big x) :
  Calls Tryd.prog 43 #[v] w0 (KPost kTB ok w0 (tt (bv x) [])) := by
 obtain ⟨xA, xc, rfl, xl, xF⟩ := h.openB;have C := Ctx.new (cs := [.bool false, .slice none 0 0, .slice none 0 0]) (t := 27) (Ctx.new (cs := [.bool x.f0, .slice xA x.f1.length xc]) (t := 24) (Ctx.cons (uB w0) (Below.refl _ _) (Ctx.cons (uK k24 (fun _ => True) (.agg #[.bool x.f0, .slice xA x.f1.length xc]) x) h Ctx.nil)));simp only [World.size_alloc] at C;have hx := Sdq.mk hx;have hok := Sdq.mk hok
 obtain ⟨r, hr⟩ : ∃ r, r = tt (bv x) [] := ⟨_, rfl⟩
 rw [← hr];have HR := Sdq.mk (show (⟨can (bv x), []⟩ : TB) = r from hr.symm);clear h hr xl xF;go_enter Tryd.func43, Tryd.ntmps43
 go_upto_region 1 with fail
 refine absW _ C ?_;clear C;intro w1 C;have y0 := Ctx.blk C.2.1 0 rfl;have y1 := Ctx.blk C.2.1 1 rfl;have hN := big_Norm (fun k => ok k ∧ k ≠ w0.heap.size + 1) (.agg #[.bool x.f0, .slice xA x.f1.length xc]) x w1 (fun k hk => by have := blk_lt (show w1.heap[w0.heap.size + 1]? = _ from C.1); exact ⟨hok.out k (by omega), by omega⟩) C.2.2.2.1 hx.out;have C := Sdq.mk C;go_wp2_with (go_at_call 50; refine hN.mono ?_; rintro e2 w2 ⟨v2, rfl, hv2, hb2⟩; obtain ⟨yA, yc, rfl, -, -⟩ := hv2.openB; have hk2 := kv_num hv2; rw [HR.out] at hk2; have C3 := C.out.below hb2; have E := Sdq.mk (end3 (O := fun k => ok k ∧ k ≠ w0.heap.size + 1) (ok := ok) C3.1 C3.2.2.1 (by omega) (fun k hk => hk) hk2 _ rfl); have r0 := Ctx.blk C3.1 0 rfl; have r1 := Ctx.blk C3.1 1 rfl; have r2 := Ctx.blk C3.1 2 rfl; have f0 := Ctx.frz C3.1 0; have f1 := Ctx.frz C3.1 1; have f2 := Ctx.frz C3.1 2; clear C3 hv2 hk2 hb2);have E := E.out;clear r0 r1 r2 f0 f1 f2;generalize World.setCell _ _ _ = wf at E ⊢;obtain ⟨EP, e0, e1, e2⟩ := E;exact bodyPost_ret (by first | (simp [results, Tryd.results43, go_sem, e0, e1, e2]; done) | (simp [results, Tryd.results43, go_sem, e0, e1, e2]; rfl)) rfl EP
end Go.Proofs.YthpgjgmaamcaoaaDoor.P
end
section
namespace Go.Proofs.YthpgjgmaamcaoaaDoor.P
open Go.RowKit Go.Shelf Go.Proofs.YthpgjgmaamcaoaaDoorW.PrintWords Go.Proofs.YthpgjgmaamcaoaaDoorW.PrintLast Go.Proofs.YthpgjgmaamcaoaaDoorW.PrintMore Go.Proofs.YthpgjgmaamcaoaaDoor.Nm
set_option maxRecDepth 100000
set_option linter.unusedVariables false
set_option linter.unusedSimpArgs false
theorem lin_Sub.tab1 : tabOf (opsOf Tryd.f19 1) = ([some 5, some 6, some 7, some 8, some 9, none], [[], [], [], [1, 2, 2], [0, 3, 3], [4, 4, 0, 1, 2, 3, 4]]) := by kernel_rfl
theorem psB_cp (ps : LnP.Ps) : psB (ps.map cp) = ps := by
 unfold psB cp;rw [List.map_map]
 have : ∀ l : LnP.Ps, l.map ((fun p : S44 => (p.f0, bv p.f1)) ∘ fun p : Int × Int => (⟨p.1, can p.2⟩ : S44)) = l := fun l => by
  induction l with
  | nil => rfl
  | cons p l ih => rw [List.map_cons, ih]; simp [bv_can]
 exact this ps
theorem nrm_app (a b : LnP.Ps) : LnP.nrm (a ++ LnP.nrm b) = LnP.nrm (a ++ b) := LnP.nrm_congr (fun v => by rw [LnP.cf_append, LnP.cf_append, LnP.cf_nrm])
theorem len_can {n : Int} {L : Nat} (h : (n.natAbs : Int) ≤ 39 * B32 ^ L) : (can n).f1.length ≤ L + 1 := by
 refine can_len ?_;have hp := pow_pos' (B := B32) (by decide) L;rw [Int.pow_succ];generalize B32 ^ L = K at *;unfold B32
 omega
theorem sin_nin {x : TB} (h : SIn x) : NIn x := ⟨h.few, ⟨h.c.1, by have := h.c.2; omega⟩, fun p hp => (h.p p hp).1, fun p hp => by have := (h.p p hp).2; omega⟩
theorem sub_few (y : TB) : (tt (bv y.f0 * bv (can (-1))) (LnP.nrm ((psB y.f1).map (fun p : Int × Int => (p.1, p.2 * bv (can (-1))))))).f1.length ≤ y.f1.length := by
 have := LnP.nrm_len ((psB y.f1).map (fun p : Int × Int => (p.1, p.2 * bv (can (-1)))));simp only [List.length_map] at this
 show (List.map cp _).length ≤ _
 rw [List.length_map];unfold psB at this ⊢
 simpa using this
theorem sub_nin {y : TB} (h : SIn y) : NIn (tt (bv y.f0 * bv (can (-1))) (LnP.nrm ((psB y.f1).map (fun p : Int × Int => (p.1, p.2 * bv (can (-1))))))) := by
 have h1 : (can (-1)).f1.length ≤ 400 := by decide
 refine ⟨Nat.le_trans (sub_few y) h.few, ⟨can_dg _, Nat.le_trans (mul_len h.c ⟨can_dg _, h1⟩) (by decide)⟩, fun p hp => ?_, fun p hp => ?_⟩
 ·obtain ⟨z, _, rfl⟩ := List.mem_map.1 hp
  exact can_dg _
 ·obtain ⟨z, hz, rfl⟩ := List.mem_map.1 hp
  have hK : (0 : Int) ≤ B32 ^ 400 := Int.le_of_lt (pow_pos' (B := B32) (by decide) 400)
  have h2 := LnP.nrm_abs hK (fun p hp => by
   obtain ⟨q, hq, rfl⟩ := List.mem_map.1 hp;unfold psB at hq;obtain ⟨r, hr, rfl⟩ := List.mem_map.1 hq;have := abs_lt' (h.p r hr).1 (h.p r hr).2;rw [bv_can]
   show (((bv r.f1) * -1).natAbs : Int) ≤ _
   omega) z hz
  have h3 : (((psB y.f1).map (fun p : Int × Int => (p.1, p.2 * bv (can (-1))))).length : Int) ≤ 39 := by
   have := h.few;unfold psB
   simp
   omega
  have h4 := Int.mul_le_mul_of_nonneg_right h3 hK;exact Nat.le_trans (len_can (L := 400) (by omega)) (by decide)
theorem sub_big {x y : TB} (hx : SIn x) (hy : SIn y) : Big (can (bv x.f0 + bv (tt (bv y.f0 * bv (can (-1))) (LnP.nrm ((psB y.f1).map (fun p : Int × Int => (p.1, p.2 * bv (can (-1))))))).f0)) := by
 refine ⟨can_dg _, Nat.le_trans (len_can (L := 400) ?_) (by decide)⟩;have h1 := abs_lt' hx.c.1 hx.c.2;have h2 := abs_lt' hy.c.1 hy.c.2
 show ((bv x.f0 + bv (can (bv y.f0 * bv (can (-1))))).natAbs : Int) ≤ _
 rw [bv_can, bv_can];generalize B32 ^ 400 = K at *
 omega
set_option maxHeartbeats 1600000 in
theorem lin_Sub (ok : Nat → Prop) (v u : Value) (x y : TB) (w0 : World) (hok : ∀ k, w0.heap.size ≤ k → ok k) (h : Kv kTB (fun _ => True) w0 v x) (h' : Kv kTB (fun _ => True) w0 u y) (hx : SIn x) (hy : SIn y) (hxy : x.f1.length + y.f1.length ≤ 39) :
  Calls Tryd.prog 19 #[v, u] w0 (KPost kTB ok w0 (tt (bv x.f0 - bv y.f0) (LnP.nrm (psB x.f1 ++ (psB y.f1).map (fun p : Int × Int => (p.1, -p.2)))))) := by
 obtain ⟨A, c, B, d, rfl, -, -⟩ := h.openTB;obtain ⟨A2, c2, B2, d2, rfl, -, -⟩ := h'.openTB;have C := Ctx.new (cs := [.bool false, .slice none 0 0, .slice none 0 0]) (t := 27) (Ctx.new (cs := [.bool y.f0.f0, .slice A2 y.f0.f1.length c2, .slice B2 y.f1.length d2]) (t := 27) (Ctx.new (cs := [.bool x.f0.f0, .slice A x.f0.f1.length c, .slice B x.f1.length d]) (t := 27) (Ctx.cons (uB w0) (Below.refl _ _) (Ctx.cons (uK kTB (fun _ => True) (.agg #[.bool x.f0.f0, .slice A x.f0.f1.length c, .slice B x.f1.length d]) x) h (Ctx.cons (uK kTB (fun _ => True) (.agg #[.bool y.f0.f0, .slice A2 y.f0.f1.length c2, .slice B2 y.f1.length d2]) y) h' Ctx.nil)))));simp only [World.size_alloc] at C;have hx := Sdq.mk hx;have hy := Sdq.mk hy;have hok := Sdq.mk hok;have hxy := Sdq.mk hxy
 obtain ⟨rr, hrr⟩ : ∃ rr, rr = tt (bv x.f0 - bv y.f0) (LnP.nrm (psB x.f1 ++ (psB y.f1).map (fun p : Int × Int => (p.1, -p.2)))) := ⟨_, rfl⟩
 rw [← hrr]
 have HRR := Sdq.mk (show tt (bv x.f0 + bv (tt (bv y.f0 * bv (can (-1))) (LnP.nrm ((psB y.f1).map (fun p : Int × Int => (p.1, p.2 * bv (can (-1))))))).f0) (LnP.nrm (psB x.f1 ++ psB (tt (bv y.f0 * bv (can (-1))) (LnP.nrm ((psB y.f1).map (fun p : Int × Int => (p.1, p.2 * bv (can (-1))))))).f1)) = rr by
  rw [hrr];unfold tt;rw [psB_cp, nrm_app, bv_can, bv_can]
  have m : (psB y.f1).map (fun p : Int × Int => (p.1, p.2 * (-1))) = (psB y.f1).map (fun p : Int × Int => (p.1, -p.2)) := List.map_congr_left (fun p _ => by
   show (p.1, p.2 * -1) = (p.1, -p.2)
   rw [show p.2 * -1 = -p.2 by omega])
  rw [m, show bv x.f0 + bv y.f0 * -1 = bv x.f0 - bv y.f0 by omega])
 clear h h' hrr;go_enter Tryd.func19, Tryd.ntmps19
 go_upto_region 1 with fail
 refine absW _ C ?_;clear C;intro w1 C;refine flowS (m := 5) (n := 6) lin_Sub.tab1 rfl (Ctx _) (Rl [uEq (.agg #[.bool x.f0.f0, .slice A x.f0.f1.length c, .slice B x.f1.length d]), uEq (.agg #[.bool y.f0.f0, .slice A2 y.f0.f1.length c2, .slice B2 y.f1.length d2]), uKd k24 (fun _ => True) (can (-1)), uKd kTB (fun _ => True) (tt (bv y.f0 * bv (can (-1))) (LnP.nrm ((psB y.f1).map (fun p : Int × Int => (p.1, p.2 * bv (can (-1))))))), uKd kTB (fun k => ok k ∧ k ≠ w0.heap.size + 2) rr]) rfl (by kernel_rfl) (by kernel_rfl) (fun _ _ h hb => h.below hb) (Rl.up _) C ⟨⟨⟨⟨⟨trivial, ?_⟩, ?_⟩, ?_⟩, ?_⟩, ?_⟩ ?_
 ·refine At.of _ rfl (fun e_ a w hC hd hb K hK => ?_)
  have b2 : a.tmps[2]? = some (.pointer (some ⟨w0.heap.size, 0, none⟩)) := hb 2 (by decide);have cc0 : w.cell? ⟨w0.heap.size, 0, none⟩ = some (.bool x.f0.f0) := Ctx.blk hC.2.2.1 0 rfl;have cc1 : w.cell? ⟨w0.heap.size, 1, none⟩ = some (.slice A x.f0.f1.length c) := Ctx.blk hC.2.2.1 1 rfl;have cc2 : w.cell? ⟨w0.heap.size, 2, none⟩ = some (.slice B x.f1.length d) := Ctx.blk hC.2.2.1 2 rfl;refine value_ (w1 := w) (v := .agg #[.bool x.f0.f0, .slice A x.f0.f1.length c, .slice B x.f1.length d]) (by rfl) rfl ?_ (hK.out _ _ (Below.refl _ _) rfl);clear hC hd hb hK
  first | (go_simp; done) | (go_simp; rfl)
 ·refine At.of _ rfl (fun e_ a w hC hd hb K hK => ?_)
  have b3 : a.tmps[3]? = some (.pointer (some ⟨w0.heap.size + 1, 0, none⟩)) := hb 3 (by decide);have cc0 : w.cell? ⟨w0.heap.size + 1, 0, none⟩ = some (.bool y.f0.f0) := Ctx.blk hC.2.1 0 rfl;have cc1 : w.cell? ⟨w0.heap.size + 1, 1, none⟩ = some (.slice A2 y.f0.f1.length c2) := Ctx.blk hC.2.1 1 rfl;have cc2 : w.cell? ⟨w0.heap.size + 1, 2, none⟩ = some (.slice B2 y.f1.length d2) := Ctx.blk hC.2.1 2 rfl;refine value_ (w1 := w) (v := .agg #[.bool y.f0.f0, .slice A2 y.f0.f1.length c2, .slice B2 y.f1.length d2]) (by rfl) rfl ?_ (hK.out _ _ (Below.refl _ _) rfl);clear hC hd hb hK
  first | (go_simp; done) | (go_simp; rfl)
 ·refine At.of _ rfl (fun e_ a w hC hd hb K hK => ?_)
  refine goes_ Tryd.func41 (by kernel_rfl) rfl #[.int .i64 (-1)] (by rfl) rfl rfl (by first | (simp [Act.eval]; done) | (simp [Act.eval]; rfl)) ?_;refine (big_Of (fun _ => True) (-1) w (fun _ _ => trivial) (by decide) (by decide)).mono ?_;rintro en w' ⟨v, rfl, hv, hb'⟩;exact ⟨v, rfl, hK.out v w' hb' hv⟩
 ·refine At.of _ rfl (fun e_ a w hC hd hb K hK => ?_)
  have q6 := (hd 1 (by decide)).2 6 rfl;rw [show e_ 1 = _ from (hd 1 (by decide)).1] at q6;have q7 := (hd 2 (by decide)).2 7 rfl;refine goes_ Tryd.func24 (by kernel_rfl) rfl #[.agg #[.bool y.f0.f0, .slice A2 y.f0.f1.length c2, .slice B2 y.f1.length d2], e_ 2] (by rfl) rfl rfl (by first | (simp [Act.eval, q6, q7]; done) | (simp [Act.eval, q6, q7]; rfl)) ?_;refine (lin_Scale (fun _ => True) _ _ y (can (-1)) w (fun _ _ => trivial) hC.2.2.2.2.2.1 (hd 2 (by decide)).1 hy.out ⟨can_dg _, by decide⟩).mono ?_;rintro en w' ⟨v, rfl, hv, hb'⟩;exact ⟨v, rfl, hK.out v w' hb' hv⟩
 ·refine At.of _ rfl (fun e_ a w hC hd hb K hK => ?_)
  have q5 := (hd 0 (by decide)).2 5 rfl;rw [show e_ 0 = _ from (hd 0 (by decide)).1] at q5;have q8 := (hd 3 (by decide)).2 8 rfl;refine goes_ Tryd.func18 (by kernel_rfl) rfl #[.agg #[.bool x.f0.f0, .slice A x.f0.f1.length c, .slice B x.f1.length d], e_ 3] (by rfl) rfl rfl (by first | (simp [Act.eval, q5, q8]; done) | (simp [Act.eval, q5, q8]; rfl)) ?_;have h1 := lin_Add (fun k => ok k ∧ k ≠ w0.heap.size + 2) _ _ x (tt (bv y.f0 * bv (can (-1))) (LnP.nrm ((psB y.f1).map (fun p : Int × Int => (p.1, p.2 * bv (can (-1))))))) w (fun k hk => by have := blk_lt (show w.heap[w0.heap.size + 2]? = _ from hC.1); exact ⟨hok.out k (by omega), by omega⟩) hC.2.2.2.2.1 (hd 3 (by decide)).1 (sin_nin hx.out) (sub_nin hy.out) (by have h1 := hxy.out; have h2 := sub_few y; omega) (sub_big hx.out hy.out);rw [HRR.out] at h1;refine h1.mono ?_;rintro en w' ⟨v, rfl, hv, hb'⟩;exact ⟨v, rfl, hK.out v w' hb' hv⟩
 ·intro e_ w2 hC hr a ha
  obtain ⟨yA, yc, yB, yd, he4, -, -⟩ := Kv.openTB hr.2;have hv2 : Kv kTB (fun k => ok k ∧ k ≠ w0.heap.size + 2) w2 (e_ 4) rr := hr.2;rw [he4] at hv2;simp only [fill, Act.put, he4, Nat.reduceAdd, Nat.reduceLT, decide_true, decide_false, if_true, Bool.false_eq_true, if_false, List.setIfInBounds_toArray, List.set_cons_zero, List.set_cons_succ] at ha;subst ha;clear hr he4;have E := Sdq.mk (end3 (O := (fun k => ok k ∧ k ≠ w0.heap.size + 2)) (ok := ok) hC.1 hC.2.2.2.1 (by omega) (fun k hk => hk) hv2 _ rfl);have r0 := Ctx.blk hC.1 0 rfl;have r1 := Ctx.blk hC.1 1 rfl;have r2 := Ctx.blk hC.1 2 rfl;have f0 := Ctx.frz hC.1 0;have f1 := Ctx.frz hC.1 1;have f2 := Ctx.frz hC.1 2;clear hC hv2;simp only [List.drop_succ_cons, List.drop_zero]
  go_wp2_with fail
  have E := E.out;clear r0 r1 r2 f0 f1 f2;generalize World.setCell _ _ _ = wf at E ⊢;obtain ⟨EP, e0, e1, e2⟩ := E;exact bodyPost_ret (by first | (simp [results, Tryd.results19, go_sem, e0, e1, e2]; done) | (simp [results, Tryd.results19, go_sem, e0, e1, e2]; rfl)) rfl EP
end Go.Proofs.YthpgjgmaamcaoaaDoor.P
end
section
namespace Go.Proofs.YthpgjgmaamcaoaaDoor.P
open Go.RowKit Go.Shelf Go.Proofs.YthpgjgmaamcaoaaDoorW.PrintWords Go.Proofs.YthpgjgmaamcaoaaDoorW.PrintLast Go.Proofs.YthpgjgmaamcaoaaDoorW.PrintMore Go.Proofs.YthpgjgmaamcaoaaDoor.Nm
set_option maxRecDepth 100000
set_option linter.unusedVariables false
set_option linter.unusedSimpArgs false
structure CS (W0 W : World) (b : Bool) (A : Option Addr) (m c : Nat) (n : Int) : Prop where
 blk : (uBlk W0.heap.size [.bool b, .slice A m c] 24).p W
 kv : Kv k24 (fun k => W0.heap.size < k) W (.agg #[.bool b, .slice A m c]) (can n)
 bel : Below W0.heap.size W0 W
section
variable {W0 W W' : World} {b b' : Bool} {A A' : Option Addr} {m c m' c' : Nat} {n n' : Int}
theorem CS.below (h : CS W0 W b A m c n) (hb : Below W.heap.size W W') : CS W0 W' b A m c n := ⟨(uBlk _ _ _).up _ _ h.blk hb, h.kv.below hb, below_step h.bel hb⟩
theorem CS.put (h : CS W0 W b A m c n) (hk : Kv k24 (fun k => W0.heap.size < k) W (.agg #[.bool b', .slice A' m' c']) (can n')) : CS W0 ((W.setCell ⟨W0.heap.size, 0, none⟩ (.bool b')).setCell ⟨W0.heap.size, 1, none⟩ (.slice A' m' c')) b' A' m' c' n' :=
 ⟨Ctx.put (Ctx.put h.blk 0 _) 1 _, (hk.far (p := ⟨W0.heap.size, 0, none⟩) (fun k hk e => by have : k = W0.heap.size := e; omega) _).far (p := ⟨W0.heap.size, 1, none⟩) (fun k hk e => by have : k = W0.heap.size := e; omega) _, (h.bel.setCell (p := ⟨W0.heap.size, 0, none⟩) (Nat.le_refl _) _).setCell (p := ⟨W0.heap.size, 1, none⟩) (Nat.le_refl _) _⟩
theorem CS.start (W0 : World) : CS W0 (W0.alloc (.cells #[.bool false, .slice none 0 0] 24)) false none 0 0 0 :=
 ⟨blk_new W0 _, by
  have e : can 0 = ⟨false, []⟩ := by first | rfl | (unfold can; simp) | (unfold can; simp [dig])
  rw [e]
  exact Kv.mkB (x := ⟨false, []⟩) (Nat.le_refl _) (Kd.F_nil _ _ _), bal (Below.refl _ _) _⟩
end
theorem cf_take {l : LnP.Ps} {i : Nat} (hi : i < l.length) (v : Int) : LnP.cf (l.take (i + 1)) v = LnP.cf (l.take i) v + if l[i].1 = v then l[i].2 else 0 := by
 rw [List.take_succ_eq_append_getElem hi, LnP.cf_append, LnP.cf_cons, LnP.cf_nil, Int.add_zero]
theorem cf_big {x : TB} (hx : NIn x) {i : Nat} (v : Int) : Big (can (LnP.cf ((psB x.f1).take i) v)) := by
 have hK : (0 : Int) ≤ B32 ^ 1000 := Int.le_of_lt (pow_pos' (B := B32) (by decide) 1000);refine big_can ?_
 have h1 := LnP.cf_abs hK (l := (psB x.f1).take i) (fun p hp => by
  have h2 := List.mem_of_mem_take hp;unfold psB at h2;obtain ⟨q, hq, rfl⟩ := List.mem_map.1 h2
  exact Int.le_of_lt (abs_lt (hx.dg q hq) (hx.len q hq))) v
 have h2 : ((psB x.f1).take i).length ≤ 39 := by have := hx.few; unfold psB; simp; omega
 have h3 := Int.mul_le_mul_of_nonneg_right (show ((((psB x.f1).take i).length : Nat) : Int) ≤ 39 by omega) hK
 omega
set_option maxHeartbeats 3200000 in
theorem lin_Coef (ok : Nat → Prop) (v : Value) (x : TB) (vr : Int) (w : World) (hok : ∀ k, w.heap.size ≤ k → ok k) (h : Kv kTB (fun _ => True) w v x) (hx : NIn x) :
  Calls Tryd.prog 44 #[v, .int .i64 vr] w (KPost k24 ok w (can (LnP.cf (psB x.f1) vr))) := by
 obtain ⟨A, c, B, d, rfl, hk, hp⟩ := h.openTB;have C := Ctx.new (cs := [.bool false, .slice none 0 0]) (t := 24) (Ctx.new (cs := [.bool x.f0.f0, .slice A x.f0.f1.length c, .slice B x.f1.length d]) (t := 27) (Ctx.cons (uB w) (Below.refl _ _) (Ctx.cons (uCv k44 (fun _ => True) x.f1 (.slice B x.f1.length d)) hp Ctx.nil)));simp only [World.size_alloc] at C;have hx := Sdq.mk hx;have hok := Sdq.mk hok
 obtain ⟨rr, hrr⟩ : ∃ rr, rr = can (LnP.cf (psB x.f1) vr) := ⟨_, rfl⟩
 rw [← hrr];have HRR := Sdq.mk hrr;clear h hk hp hrr;go_enter Tryd.func44, Tryd.ntmps44
 go_upto_region 1 with fail
 refine absW _ C ?_;clear C;intro w1 C;have hB0 := Sdq.mk (CS.start w1);have y2 := Ctx.blk ((uBlk _ _ _).up _ _ C.2.1 (bal (Below.refl _ _) (.cells #[.bool false, .slice none 0 0] 24))) 2 rfl;have C := Sdq.mk C
 go_upto_region 2 with fail
 obtain ⟨W5, eW5⟩ : ∃ W5, W5 = w1.alloc (.cells #[.bool false, .slice none 0 0] 24) := ⟨_, rfl⟩
 rw [← eW5] at hB0 y2 ⊢;clear eW5
 go_wp2_with fail
 clear y2
 obtain ⟨n, en⟩ : ∃ n, n = x.f1.length := ⟨_, rfl⟩
 rw [← en];have hn := Sdq.mk en
 have hn39 : n ≤ 39 := by rw [en]; exact hx.out.few
 clear en
 obtain ⟨go, ego⟩ : ∃ go, go = w1.heap.size := ⟨_, rfl⟩
 rw [← ego];have hgo := Sdq.mk ego;clear ego
 go_loopg [12] n (fun gk s12 wr => ∃ (i : Nat) (vb : Bool) (vA : Option Addr) (vm vc : Nat), gk + i = n ∧ s12 = .int .i64 (i : Int) ∧ Sdq (CS w1 wr vb vA vm vc (LnP.cf ((psB x.f1).take i) vr)))
 case atStart => exact ⟨0, _, _, _, _, rfl, rfl, hB0⟩
 case round =>
  clear hB0;obtain ⟨i, vb, vA, vm, vc, hgi, rfl, hN⟩ := hrel;have z0 := Ctx.blk hN.out.blk 0 rfl;have z1 := Ctx.blk hN.out.blk 1 rfl;rw [← hgo.out] at z0 z1
  cases gk with
  | zero =>
   obtain rfl : i = n := by omega
   have hrr := Sdq.mk (show can (LnP.cf ((psB x.f1).take i) vr) = rr by
    rw [HRR.out, List.take_of_length_le (by have := hn.out; unfold psB; simp; omega)])
   have hres := (uBlk _ _ _).up _ _ C.out.1 hN.out.bel;have hrl := blk_lt (show w1.heap[w.heap.size + 1]? = _ from C.out.1);have E := Sdq.mk (end2 (ok := ok) (O := fun k => w1.heap.size < k) hres (below_step C.out.2.2.1 hN.out.bel) (Nat.le_succ _) (fun k hk => ⟨hok.out k (by omega), by omega⟩) (hrr.out ▸ hN.out.kv) _ rfl);have r0 := Ctx.blk hres 0 rfl;have r1 := Ctx.blk hres 1 rfl;have f0 := Ctx.frz hres 0;have f1 := Ctx.frz hres 1;clear hN hrr hres hrl
   go_wp2_with fail
   have E := E.out;clear z0 z1 r0 r1 f0 f1;generalize World.setCell _ _ _ = wf at E ⊢;obtain ⟨EP, e0, e1⟩ := E;exact bodyPost_ret (by first | (simp [results, Tryd.results44, go_sem, e0, e1]; done) | (simp [results, Tryd.results44, go_sem, e0, e1]; rfl)) rfl EP
  | succ j =>
   have hin : i < x.f1.length := by have := hn.out; omega
   obtain ⟨B', d', e1, -, hF⟩ := C.out.2.2.2.1.below hN.out.bel
   injection e1 with e2 _ e3
   subst e2;subst e3;obtain ⟨ad, e, rfl, x0, x1, x2, hfk⟩ := row_el hF hin;have HP := Sdq.mk (And.intro hgi hin)
   have hin2 : i < n := by omega
   have hst := Sdq.mk (show LnP.cf ((psB x.f1).take (i + 1)) vr = LnP.cf ((psB x.f1).take i) vr + if x.f1[i].f0 = vr then bv x.f1[i].f1 else 0 by
    rw [cf_take (by unfold psB; simpa using hin)];unfold psB
    simp only [List.getElem_map])
   have hev : e.v = x.f1[i].f0 := (fk_el hfk).1;have hqd := Sdq.mk (show Big x.f1[i].f1 from ⟨hx.out.dg _ (List.getElem_mem hin), by have := hx.out.len _ (List.getElem_mem hin); omega⟩)
   obtain ⟨q, eq⟩ : ∃ q, q = x.f1[i] := ⟨_, rfl⟩
   rw [← eq] at hfk hev hst hqd;have HEV := Sdq.mk hev;have hfk := Sdq.mk hfk;clear hF eq hgi hin hev z0 z1
   go_upto_region 5 with fail
   have hba : Below wr.heap.size wr (wr.alloc (.cells #[.int .i64 e.v, .bool e.b, .slice e.A e.n e.c] 44)) := bal (Below.refl _ _) _
   have C6 : Ctx [uBlk wr.heap.size [.int .i64 e.v, .bool e.b, .slice e.A e.n e.c] 44, ⟨fun W => CS w1 W vb vA vm vc (LnP.cf ((psB x.f1).take i) vr), fun _ _ h hb => h.below hb⟩, ⟨fun W => Kd.FK k44 W (fun _ => True) q e.cs, fun _ _ h hb => Kd.FK_below h hb⟩] (wr.alloc (.cells #[.int .i64 e.v, .bool e.b, .slice e.A e.n e.c] 44)) := ⟨blk_new wr _, hN.out.below hba, Kd.FK_below hfk.out hba, trivial⟩
   refine absW _ C6 ?_;clear C6 hN hba hfk x0 x1 x2;generalize wr.heap.size = p6;intro w6 C6;have p0 := Ctx.blk C6.1 0 rfl;by_cases hv : e.v = vr
   ·have hvb : (e.v == vr) = true := by simpa using hv
    have HX := Sdq.mk (show LnP.cf ((psB x.f1).take (i + 1)) vr = LnP.cf ((psB x.f1).take i) vr + bv q.f1 by rw [hst.out, if_pos (by rw [← HEV.out]; exact hv)]);have p1 := Ctx.blk C6.1 1 rfl;have p2 := Ctx.blk C6.1 2 rfl;have z0 := Ctx.blk C6.2.1.blk 0 rfl;have z1 := Ctx.blk C6.2.1.blk 1 rfl;have hA := big_Add (fun k => w6.heap.size ≤ k) _ _ _ q.f1 w6 (fun _ h => h) (C6.2.1.kv.mono (fun _ _ => trivial)) (el_kv C6.2.2.1) (cf_big hx.out vr) hqd.out;rw [bv_can, ← HX.out] at hA;rw [← hgo.out] at z0 z1;have C6 := Sdq.mk C6;clear hv;go_wp2_with (go_at_call 38; refine hA.mono ?_; rintro e2 w7 ⟨v2, rfl, hv2, hb2⟩; obtain ⟨yA, yc, rfl, -, -⟩ := hv2.openB; have C7 := C6.out.below hb2; have u0 := Ctx.blk C7.2.1.blk 0 rfl; have u1 := Ctx.blk C7.2.1.blk 1 rfl; have f0 := Ctx.frz C7.2.1.blk 0; have f1 := Ctx.frz C7.2.1.blk 1; have HN := Sdq.mk (C7.2.1.put (hv2.mono (fun k hk => by have := blk_lt (show w6.heap[w1.heap.size]? = _ from C6.out.2.1.blk); omega))); rw [← hgo.out] at u0 u1 f0 f1 HN; clear C7 hv2 hb2);clear u0 u1 f0 f1
    go_roundg j
    case measure => go_light; omega
    case rel => go_light; exact ⟨i + 1, _, _, _, _, by have := HP.out; omega, by go_num, HN⟩
   ·have hvb : (e.v == vr) = false := by simpa using hv
    have HX := Sdq.mk (show LnP.cf ((psB x.f1).take (i + 1)) vr = LnP.cf ((psB x.f1).take i) vr by rw [hst.out, if_neg (by rw [← HEV.out]; exact hv), Int.add_zero]);have C6 := Sdq.mk C6;clear hv
    go_wp2_with fail
    go_roundg j
    case measure => go_light; omega
    case rel => go_light; exact ⟨i + 1, _, _, _, _, by have := HP.out; omega, by go_num, ⟨by rw [HX.out]; exact C6.out.2.1⟩⟩
end Go.Proofs.YthpgjgmaamcaoaaDoor.P
end
section
namespace Go.Proofs.YthpgjgmaamcaoaaDoor.P
open Go.RowKit Go.Shelf Go.Proofs.YthpgjgmaamcaoaaDoorW.PrintWords Go.Proofs.YthpgjgmaamcaoaaDoorW.PrintLast Go.Proofs.YthpgjgmaamcaoaaDoorW.PrintMore Go.Proofs.YthpgjgmaamcaoaaDoor.Nm
set_option maxRecDepth 100000
set_option linter.unusedVariables false
set_option linter.unusedSimpArgs false
theorem lin_Subst.tab1 : tabOf (opsOf Tryd.f12 1) = ([some 7, some 8, some 9, some 10, some 11, some 12, some 13, some 14, some 15, none], [[], [], [0, 1], [], [], [], [4, 5, 2], [3, 6, 6], [2, 7, 7], [8, 8, 0, 1, 2, 3, 4, 5, 6, 7, 8]]) := by kernel_rfl
structure LIn (x : TB) : Prop where
 few : x.f1.length ≤ 39
 c : Dg B32 x.f0.f1 ∧ x.f0.f1.length ≤ 300
 p : ∀ p ∈ x.f1, Dg B32 p.f1.f1 ∧ p.f1.f1.length ≤ 300
theorem lin_sin {x : TB} (h : LIn x) : SIn x := ⟨h.few, ⟨h.c.1, by have := h.c.2; omega⟩, fun p hp => ⟨(h.p p hp).1, by have := (h.p p hp).2; omega⟩⟩
theorem lin_nin {x : TB} (h : LIn x) : NIn x := sin_nin (lin_sin h)
theorem psB_abs {l : List S44} {L : Nat} (h : ∀ p ∈ l, Dg B32 p.f1.f1 ∧ p.f1.f1.length ≤ L) : ∀ p ∈ psB l, (p.2.natAbs : Int) ≤ B32 ^ L := fun p hp => by
 unfold psB at hp;obtain ⟨q, hq, rfl⟩ := List.mem_map.1 hp;exact Int.le_of_lt (abs_lt' (h q hq).1 (h q hq).2)
theorem nrm_can {l : LnP.Ps} {L : Nat} (hl : l.length ≤ 39) (h : ∀ p ∈ l, (p.2.natAbs : Int) ≤ B32 ^ L) : ∀ p ∈ LnP.nrm l, (can p.2).f1.length ≤ L + 1 := fun p hp => by
 have hK : (0 : Int) ≤ B32 ^ L := Int.le_of_lt (pow_pos' (B := B32) (by decide) L);have h1 := LnP.nrm_abs hK h p hp;have h2 := Int.mul_le_mul_of_nonneg_right (show (l.length : Int) ≤ 39 by omega) hK;exact len_can (by omega)
theorem cf_len {x : TB} (h : LIn x) (v : Int) : (can (LnP.cf (psB x.f1) v)).f1.length ≤ 400 := by
 have hK : (0 : Int) ≤ B32 ^ 300 := Int.le_of_lt (pow_pos' (B := B32) (by decide) 300);have h1 := LnP.cf_abs hK (psB_abs h.p) v
 have h3 : (psB x.f1).length ≤ 39 := by have := h.few; unfold psB; simpa using this
 have h2 := Int.mul_le_mul_of_nonneg_right (show ((psB x.f1).length : Int) ≤ 39 by omega) hK;exact Nat.le_trans (len_can (L := 300) (by omega)) (by decide)
theorem sub_ok {x y : TB} {vr : Int} (hx : LIn x) (hy : LIn y) (hxy : x.f1.length + y.f1.length ≤ 39) : NIn (tt (bv x.f0) (LnP.nrm (psB (x.f1.filter (fun p => p.f0 != vr))))) ∧ NIn (tt (bv y.f0 * bv (can (LnP.cf (psB x.f1) vr))) (LnP.nrm ((psB y.f1).map (fun p : Int × Int => (p.1, p.2 * bv (can (LnP.cf (psB x.f1) vr))))))) ∧ (tt (bv x.f0) (LnP.nrm (psB (x.f1.filter (fun p => p.f0 != vr))))).f1.length + (tt (bv y.f0 * bv (can (LnP.cf (psB x.f1) vr))) (LnP.nrm ((psB y.f1).map (fun p : Int × Int => (p.1, p.2 * bv (can (LnP.cf (psB x.f1) vr))))))).f1.length ≤ 39 ∧ Big (can (bv (tt (bv x.f0) (LnP.nrm (psB (x.f1.filter (fun p => p.f0 != vr))))).f0 + bv (tt (bv y.f0 * bv (can (LnP.cf (psB x.f1) vr))) (LnP.nrm ((psB y.f1).map (fun p : Int × Int => (p.1, p.2 * bv (can (LnP.cf (psB x.f1) vr))))))).f0)) := by
 have hk := cf_len hx vr
 have l1 : (tt (bv x.f0) (LnP.nrm (psB (x.f1.filter (fun p => p.f0 != vr))))).f1.length ≤ x.f1.length := by
  show (List.map cp _).length ≤ _
  rw [List.length_map];refine Nat.le_trans (LnP.nrm_len _) ?_;unfold psB;rw [List.length_map];exact List.length_filter_le ..
 have l2 : (tt (bv y.f0 * bv (can (LnP.cf (psB x.f1) vr))) (LnP.nrm ((psB y.f1).map (fun p : Int × Int => (p.1, p.2 * bv (can (LnP.cf (psB x.f1) vr))))))).f1.length ≤ y.f1.length := by
  show (List.map cp _).length ≤ _
  rw [List.length_map];refine Nat.le_trans (LnP.nrm_len _) ?_;unfold psB
  simp
 have hml := mul_len (x := y.f0) (y := (can (LnP.cf (psB x.f1) vr))) ⟨hy.c.1, by have := hy.c.2; omega⟩ ⟨can_dg _, hk⟩;refine ⟨⟨by have := hx.few; omega, ⟨can_dg _, ?_⟩, fun p hp => ?_, fun p hp => ?_⟩, ⟨by have := hy.few; omega, ⟨can_dg _, Nat.le_trans hml (by decide)⟩, fun p hp => ?_, fun p hp => ?_⟩, by omega, can_dg _, ?_⟩
 ·refine Nat.le_trans (len_can (L := 300) ?_) (by decide)
  have h1 := abs_lt' hx.c.1 hx.c.2;generalize B32 ^ 300 = K at *
  omega
 ·obtain ⟨z, _, rfl⟩ := List.mem_map.1 hp
  exact can_dg _
 ·obtain ⟨z, hz, rfl⟩ := List.mem_map.1 hp
  refine Nat.le_trans (nrm_can (L := 300) ?_ (psB_abs (fun p hp => hx.p p (List.mem_filter.1 hp).1)) z hz) (by decide);unfold psB;rw [List.length_map];exact Nat.le_trans (List.length_filter_le ..) hx.few
 ·obtain ⟨z, _, rfl⟩ := List.mem_map.1 hp
  exact can_dg _
 ·obtain ⟨z, hz, rfl⟩ := List.mem_map.1 hp
  refine Nat.le_trans (nrm_can (L := 800) ?_ (fun p hp => ?_) z hz) (by decide)
  ·have := hy.few; unfold psB; simp; omega
  ·obtain ⟨q, hq, rfl⟩ := List.mem_map.1 hp
   unfold psB at hq;obtain ⟨r, hr, rfl⟩ := List.mem_map.1 hq;have h2 := mul_len (x := r.f1) (y := (can (LnP.cf (psB x.f1) vr))) ⟨(hy.p r hr).1, by have := (hy.p r hr).2; omega⟩ ⟨can_dg _, hk⟩;have h3 := abs_lt' (can_dg (bv r.f1 * bv (can (LnP.cf (psB x.f1) vr)))) h2;rw [bv_can] at h3;exact Int.le_of_lt h3
 ·refine Nat.le_trans (len_can (L := 800) ?_) (by decide)
  have h1 := abs_lt' hx.c.1 hx.c.2;have h2 := abs_lt' (can_dg (bv y.f0 * bv (can (LnP.cf (psB x.f1) vr)))) hml;have h4 := pow_mono (B := B32) (by decide) (show 300 ≤ 800 by decide)
  show ((bv (can (bv x.f0)) + bv (can (bv y.f0 * bv (can (LnP.cf (psB x.f1) vr))))).natAbs : Int) ≤ _
  rw [bv_can];generalize B32 ^ 800 = K at *;generalize B32 ^ 300 = K2 at *
  omega
set_option maxHeartbeats 1600000 in
theorem lin_Subst (ok : Nat → Prop) (v u : Value) (x y : TB) (vr : Int) (w0 : World) (hok : ∀ k, w0.heap.size ≤ k → ok k) (h : Kv kTB (fun _ => True) w0 v x) (h' : Kv kTB (fun _ => True) w0 u y) (hx : LIn x) (hy : LIn y) (hxy : x.f1.length + y.f1.length ≤ 39) :
  Calls Tryd.prog 12 #[v, .int .i64 vr, u] w0 (KPost kTB ok w0 (tt (bv x.f0 + bv y.f0 * LnP.cf (psB x.f1) vr) (LnP.nrm (psB (x.f1.filter (fun p => p.f0 != vr)) ++ (psB y.f1).map (fun p : Int × Int => (p.1, p.2 * LnP.cf (psB x.f1) vr)))))) := by
 obtain ⟨A, c, B, d, rfl, -, -⟩ := h.openTB;obtain ⟨A2, c2, B2, d2, rfl, -, -⟩ := h'.openTB;have C := Ctx.new (cs := [.bool false, .slice none 0 0, .slice none 0 0]) (t := 27) (Ctx.new (cs := [.bool y.f0.f0, .slice A2 y.f0.f1.length c2, .slice B2 y.f1.length d2]) (t := 27) (Ctx.new (cs := [.bool x.f0.f0, .slice A x.f0.f1.length c, .slice B x.f1.length d]) (t := 27) (Ctx.cons (uB w0) (Below.refl _ _) (Ctx.cons (uK kTB (fun _ => True) (.agg #[.bool x.f0.f0, .slice A x.f0.f1.length c, .slice B x.f1.length d]) x) h (Ctx.cons (uK kTB (fun _ => True) (.agg #[.bool y.f0.f0, .slice A2 y.f0.f1.length c2, .slice B2 y.f1.length d2]) y) h' Ctx.nil)))));simp only [World.size_alloc] at C;have hb1 := Sdq.mk (sub_ok (vr := vr) hx hy hxy);have hx := Sdq.mk hx;have hy := Sdq.mk hy;have hok := Sdq.mk hok
 obtain ⟨rr, hrr⟩ : ∃ rr, rr = tt (bv x.f0 + bv y.f0 * LnP.cf (psB x.f1) vr) (LnP.nrm (psB (x.f1.filter (fun p => p.f0 != vr)) ++ (psB y.f1).map (fun p : Int × Int => (p.1, p.2 * LnP.cf (psB x.f1) vr)))) := ⟨_, rfl⟩
 rw [← hrr]
 have HRR := Sdq.mk (show tt (bv (tt (bv x.f0) (LnP.nrm (psB (x.f1.filter (fun p => p.f0 != vr))))).f0 + bv (tt (bv y.f0 * bv (can (LnP.cf (psB x.f1) vr))) (LnP.nrm ((psB y.f1).map (fun p : Int × Int => (p.1, p.2 * bv (can (LnP.cf (psB x.f1) vr))))))).f0) (LnP.nrm (psB (tt (bv x.f0) (LnP.nrm (psB (x.f1.filter (fun p => p.f0 != vr))))).f1 ++ psB (tt (bv y.f0 * bv (can (LnP.cf (psB x.f1) vr))) (LnP.nrm ((psB y.f1).map (fun p : Int × Int => (p.1, p.2 * bv (can (LnP.cf (psB x.f1) vr))))))).f1)) = rr by
  rw [hrr];unfold tt;rw [psB_cp, psB_cp, bv_can, bv_can, bv_can]
  congr 1
  exact congrArg (List.map cp) (LnP.nrm_congr (fun v => by rw [LnP.cf_append, LnP.cf_append, LnP.cf_nrm, LnP.cf_nrm])))
 clear h h' hrr hxy;go_enter Tryd.func12, Tryd.ntmps12
 go_upto_region 1 with fail
 refine absW _ C ?_;clear C;intro w1 C;refine flowS (m := 9) (n := 10) lin_Subst.tab1 rfl (Ctx _) (Rl [uEq (.agg #[.bool x.f0.f0, .slice A x.f0.f1.length c, .slice B x.f1.length d]), uEq (.int .i64 vr), uKd kTB (fun _ => True) (tt (bv x.f0) (LnP.nrm (psB (x.f1.filter (fun p => p.f0 != vr))))), uEq (.agg #[.bool y.f0.f0, .slice A2 y.f0.f1.length c2, .slice B2 y.f1.length d2]), uEq (.agg #[.bool x.f0.f0, .slice A x.f0.f1.length c, .slice B x.f1.length d]), uEq (.int .i64 vr), uKd k24 (fun _ => True) (can (LnP.cf (psB x.f1) vr)), uKd kTB (fun _ => True) (tt (bv y.f0 * bv (can (LnP.cf (psB x.f1) vr))) (LnP.nrm ((psB y.f1).map (fun p : Int × Int => (p.1, p.2 * bv (can (LnP.cf (psB x.f1) vr))))))), uKd kTB (fun k => ok k ∧ k ≠ w0.heap.size + 2) rr]) rfl (by kernel_rfl) (by kernel_rfl) (fun _ _ h hb => h.below hb) (Rl.up _) C ⟨⟨⟨⟨⟨⟨⟨⟨⟨trivial, ?_⟩, ?_⟩, ?_⟩, ?_⟩, ?_⟩, ?_⟩, ?_⟩, ?_⟩, ?_⟩ ?_
 ·refine At.of _ rfl (fun e_ a w hC hd hb K hK => ?_)
  have b3 : a.tmps[3]? = some (.pointer (some ⟨w0.heap.size, 0, none⟩)) := hb 3 (by decide);have cc0 : w.cell? ⟨w0.heap.size, 0, none⟩ = some (.bool x.f0.f0) := Ctx.blk hC.2.2.1 0 rfl;have cc1 : w.cell? ⟨w0.heap.size, 1, none⟩ = some (.slice A x.f0.f1.length c) := Ctx.blk hC.2.2.1 1 rfl;have cc2 : w.cell? ⟨w0.heap.size, 2, none⟩ = some (.slice B x.f1.length d) := Ctx.blk hC.2.2.1 2 rfl;refine value_ (w1 := w) (v := .agg #[.bool x.f0.f0, .slice A x.f0.f1.length c, .slice B x.f1.length d]) (by rfl) rfl ?_ (hK.out _ _ (Below.refl _ _) rfl);clear hC hd hb hK
  first | (go_simp; done) | (go_simp; rfl)
 ·refine At.of _ rfl (fun e_ a w hC hd hb K hK => ?_)
  have b1 : a.tmps[1]? = some (.int .i64 vr) := hb 1 (by decide);refine value_ (w1 := w) (v := .int .i64 vr) (by rfl) rfl ?_ (hK.out _ _ (Below.refl _ _) rfl);clear hC hd hb hK
  first | (go_simp; done) | (go_simp; rfl)
 ·refine At.of _ rfl (fun e_ a w hC hd hb K hK => ?_)
  have q7 := (hd 0 (by decide)).2 7 rfl;rw [show e_ 0 = _ from (hd 0 (by decide)).1] at q7;have q8 := (hd 1 (by decide)).2 8 rfl;rw [show e_ 1 = _ from (hd 1 (by decide)).1] at q8;refine goes_ Tryd.func15 (by kernel_rfl) rfl #[.agg #[.bool x.f0.f0, .slice A x.f0.f1.length c, .slice B x.f1.length d], .int .i64 vr] (by rfl) rfl rfl (by first | (simp [Act.eval, q7, q8]; done) | (simp [Act.eval, q7, q8]; rfl)) ?_;refine (lin_Without (fun _ => True) _ x vr w (fun _ _ => trivial) hC.2.2.2.2.1 (lin_nin hx.out)).mono ?_;rintro en w' ⟨v, rfl, hv, hb'⟩;exact ⟨v, rfl, hK.out v w' hb' hv⟩
 ·refine At.of _ rfl (fun e_ a w hC hd hb K hK => ?_)
  have b5 : a.tmps[5]? = some (.pointer (some ⟨w0.heap.size + 1, 0, none⟩)) := hb 5 (by decide);have cc0 : w.cell? ⟨w0.heap.size + 1, 0, none⟩ = some (.bool y.f0.f0) := Ctx.blk hC.2.1 0 rfl;have cc1 : w.cell? ⟨w0.heap.size + 1, 1, none⟩ = some (.slice A2 y.f0.f1.length c2) := Ctx.blk hC.2.1 1 rfl;have cc2 : w.cell? ⟨w0.heap.size + 1, 2, none⟩ = some (.slice B2 y.f1.length d2) := Ctx.blk hC.2.1 2 rfl;refine value_ (w1 := w) (v := .agg #[.bool y.f0.f0, .slice A2 y.f0.f1.length c2, .slice B2 y.f1.length d2]) (by rfl) rfl ?_ (hK.out _ _ (Below.refl _ _) rfl);clear hC hd hb hK
  first | (go_simp; done) | (go_simp; rfl)
 ·refine At.of _ rfl (fun e_ a w hC hd hb K hK => ?_)
  have b3 : a.tmps[3]? = some (.pointer (some ⟨w0.heap.size, 0, none⟩)) := hb 3 (by decide);have cc0 : w.cell? ⟨w0.heap.size, 0, none⟩ = some (.bool x.f0.f0) := Ctx.blk hC.2.2.1 0 rfl;have cc1 : w.cell? ⟨w0.heap.size, 1, none⟩ = some (.slice A x.f0.f1.length c) := Ctx.blk hC.2.2.1 1 rfl;have cc2 : w.cell? ⟨w0.heap.size, 2, none⟩ = some (.slice B x.f1.length d) := Ctx.blk hC.2.2.1 2 rfl;refine value_ (w1 := w) (v := .agg #[.bool x.f0.f0, .slice A x.f0.f1.length c, .slice B x.f1.length d]) (by rfl) rfl ?_ (hK.out _ _ (Below.refl _ _) rfl);clear hC hd hb hK
  first | (go_simp; done) | (go_simp; rfl)
 ·refine At.of _ rfl (fun e_ a w hC hd hb K hK => ?_)
  have b1 : a.tmps[1]? = some (.int .i64 vr) := hb 1 (by decide);refine value_ (w1 := w) (v := .int .i64 vr) (by rfl) rfl ?_ (hK.out _ _ (Below.refl _ _) rfl);clear hC hd hb hK
  first | (go_simp; done) | (go_simp; rfl)
 ·refine At.of _ rfl (fun e_ a w hC hd hb K hK => ?_)
  have q11 := (hd 4 (by decide)).2 11 rfl;rw [show e_ 4 = _ from (hd 4 (by decide)).1] at q11;have q12 := (hd 5 (by decide)).2 12 rfl;rw [show e_ 5 = _ from (hd 5 (by decide)).1] at q12;refine goes_ Tryd.func44 (by kernel_rfl) rfl #[.agg #[.bool x.f0.f0, .slice A x.f0.f1.length c, .slice B x.f1.length d], .int .i64 vr] (by rfl) rfl rfl (by first | (simp [Act.eval, q11, q12]; done) | (simp [Act.eval, q11, q12]; rfl)) ?_;refine (lin_Coef (fun _ => True) _ x vr w (fun _ _ => trivial) hC.2.2.2.2.1 (lin_nin hx.out)).mono ?_;rintro en w' ⟨v, rfl, hv, hb'⟩;exact ⟨v, rfl, hK.out v w' hb' hv⟩
 ·refine At.of _ rfl (fun e_ a w hC hd hb K hK => ?_)
  have q10 := (hd 3 (by decide)).2 10 rfl;rw [show e_ 3 = _ from (hd 3 (by decide)).1] at q10;have q13 := (hd 6 (by decide)).2 13 rfl;refine goes_ Tryd.func24 (by kernel_rfl) rfl #[.agg #[.bool y.f0.f0, .slice A2 y.f0.f1.length c2, .slice B2 y.f1.length d2], e_ 6] (by rfl) rfl rfl (by first | (simp [Act.eval, q10, q13]; done) | (simp [Act.eval, q10, q13]; rfl)) ?_;refine (lin_Scale (fun _ => True) _ _ y (can (LnP.cf (psB x.f1) vr)) w (fun _ _ => trivial) hC.2.2.2.2.2.1 (hd 6 (by decide)).1 (lin_sin hy.out) ⟨can_dg _, cf_len hx.out vr⟩).mono ?_;rintro en w' ⟨v, rfl, hv, hb'⟩;exact ⟨v, rfl, hK.out v w' hb' hv⟩
 ·refine At.of _ rfl (fun e_ a w hC hd hb K hK => ?_)
  have q9 := (hd 2 (by decide)).2 9 rfl;have q14 := (hd 7 (by decide)).2 14 rfl;refine goes_ Tryd.func18 (by kernel_rfl) rfl #[e_ 2, e_ 7] (by rfl) rfl rfl (by first | (simp [Act.eval, q9, q14]; done) | (simp [Act.eval, q9, q14]; rfl)) ?_;have h1 := lin_Add (fun k => ok k ∧ k ≠ w0.heap.size + 2) _ _ (tt (bv x.f0) (LnP.nrm (psB (x.f1.filter (fun p => p.f0 != vr))))) (tt (bv y.f0 * bv (can (LnP.cf (psB x.f1) vr))) (LnP.nrm ((psB y.f1).map (fun p : Int × Int => (p.1, p.2 * bv (can (LnP.cf (psB x.f1) vr))))))) w (fun k hk => by have := blk_lt (show w.heap[w0.heap.size + 2]? = _ from hC.1); exact ⟨hok.out k (by omega), by omega⟩) (hd 2 (by decide)).1 (hd 7 (by decide)).1 hb1.out.1 hb1.out.2.1 hb1.out.2.2.1 hb1.out.2.2.2;rw [HRR.out] at h1;refine h1.mono ?_;rintro en w' ⟨v, rfl, hv, hb'⟩;exact ⟨v, rfl, hK.out v w' hb' hv⟩
 ·intro e_ w2 hC hr a ha
  obtain ⟨yA, yc, yB, yd, he4, -, -⟩ := Kv.openTB hr.2;have hv2 : Kv kTB (fun k => ok k ∧ k ≠ w0.heap.size + 2) w2 (e_ 8) rr := hr.2;rw [he4] at hv2;simp only [fill, Act.put, he4, Nat.reduceAdd, Nat.reduceLT, decide_true, decide_false, if_true, Bool.false_eq_true, if_false, List.setIfInBounds_toArray, List.set_cons_zero, List.set_cons_succ] at ha;subst ha;clear hr he4;have E := Sdq.mk (end3 (O := (fun k => ok k ∧ k ≠ w0.heap.size + 2)) (ok := ok) hC.1 hC.2.2.2.1 (by omega) (fun k hk => hk) hv2 _ rfl);have r0 := Ctx.blk hC.1 0 rfl;have r1 := Ctx.blk hC.1 1 rfl;have r2 := Ctx.blk hC.1 2 rfl;have f0 := Ctx.frz hC.1 0;have f1 := Ctx.frz hC.1 1;have f2 := Ctx.frz hC.1 2;clear hC hv2;simp only [List.drop_succ_cons, List.drop_zero]
  go_wp2_with fail
  have E := E.out;clear r0 r1 r2 f0 f1 f2;generalize World.setCell _ _ _ = wf at E ⊢;obtain ⟨EP, e0, e1, e2⟩ := E;exact bodyPost_ret (by first | (simp [results, Tryd.results12, go_sem, e0, e1, e2]; done) | (simp [results, Tryd.results12, go_sem, e0, e1, e2]; rfl)) rfl EP
end Go.Proofs.YthpgjgmaamcaoaaDoor.P
end
section
namespace Go.Proofs.YthpgjgmaamcaoaaDoor.P.R
open Go.RowKit Go.Shelf Go.Proofs.YthpgjgmaamcaoaaDoor.P Go.Proofs.YthpgjgmaamcaoaaDoorW.PrintWords Go.Proofs.YthpgjgmaamcaoaaDoorW.PrintLast Go.Proofs.YthpgjgmaamcaoaaDoorW.PrintMore Go.Proofs.YthpgjgmaamcaoaaDoor.Nm
set_option maxRecDepth 100000
set_option linter.unusedVariables false
set_option linter.unusedSimpArgs false
structure CS (W0 W : World) (b : Bool) (A : Option Addr) (m c : Nat) (n : Int) : Prop where
 blk : (uBlk W0.heap.size [.bool b, .slice A m c] 34).p W
 kv : Kv k34 (fun k => W0.heap.size < k) W (.agg #[.bool b, .slice A m c]) (cn n)
 bel : Below W0.heap.size W0 W
section
variable {W0 W W' : World} {b b' : Bool} {A A' : Option Addr} {m c m' c' : Nat} {n n' : Int}
theorem CS.below (h : CS W0 W b A m c n) (hb : Below W.heap.size W W') : CS W0 W' b A m c n := ⟨(uBlk _ _ _).up _ _ h.blk hb, h.kv.below hb, below_step h.bel hb⟩
theorem CS.put (h : CS W0 W b A m c n) (hk : Kv k34 (fun k => W0.heap.size < k) W (.agg #[.bool b', .slice A' m' c']) (cn n')) : CS W0 ((W.setCell ⟨W0.heap.size, 0, none⟩ (.bool b')).setCell ⟨W0.heap.size, 1, none⟩ (.slice A' m' c')) b' A' m' c' n' :=
 ⟨Ctx.put (Ctx.put h.blk 0 _) 1 _, (hk.far (p := ⟨W0.heap.size, 0, none⟩) (fun k hk e => by have : k = W0.heap.size := e; omega) _).far (p := ⟨W0.heap.size, 1, none⟩) (fun k hk e => by have : k = W0.heap.size := e; omega) _, (h.bel.setCell (p := ⟨W0.heap.size, 0, none⟩) (Nat.le_refl _) _).setCell (p := ⟨W0.heap.size, 1, none⟩) (Nat.le_refl _) _⟩
theorem CS.start (W0 : World) : CS W0 (W0.alloc (.cells #[.bool false, .slice none 0 0] 34)) false none 0 0 0 :=
 ⟨blk_new W0 _, by
  have e : cn 0 = ⟨false, []⟩ := by first | rfl | (unfold cn; simp) | (unfold cn; simp [dig])
  rw [e]
  exact Kv.mkN (x := ⟨false, []⟩) (Nat.le_refl _) (Kd.F_nil _ _ _), bal (Below.refl _ _) _⟩
end
theorem nv_abs {x : S34} {L : Nat} (hd : Dg 10 x.f1) (hl : x.f1.length ≤ L) : ((nv x).natAbs : Int) < 10 ^ L := by
 have h1 := val_lt (B := 10) (by decide) hd;have h0 := val_nonneg (B := 10) (by decide) hd;have h2 := pow_mono (B := 10) (by decide) hl
 have : ((nv x).natAbs : Int) = val 10 x.f1 := by unfold nv sg; split <;> omega
 omega
theorem psR_abs {L : Nat} {x : TR} (hx : DIn L x) : ∀ p ∈ psR x.f1, (p.2.natAbs : Int) ≤ 10 ^ L := fun p hp => by
 unfold psR at hp;obtain ⟨q, hq, rfl⟩ := List.mem_map.1 hp;exact Int.le_of_lt (nv_abs (hx.p q hq).1 (hx.p q hq).2)
theorem len_cn {n : Int} {L : Nat} (h : (n.natAbs : Int) ≤ 40 * 10 ^ L) : (cn n).f1.length ≤ L + 2 := by
 refine cn_len ?_;have hp := pow_pos' (B := 10) (by decide) L;rw [show L + 2 = L + 1 + 1 from rfl, Int.pow_succ, Int.pow_succ];generalize (10 : Int) ^ L = K at *
 omega
theorem cf_lenR {L : Nat} {x : TR} (hx : DIn L x) (i : Nat) (v : Int) : (cn (LnP.cf ((psR x.f1).take i) v)).f1.length ≤ L + 2 := by
 have hK : (0 : Int) ≤ 10 ^ L := Int.le_of_lt (pow_pos' (B := 10) (by decide) L);refine len_cn ?_;have h1 := LnP.cf_abs hK (l := (psR x.f1).take i) (fun p hp => psR_abs hx p (List.mem_of_mem_take hp)) v
 have h2 : ((psR x.f1).take i).length ≤ 39 := by have := hx.few; unfold psR; simp; omega
 have h3 := Int.mul_le_mul_of_nonneg_right (show ((((psR x.f1).take i).length : Nat) : Int) ≤ 39 by omega) hK
 omega
theorem r11_Coef.tab6 : tabOf (opsOf Tryd.f45 6) = ([some 23, some 24, some 25, some 26, some 27, some 28, some 29, some 30, none], [[], [], [1], [], [2, 3], [4], [5], [0, 6], [7, 7, 0, 1, 2, 3, 4, 5, 6, 7]]) := by kernel_rfl
theorem r11_Coef (ok : Nat → Prop) (v : Value) (x : TR) (vr : Int) (L : Nat) (w0 : World) (hok : ∀ k, w0.heap.size ≤ k → ok k) (h : Kv kTR (fun _ => True) w0 v x) (hx : DIn L x) (hL : L ≤ 100000) :
  Calls Tryd.prog 45 #[v, .int .i64 vr] w0 (KPost k34 ok w0 (cn (LnP.cf (psR x.f1) vr))) := by
 obtain ⟨A, c, B, d, rfl, hk, hp⟩ := h.openTR;have C := Ctx.new (cs := [.bool false, .slice none 0 0]) (t := 34) (Ctx.new (cs := [.bool x.f0.f0, .slice A x.f0.f1.length c, .slice B x.f1.length d]) (t := 37) (Ctx.cons (uB w0) (Below.refl _ _) (Ctx.cons (uCv k66 (fun _ => True) x.f1 (.slice B x.f1.length d)) hp Ctx.nil)));simp only [World.size_alloc] at C;have hx := Sdq.mk hx;have hok := Sdq.mk hok
 obtain ⟨rr, hrr⟩ : ∃ rr, rr = cn (LnP.cf (psR x.f1) vr) := ⟨_, rfl⟩
 rw [← hrr];have HRR := Sdq.mk hrr;clear h hk hp hrr;go_enter Tryd.func45, Tryd.ntmps45
 go_upto_region 1 with fail
 refine absW _ C ?_;clear C;intro w1 C;have hB0 := Sdq.mk (CS.start w1);have C := Sdq.mk C
 go_upto_region 2 with fail
 obtain ⟨W5, eW5⟩ : ∃ W5, W5 = w1.alloc (.cells #[.bool false, .slice none 0 0] 34) := ⟨_, rfl⟩
 rw [← eW5] at hB0 ⊢;clear eW5
 obtain ⟨n, en⟩ : ∃ n, n = x.f1.length := ⟨_, rfl⟩
 have hn := Sdq.mk en
 have hn39 : n ≤ 39 := by rw [en]; exact hx.out.few
 clear en
 go_wp2_with fail
 go_loopg [6] n (fun gk s6 wr => ∃ (i : Nat) (vb : Bool) (vA : Option Addr) (vm vc : Nat), gk + i = n ∧ s6 = .int .i64 (i : Int) ∧ Sdq (CS w1 wr vb vA vm vc (LnP.cf ((psR x.f1).take i) vr)))
 case atStart => exact ⟨0, _, _, _, _, by omega, rfl, hB0⟩
 case round =>
  clear hB0;obtain ⟨i, vb, vA, vm, vc, hgi, rfl, hN⟩ := hrel;have y2 := Ctx.blk ((uBlk _ _ _).up _ _ C.out.2.1 hN.out.bel) 2 rfl;rw [← hn.out] at y2
  cases gk with
  | zero =>
   obtain rfl : i = n := by omega
   have z0 := Ctx.blk hN.out.blk 0 rfl;have z1 := Ctx.blk hN.out.blk 1 rfl
   have hrr := Sdq.mk (show cn (LnP.cf ((psR x.f1).take i) vr) = rr by
    rw [HRR.out, List.take_of_length_le (by have := hn.out; unfold psR; simp; omega)])
   have hres := (uBlk _ _ _).up _ _ C.out.1 hN.out.bel;have hrl := blk_lt (show w1.heap[w0.heap.size + 1]? = _ from C.out.1);have E := Sdq.mk (end2 (ok := ok) (O := fun k => w1.heap.size < k) hres (below_step C.out.2.2.1 hN.out.bel) (Nat.le_succ _) (fun k hk => ⟨hok.out k (by omega), by omega⟩) (hrr.out ▸ hN.out.kv) _ rfl);have r0 := Ctx.blk hres 0 rfl;have r1 := Ctx.blk hres 1 rfl;have f0 := Ctx.frz hres 0;have f1 := Ctx.frz hres 1;clear hN hrr hres hrl
   go_wp2_with fail
   have E := E.out;clear z0 z1 r0 r1 f0 f1;generalize World.setCell _ _ _ = wf at E ⊢;obtain ⟨EP, e0, e1⟩ := E;exact bodyPost_ret (by first | (simp [results, Tryd.results45, go_sem, e0, e1]; done) | (simp [results, Tryd.results45, go_sem, e0, e1]; rfl)) rfl EP
  | succ j =>
   have hin : i < x.f1.length := by have := hn.out; omega
   obtain ⟨B', d', e1, -, hF⟩ := C.out.2.2.2.1.below hN.out.bel
   injection e1 with e2 _ e3
   subst e2;subst e3;obtain ⟨ad, e, rfl, x0, x1, x2, hfk⟩ := row_el hF hin;have HP := Sdq.mk (And.intro hgi hin)
   have hin2 : i < n := by omega
   have hst := Sdq.mk (show LnP.cf ((psR x.f1).take (i + 1)) vr = LnP.cf ((psR x.f1).take i) vr + if x.f1[i].f0 = vr then nv x.f1[i].f1 else 0 by
    rw [cf_take (by unfold psR; simpa using hin)];unfold psR
    simp only [List.getElem_map])
   have hev : e.v = x.f1[i].f0 := (fk_el hfk).1;have hqd := Sdq.mk (hx.out.p _ (List.getElem_mem hin))
   obtain ⟨q, eq⟩ : ∃ q, q = x.f1[i] := ⟨_, rfl⟩
   rw [← eq] at hfk hev hst hqd;have HEV := Sdq.mk hev;clear eq hgi hin hev;by_cases hv : e.v = vr
   ·have hvb : (e.v == vr) = true := by simpa using hv
    have HX := Sdq.mk (show LnP.cf ((psR x.f1).take (i + 1)) vr = LnP.cf ((psR x.f1).take i) vr + nv q.f1 by rw [hst.out, if_pos (by rw [← HEV.out]; exact hv)])
    have C6 : Ctx [⟨fun W => CS w1 W vb vA vm vc (LnP.cf ((psR x.f1).take i) vr), fun _ _ h hb => h.below hb⟩, uBlk w0.heap.size [.bool x.f0.f0, .slice A x.f0.f1.length c, .slice (some ad) n d] 37, uEl ad i e, uK k34 (fun _ => True) (.agg #[.bool e.b, .slice e.A e.n e.c]) q.f1] wr := ⟨hN.out, by rw [hn.out]; exact (uBlk _ _ _).up _ _ C.out.2.1 hN.out.bel, ⟨x0, x1, x2⟩, el_kv hfk, trivial⟩
    have hA := Sdq.mk (fun (W : World) (hC : Ctx [⟨fun W => CS w1 W vb vA vm vc (LnP.cf ((psR x.f1).take i) vr), fun _ _ h hb => h.below hb⟩, uBlk w0.heap.size [.bool x.f0.f0, .slice A x.f0.f1.length c, .slice (some ad) n d] 37, uEl ad i e, uK k34 (fun _ => True) (.agg #[.bool e.b, .slice e.A e.n e.c]) q.f1] W) => r2_Add (fun k => w1.heap.size < k) _ _ (cn (LnP.cf ((psR x.f1).take i) vr)) q.f1 W (fun k hk => by have := blk_lt (show W.heap[w1.heap.size]? = _ from hC.1.blk); omega) (hC.1.kv.mono (fun _ _ => trivial)) hC.2.2.2.1 ⟨cn_dg _, by have := cf_lenR hx.out i vr; omega⟩ ⟨hqd.out.1, by have := hqd.out.2; omega⟩);simp only [nv_cn, ← HX.out] at hA;clear hv hF hfk hN
    go_upto_region 6 with fail
    clear x0 x1 x2 y2;refine absW _ C6 ?_;clear C6;intro w6 C;refine flowS (m := 8) (n := 9) r11_Coef.tab6 rfl (Ctx _) (Rl [uEq (.agg #[.bool vb, .slice vA vm vc]), uEq (.pointer (some ⟨w0.heap.size, 2, none⟩)), uEq (.slice (some ad) n d), uEq (.int .i64 (i : Int)), uEq (.pointer (some (Addr.add ad (i * 3)))), uEq (.pointer (some ⟨(Addr.add ad (i * 3)).block, (Addr.add ad (i * 3)).off + 1, none⟩)), uEq (.agg #[.bool e.b, .slice e.A e.n e.c]), uKd k34 (fun k => w1.heap.size < k) (cn (LnP.cf ((psR x.f1).take (i + 1)) vr))]) rfl (by kernel_rfl) (by kernel_rfl) (fun _ _ h hb => h.below hb) (Rl.up _) C ⟨⟨⟨⟨⟨⟨⟨⟨trivial, ?_⟩, ?_⟩, ?_⟩, ?_⟩, ?_⟩, ?_⟩, ?_⟩, ?_⟩ ?_
    ·refine At.of _ rfl (fun e_ a w hC hd hb K hK => ?_)
     have b5 : a.tmps[5]? = some (.pointer (some ⟨w1.heap.size, 0, none⟩)) := hb 5 (by decide);have cc0 : w.cell? ⟨w1.heap.size, 0, none⟩ = some (.bool vb) := Ctx.blk hC.1.blk 0 rfl;have cc1 : w.cell? ⟨w1.heap.size, 1, none⟩ = some (.slice vA vm vc) := Ctx.blk hC.1.blk 1 rfl;refine value_ (w1 := w) (v := .agg #[.bool vb, .slice vA vm vc]) (by rfl) rfl ?_ (hK.out _ _ (Below.refl _ _) rfl);clear hC hd hb hK hA
     first | (go_simp; done) | (go_simp; rfl)
    ·refine At.of _ rfl (fun e_ a w hC hd hb K hK => ?_)
     have b2 : a.tmps[2]? = some (.pointer (some ⟨w0.heap.size, 0, none⟩)) := hb 2 (by decide);refine value_ (w1 := w) (v := .pointer (some ⟨w0.heap.size, 2, none⟩)) (by rfl) rfl ?_ (hK.out _ _ (Below.refl _ _) rfl);clear hC hd hb hK hA
     first | (go_simp; done) | (go_simp; rfl)
    ·refine At.of _ rfl (fun e_ a w hC hd hb K hK => ?_)
     have q24 := (hd 1 (by decide)).2 24 rfl;rw [show e_ 1 = _ from (hd 1 (by decide)).1] at q24;have cc2 : w.cell? ⟨w0.heap.size, 2, none⟩ = some (.slice (some ad) n d) := Ctx.blk hC.2.1 2 rfl;refine value_ (w1 := w) (v := .slice (some ad) n d) (by rfl) rfl ?_ (hK.out _ _ (Below.refl _ _) rfl);clear hC hd hb hK hA
     first | (go_simp; done) | (go_simp; rfl)
    ·refine At.of _ rfl (fun e_ a w hC hd hb K hK => ?_)
     have b6 : a.tmps[6]? = some (.int .i64 (i : Int)) := hb 6 (by decide);refine value_ (w1 := w) (v := .int .i64 (i : Int)) (by rfl) rfl ?_ (hK.out _ _ (Below.refl _ _) rfl);clear hC hd hb hK hA
     first | (go_simp; done) | (go_simp; rfl)
    ·refine At.of _ rfl (fun e_ a w hC hd hb K hK => ?_)
     have q25 := (hd 2 (by decide)).2 25 rfl;rw [show e_ 2 = _ from (hd 2 (by decide)).1] at q25;have q26 := (hd 3 (by decide)).2 26 rfl;rw [show e_ 3 = _ from (hd 3 (by decide)).1] at q26;refine value_ (w1 := w) (v := .pointer (some (Addr.add ad (i * 3)))) (by rfl) rfl ?_ (hK.out _ _ (Below.refl _ _) rfl);clear hC hd hb hK hA
     first | (go_simp; done) | (go_simp; rfl)
    ·refine At.of _ rfl (fun e_ a w hC hd hb K hK => ?_)
     have q27 := (hd 4 (by decide)).2 27 rfl;rw [show e_ 4 = _ from (hd 4 (by decide)).1] at q27;refine value_ (w1 := w) (v := .pointer (some ⟨(Addr.add ad (i * 3)).block, (Addr.add ad (i * 3)).off + 1, none⟩)) (by rfl) rfl ?_ (hK.out _ _ (Below.refl _ _) rfl);clear hC hd hb hK hA
     first | (go_simp; done) | (go_simp; rfl)
    ·refine At.of _ rfl (fun e_ a w hC hd hb K hK => ?_)
     have q28 := (hd 5 (by decide)).2 28 rfl;rw [show e_ 5 = _ from (hd 5 (by decide)).1] at q28;obtain ⟨x0, x1, x2⟩ := hC.2.2.1;refine value_ (w1 := w) (v := .agg #[.bool e.b, .slice e.A e.n e.c]) (by rfl) rfl ?_ (hK.out _ _ (Below.refl _ _) rfl);clear hC hd hb hK hA
     first | (go_simp; done) | (go_simp; rfl)
    ·refine At.of _ rfl (fun e_ a w hC hd hb K hK => ?_)
     have q23 := (hd 0 (by decide)).2 23 rfl;rw [show e_ 0 = _ from (hd 0 (by decide)).1] at q23;have q29 := (hd 6 (by decide)).2 29 rfl;rw [show e_ 6 = _ from (hd 6 (by decide)).1] at q29;refine goes_ Tryd.func52 (by kernel_rfl) rfl #[.agg #[.bool vb, .slice vA vm vc], .agg #[.bool e.b, .slice e.A e.n e.c]] (by rfl) rfl rfl (by first | (simp [Act.eval, q23, q29]; done) | (simp [Act.eval, q23, q29]; rfl)) ?_;refine (hA.out w hC).mono ?_;rintro en w' ⟨v, rfl, hv, hb'⟩;exact ⟨v, rfl, hK.out v w' hb' hv⟩
    ·intro e_ w7 hC hr a ha
     obtain ⟨yA, yc, he7, -, -⟩ := Kv.openN hr.2;have hv7 : Kv k34 (fun k => w1.heap.size < k) w7 (e_ 7) (cn (LnP.cf ((psR x.f1).take (i + 1)) vr)) := hr.2;rw [he7] at hv7;simp only [fill, Act.put, he7, Nat.reduceAdd, Nat.reduceLT, decide_true, decide_false, if_true, Bool.false_eq_true, if_false, List.setIfInBounds_toArray, List.set_cons_zero, List.set_cons_succ] at ha;subst ha;have z0 := Ctx.blk hC.1.blk 0 rfl;have z1 := Ctx.blk hC.1.blk 1 rfl;have f0 := Ctx.frz hC.1.blk 0;have f1 := Ctx.frz hC.1.blk 1;have HN := Sdq.mk (hC.1.put hv7);clear hr he7 hC hv7 hA C;simp only [List.drop_succ_cons, List.drop_zero]
     go_wp2_with fail
     clear z0 z1 f0 f1
     go_roundg j
     case measure => go_light; omega
     case rel => go_light; exact ⟨i + 1, _, _, _, _, by have := HP.out; omega, by go_num, HN⟩
   ·have hvb : (e.v == vr) = false := by simpa using hv
    have HX := Sdq.mk (show LnP.cf ((psR x.f1).take (i + 1)) vr = LnP.cf ((psR x.f1).take i) vr by rw [hst.out, if_neg (by rw [← HEV.out]; exact hv), Int.add_zero]);clear hv hF hfk
    go_wp2_with fail
    go_roundg j
    case measure => go_light; omega
    case rel => go_light; exact ⟨i + 1, _, _, _, _, by have := HP.out; omega, by go_num, ⟨by rw [HX.out]; exact hN.out⟩⟩
end Go.Proofs.YthpgjgmaamcaoaaDoor.P.R
end
section
namespace Go.Proofs.YthpgjgmaamcaoaaDoor.LnP
def fi (v : Int) : List Int → Nat
 | [] => 0
 | y :: r => if v ≤ y then 0 else fi v r + 1
def insU (v : Int) (l : List Int) : List Int := if l[fi v l]? = some v then l else l.take (fi v l) ++ v :: l.drop (fi v l)
def vset (l : List Int) : List Int := l.foldl (fun a v => insU v a) []
theorem fi_le (v : Int) : ∀ l : List Int, fi v l ≤ l.length
 | [] => Nat.le_refl _
 | y :: r => by
  unfold fi;have := fi_le v r
  split
  ·simp
  ·simp only [List.length_cons]; omega
theorem fi_lt (v : Int) : ∀ (l : List Int) (j : Nat) (h : j < l.length), j < fi v l → l[j] < v
 | y :: r, j, h, hj => by
  unfold fi at hj
  split at hj
  ·omega
  ·cases j with
   | zero => simp; omega
   | succ j => simpa using fi_lt v r j (by simpa using h) (by omega)
theorem fi_ge (v : Int) : ∀ (l : List Int) (h : fi v l < l.length), v ≤ l[fi v l]
 | y :: r, h => by
  by_cases hy : v ≤ y
  ·have e : fi v (y :: r) = 0 := by unfold fi; rw [if_pos hy]
   simp only [e, List.getElem_cons_zero];exact hy
  ·have e : fi v (y :: r) = fi v r + 1 := by rw [fi, if_neg hy]
   have h2 : fi v r < r.length := by rw [e] at h; simpa using h
   simp only [e, List.getElem_cons_succ];exact fi_ge v r h2
theorem fi_drop (v : Int) (l : List Int) {j : Nat} (h : j < l.length) : j + fi v (l.drop j) = if v ≤ l[j] then j else j + 1 + fi v (l.drop (j + 1)) := by
 rw [List.drop_eq_getElem_cons h, fi]
 split <;> omega
def Rise (l : List Int) : Prop := l.Pairwise (· < ·)
theorem insU_mem (v : Int) (l : List Int) (z : Int) : z ∈ insU v l ↔ z = v ∨ z ∈ l := by
 unfold insU
 split
 ·rename_i h
  have := List.mem_of_getElem? h
  constructor
  ·exact .inr
  ·rintro (rfl | h)
   ·exact this
   ·exact h
 ·have e : z ∈ l ↔ z ∈ l.take (fi v l) ∨ z ∈ l.drop (fi v l) := by
   conv => lhs; rw [← List.take_append_drop (fi v l) l]
   exact List.mem_append
  rw [List.mem_append, List.mem_cons, e]
  constructor
  ·rintro (h | h | h)
   ·exact .inr (.inl h)
   ·exact .inl h
   ·exact .inr (.inr h)
  ·rintro (h | h | h)
   ·exact .inr (.inl h)
   ·exact .inl h
   ·exact .inr (.inr h)
theorem insU_rise {v : Int} {l : List Int} (h : Rise l) : Rise (insU v l) := by
 unfold insU
 split
 ·exact h
 ·rename_i hn
  have hle := fi_le v l
  have ht : ∀ z ∈ l.take (fi v l), z < v := fun z hz => by
   obtain ⟨j, hj, rfl⟩ := List.mem_iff_getElem.1 hz;rw [List.length_take] at hj;rw [List.getElem_take];exact fi_lt v l j (by omega) (by omega)
  have hd : ∀ z ∈ l.drop (fi v l), v < z := fun z hz => by
   obtain ⟨j, hj, rfl⟩ := List.mem_iff_getElem.1 hz;rw [List.length_drop] at hj;rw [List.getElem_drop];have h1 := fi_ge v l (by omega)
   have h3 : l[fi v l] ≠ v := fun e => hn (by rw [List.getElem?_eq_getElem (by omega), e])
   cases j with
   | zero => simp only [Nat.add_zero]; omega
   | succ j =>
    have := List.pairwise_iff_getElem.1 h (fi v l) (fi v l + (j + 1)) (by omega) (by omega) (by omega)
    omega
  refine List.pairwise_append.2 ⟨h.sublist (List.take_sublist _ _), List.pairwise_cons.2 ⟨hd, h.sublist (List.drop_sublist _ _)⟩, fun a ha b hb => ?_⟩
  rcases List.mem_cons.1 hb with rfl | hb
  ·exact ht a ha
  ·have h1 := ht a ha
   have h2 := hd b hb
   omega
theorem insU_len (v : Int) (l : List Int) : (insU v l).length ≤ l.length + 1 := by
 unfold insU
 split
 ·omega
 ·simp; omega
theorem vset_snoc (l : List Int) (v : Int) : vset (l ++ [v]) = insU v (vset l) := by unfold vset; rw [List.foldl_append]; rfl
theorem vset_all : ∀ (n : Nat) (l : List Int), l.length = n → Rise (vset l) ∧ (∀ z, z ∈ vset l ↔ z ∈ l) ∧ (vset l).length ≤ n := by
 intro n
 induction n with
 | zero =>
  intro l h;rw [List.length_eq_zero_iff.1 h];exact ⟨List.Pairwise.nil, fun z => Iff.rfl, Nat.le_refl _⟩
 | succ n ih =>
  intro l h
  rcases List.eq_nil_or_concat l with rfl | ⟨a, v, rfl⟩
  ·simp at h
  ·rw [List.concat_eq_append] at h ⊢
   simp only [List.length_append, List.length_singleton] at h;obtain ⟨h1, h2, h3⟩ := ih a (by omega);rw [vset_snoc];refine ⟨insU_rise h1, fun z => ?_, by have := insU_len v (vset a); omega⟩;rw [insU_mem, h2, List.mem_append, List.mem_singleton];exact or_comm
theorem cf_keys (g : Int → Int) (v : Int) : ∀ l : List Int, Rise l → cf ((l.map fun z => (z, g z)).filter (fun p => p.2 != 0)) v = if v ∈ l then g v else 0
 | [], _ => rfl
 | y :: r, h => by
  have hr := (List.pairwise_cons.1 h).2;have hy := (List.pairwise_cons.1 h).1;have ih := cf_keys g v r hr
  have hvy : y = v → v ∉ r := by
   rintro rfl hm;have := hy _ hm
   omega
  rw [List.map_cons, List.filter_cons];by_cases h0 : g y = 0
  ·rw [if_neg (by simp [h0]), ih]
   by_cases e : v = y
   ·subst e
    rw [if_neg (hvy rfl), if_pos (List.mem_cons_self ..), h0]
   ·simp [e]
  ·rw [if_pos (by simpa using h0), cf_cons, ih]
   by_cases e : v = y
   ·subst e
    rw [if_pos rfl, if_neg (hvy rfl), if_pos (List.mem_cons_self ..)]
    omega
   ·rw [if_neg (fun h => e h.symm)]
    simp [e]
theorem cf_nokey (v : Int) : ∀ l : Ps, v ∉ l.map Prod.fst → cf l v = 0
 | [], _ => rfl
 | p :: r, h => by
  rw [List.map_cons, List.mem_cons, not_or] at h;rw [cf_cons, if_neg (fun e => h.1 e.symm), cf_nokey v r h.2]
  rfl
theorem vars_nrm (l : Ps) : ((vset (l.map Prod.fst)).map fun z => (z, cf l z)).filter (fun p => p.2 != 0) = nrm l := by
 obtain ⟨h1, h2, -⟩ := vset_all _ (l.map Prod.fst) rfl;refine nrm_eq ⟨?_, fun q hq => by simpa using (List.mem_filter.1 hq).2⟩ (fun v => ?_)
 ·refine List.Pairwise.filter _ ?_
  rw [List.pairwise_map];exact h1
 ·rw [cf_keys (fun z => cf l z) v _ h1]
  split
  ·rfl
  ·rename_i hn
   rw [h2] at hn;exact (cf_nokey v l hn).symm
end Go.Proofs.YthpgjgmaamcaoaaDoor.LnP
end
section
namespace Go.Proofs.YthpgjgmaamcaoaaDoor.P.R
open Go.RowKit Go.Shelf Go.Proofs.YthpgjgmaamcaoaaDoor.P Go.Proofs.YthpgjgmaamcaoaaDoorW.PrintWords Go.Proofs.YthpgjgmaamcaoaaDoorW.PrintLast Go.Proofs.YthpgjgmaamcaoaaDoorW.PrintMore Go.Proofs.YthpgjgmaamcaoaaDoor.Nm
set_option maxRecDepth 100000
set_option linter.unusedVariables false
set_option linter.unusedSimpArgs false
theorem r_keep {k : IntKind} {e base N : Nat} {W W' : World} {v u : Value} {xs ys : List Int} (h : (Kd.int k).R e W base (fun i => N ≤ i) v xs) (hg : W.grownBy W' v.ownBlock) (hu : Cv (Kd.int k) (fun i => i < N) W u ys) : Cv (Kd.int k) (fun i => i < N) W' u ys := by
 obtain ⟨A, c, e, hc, hF⟩ := hu;refine ⟨A, c, e, hc, Kd.F_step hF (fun i hi hlt => hg.block i hlt (fun e => ?_))⟩;have := h.1 i e.symm
 omega
theorem cv_C {k : IntKind} {ok : Nat → Prop} {W : World} {A : Option Addr} {n c : Nat} {xs : List Int} (h : Cv (Kd.int k) ok W (.slice A n c) xs) : Kd.C (Kd.int k) W A n xs := by
 obtain ⟨A', c', e, _, f⟩ := h
 injection e with e1 e2 _
 subst e1;rw [e2];exact Kd.F_now f
set_option maxHeartbeats 3200000 in
theorem r11_Vars (ok : Nat → Prop) (v : Value) (x : TR) (w0 : World) (hok : ∀ k, w0.heap.size ≤ k → ok k) (h : Kv kTR (fun _ => True) w0 v x) (hx : x.f1.length ≤ 39) :
  Calls Tryd.prog 58 #[v] w0 (CPost (Kd.int .i64) ok w0 (LnP.vset (x.f1.map (fun p => p.f0)))) := by
 obtain ⟨A, c, B, d, rfl, -, hp⟩ := h.openTR;have C := Ctx.new (cs := [.bool x.f0.f0, .slice A x.f0.f1.length c, .slice B x.f1.length d]) (t := 37) (Ctx.cons (uB w0) (Below.refl _ _) (Ctx.cons (uCv k66 (fun _ => True) x.f1 (.slice B x.f1.length d)) hp Ctx.nil));have hok := Sdq.mk hok;clear h hp;go_enter Tryd.func58, Tryd.ntmps58
 go_upto_region 1 with fail
 refine absW _ C ?_;clear C;intro w1 C;have C := Sdq.mk C
 obtain ⟨n, en⟩ : ∃ n, n = x.f1.length := ⟨_, rfl⟩
 have hn := Sdq.mk en
 have hn39 : n ≤ 39 := by rw [en]; exact hx
 clear en
 go_wp2_with fail
 go_loopg [3, 4] n (fun gk s3 s4 wr => ∃ (i : Nat) (vs : List Int), gk + i = n ∧ s4 = .int .i64 (i : Int) ∧ vs.length ≤ i ∧ Sdq (vs = LnP.vset ((x.f1.take i).map (fun p => p.f0))) ∧ Sdq (Cv (Kd.int .i64) (fun k => w0.heap.size ≤ k) wr s3 vs) ∧ Sdq (Below w1.heap.size w1 wr))
 case atStart => exact ⟨0, [], by omega, rfl, Nat.le_refl _, ⟨rfl⟩, ⟨Cv.nil⟩, ⟨Below.refl _ _⟩⟩
 case round =>
  obtain ⟨i, vs, hgi, rfl, hvl, hvs, hcv, hbe⟩ := hrel;have y2 := Ctx.blk ((uBlk _ _ _).up _ _ C.out.1 hbe.out) 2 rfl;rw [← hn.out] at y2
  cases gk with
  | zero =>
   obtain rfl : i = n := by omega
   have hres := Sdq.mk (show CPost (Kd.int .i64) ok w0 (LnP.vset (x.f1.map (fun p => p.f0))) (.returned u3) wr from ⟨_, rfl, by
    have := hcv.out.mono hok.out;rw [hvs.out, List.take_of_length_le (by have := hn.out; omega)] at this
    exact this, below_step C.out.2.1 hbe.out⟩)
   clear hcv hvs
   go_wp2_with fail
   go_ret;exact hres.out
  | succ j =>
   have hin : i < x.f1.length := by have := hn.out; omega
   obtain ⟨B', d', e1, -, hF⟩ := C.out.2.2.1.below hbe.out
   injection e1 with e2 _ e3
   subst e2;subst e3;obtain ⟨ad, e, rfl, x0, x1, x2, hfk⟩ := row_el hF hin;have HP := Sdq.mk (And.intro hgi hin)
   have hin2 : i < n := by omega
   have hev : e.v = x.f1[i].f0 := (fk_el hfk).1
   have hst := Sdq.mk (show LnP.vset ((x.f1.take (i + 1)).map (fun p => p.f0)) = LnP.insU e.v vs by
    rw [List.take_succ_eq_append_getElem hin, List.map_append, hev, hvs.out]
    exact LnP.vset_snoc _ _)
   clear hev hfk x1 x2 hF hvs hgi hin;obtain ⟨vA, vc, rfl, hvc, hvF⟩ := hcv.out;have hrow := row_of hvF;have hfl := LnP.fi_le e.v vs
   obtain ⟨m, em⟩ : ∃ m, m = vs.length := ⟨_, rfl⟩
   have hm := Sdq.mk em;rw [← em] at hvl hvc ⊢
   have hcv' : Sdq (Cv (Kd.int .i64) (fun k => w0.heap.size ≤ k) wr (.slice vA m vc) vs) := by have := hcv; rw [← em] at this; exact this
   clear hcv em
   go_wp2_with fail
   clear x0 y2
   go_loopg [6, 7] m (fun gk s6 s7 wq => gk ≤ m ∧ s7 = .int .i64 ((gk : Int) - 1) ∧ s6 = .int .i64 ((gk + LnP.fi e.v (vs.drop gk) : Nat) : Int) ∧ wq = wr)
   case atStart => exact ⟨Nat.le_refl _, by go_num, by rw [hm.out, List.drop_length]; rfl, rfl⟩
   case round =>
    obtain ⟨hkm, rfl, rfl, rfl⟩ := hrel
    cases gk with
    | succ k =>
     rw [show ((k + 1 : Nat) : Int) - 1 = k by omega]
     have hkl : k < vs.length := by have := hm.out; omega
     obtain ⟨bd, rfl, hcc⟩ := row_some hrow hkl;have hy := hcc k hkl;clear hcc;have hstep := LnP.fi_drop e.v vs hkl
     have hkm2 : k < m := by omega
     obtain ⟨y, ey⟩ : ∃ y, y = vs[k] := ⟨_, rfl⟩
     rw [← ey] at hy hstep;clear ey;have hkm3 := Sdq.mk hkm;by_cases hle : e.v ≤ y
     ·rw [if_pos hle] at hstep
      have hstep := Sdq.mk hstep;go_wp2
      go_roundg k
      case measure => omega
      case rel => exact ⟨by have := hkm3.out; omega, by go_num, by rw [hstep.out], rfl⟩
     ·rw [if_neg hle] at hstep
      have hstep := Sdq.mk hstep;go_wp2
      go_roundg k
      case measure => omega
      case rel => exact ⟨by have := hkm3.out; omega, by go_num, by rw [hstep.out]; congr 1, rfl⟩
    | zero =>
     simp only [List.drop_zero, Nat.zero_add]
     obtain ⟨at_, eat⟩ : ∃ q, q = LnP.fi e.v vs := ⟨_, rfl⟩
     rw [← eat] at hfl ⊢;rw [← hm.out] at hfl
     have hins : LnP.insU e.v vs = if vs[at_]? = some e.v then vs else vs.take at_ ++ e.v :: vs.drop at_ := by rw [eat]; rfl
     clear eat;by_cases hat : vs[at_]? = some e.v
     ·obtain ⟨hal, hav⟩ := List.getElem?_eq_some_iff.1 hat
      obtain ⟨bd, rfl, hcc⟩ := row_some hrow hal;have hy := hcc at_ hal;rw [hav] at hy;rw [if_pos hat] at hins;have hv2 := Sdq.mk (hst.out.trans hins)
      have hal2 : at_ < m := by rw [hm.out]; exact hal
      clear hcc hrow hins hat hav hal hvF;go_wp2
      go_roundg j
      case measure => go_light; omega
      case rel => go_light; exact ⟨i + 1, vs, by have := HP.out; omega, by go_num, by have := hm.out; omega, ⟨hv2.out.symm⟩, hcv', hbe⟩
     ·rw [if_neg hat] at hins
      have hv2 := Sdq.mk (hst.out.trans hins);have hmv := hm.out
      have hg1 : at_ < m → ∃ bd z, vA = some bd ∧ wr.cell? (bd.add at_) = some (.int .i64 z) ∧ (z == e.v) = false := fun h => by
       obtain ⟨bd, rfl, hcc⟩ := row_some hrow (show at_ < vs.length by omega)
       exact ⟨bd, _, rfl, hcc at_ (by omega), by
        simp only [beq_eq_false_iff_ne, ne_eq];intro e2
        exact hat (by rw [List.getElem?_eq_getElem (by omega), e2])⟩
      obtain ⟨i0, hi0, his0⟩ := info_of info3;have hcut1 := cut_h (P := Tryd.prog) Tryd.underlying32 hi0 vA m vc at_ (by omega);have hcut2 := cut_l (P := Tryd.prog) Tryd.underlying32 hi0 1 his0 vA m vc at_ (by omega)
      obtain ⟨A2, eA2⟩ : ∃ A2, A2 = (if vc = at_ then vA else vA.map (fun x => x.add (at_ * 1))) := ⟨_, rfl⟩
      rw [← eA2] at hcut2
      have hF2 : Cv (Kd.int .i64) (fun k => k < wr.heap.size) wr (.slice A2 (m - at_) (vc - at_)) (vs.drop at_) := by
       have h1 := Cv.drop (d := Kd.int .i64) (c := vc) (by omega) (Kd.F_mono (Kd.F_bound hvF) (fun k hk => hk.2) (ok' := fun k => k < wr.heap.size)) at_ (by omega);rw [← hm.out] at h1;rw [eA2];exact h1
      have hC1 : Kd.C (Kd.int .i64) wr vA at_ (vs.take at_) := by
       have := Kd.F_now (Kd.F_take hvF (show at_ ≤ vs.length by omega));rw [List.length_take, Nat.min_eq_left (by omega)] at this;exact this
      have hF2 := Sdq.mk hF2;have hC1 := Sdq.mk hC1;have hB1 := hbe;have hw01 := Sdq.mk (show w0.heap.size ≤ wr.heap.size from (below_step C.out.2.1 hbe.out).size);have hl1 := Sdq.mk (show (([] : List Int).length + at_) * 8 ≤ 140737488355328 by simp; omega);have hl2 := Sdq.mk (show ((vs.take at_).length + 1) * 8 ≤ 140737488355328 by rw [List.length_take]; omega);have hl3 := Sdq.mk (show ((vs.take at_ ++ [e.v]).length + (m - at_)) * 8 ≤ 140737488355328 by rw [List.length_append, List.length_take]; simp; omega);have hlm := Sdq.mk (And.intro hfl (And.intro hm.out hvl));clear hrow hins hat hvF eA2 hi0 his0 hmv;by_cases hal : at_ < m
      ·obtain ⟨bd, z, rfl, hz, hzf⟩ := hg1 hal
       clear hg1
       go_wp2_with (first
        | ((with_reducible refine gate_builtin (b := .append) (xs := #[.tmp 50, .tmp 53]) rfl ?_); at_builtin; go_loud (refine Kd.R_append_rows (Kd.int .i64) (w0 := w1) w1.heap.size rfl (.tmp 50) (.tmp 53) 32 3 (.int .i64 0) 8 rfl Tryd.underlying32 info3 rfl (by decide) (by decide) (.slice none 0 0) ([] : List Int) (vs.take at_) (some bd) at_ vc (fun k => wr.heap.size ≤ k) (fun _ => False) rfl rfl (Kd.R_nil _ _ _ _ _) hC1.out (fun _ _ h => h) (fun _ h => h.elim) (fun _ h => h) hB1.out hB1.out.size hl1.out ?_; intro v7 w7 ho7 hb7 hg7 hat7; obtain ⟨A7, c7, e7⟩ := Kd.R_slice ho7; rw [show (([] : List Int) ++ vs.take at_).length = at_ by rw [List.nil_append, List.length_take]; have := hlm.out; omega] at e7; subst e7; rw [List.nil_append] at ho7; have hu7 := Sdq.mk (r_keep (Kd.R_nil (Kd.int .i64) 3 wr w1.heap.size (fun k => wr.heap.size ≤ k)) hg7 hF2.out); have ho7 := Sdq.mk ho7; have hb7 := Sdq.mk hb7; have hs7 := Sdq.mk hg7.size; clear hg7 hat7))
        | ((with_reducible refine gate_builtin (b := .append) (xs := #[.tmp 55, .tmp 57]) rfl ?_); at_builtin; go_loud (refine Kd.R_append (Kd.int .i64) (w0 := w1) w1.heap.size rfl (.tmp 55) (.tmp 57) 32 3 (.int .i64 0) 8 rfl Tryd.underlying32 info3 rfl (by decide) (by decide) _ (vs.take at_) e.v [.int .i64 e.v] (fun k => wr.heap.size ≤ k) (fun _ => False) rfl rfl rfl (fun _ hk => hk.elim) (fun k hk => Nat.le_trans hs7.out hk) ho7.out hb7.out hb7.out.size hl2.out ?_; intro v8 w8 ho8 hb8 hg8 hat8; obtain ⟨A8, c8, e8⟩ := Kd.R_slice ho8; rw [show (vs.take at_ ++ [e.v]).length = at_ + 1 by rw [List.length_append, List.length_take]; have := hlm.out; simp; omega] at e8; subst e8; have hu8 := Sdq.mk (r_keep ho7.out hg8 hu7.out); have ho8 := Sdq.mk ho8; have hb8 := Sdq.mk hb8; have hs8 := Sdq.mk (Nat.le_trans hs7.out hg8.size); clear hg8 hat8))
        | ((with_reducible refine gate_builtin (b := .append) (xs := #[.tmp 59, .tmp 62]) rfl ?_); at_builtin; go_loud (refine Kd.R_append_rows (Kd.int .i64) (w0 := w1) w1.heap.size rfl (.tmp 59) (.tmp 62) 32 3 (.int .i64 0) 8 rfl Tryd.underlying32 info3 rfl (by decide) (by decide) _ (vs.take at_ ++ [e.v]) (vs.drop at_) A2 (m - at_) (vc - at_) (fun k => wr.heap.size ≤ k) (fun _ => False) rfl rfl ho8.out (cv_C hu8.out) (fun _ _ h => h) (fun _ h => h.elim) (fun k hk => Nat.le_trans hs8.out hk) hb8.out hb8.out.size hl3.out ?_; intro v9 w9 ho9 hb9 hg9 hat9; have hs9 := Sdq.mk (Nat.le_trans hs8.out hg9.size); obtain ⟨A9, c9, e9⟩ := Kd.R_slice ho9; rw [show (vs.take at_ ++ [e.v] ++ vs.drop at_).length = m + 1 by rw [List.length_append, List.length_append, List.length_take, List.length_drop]; have := hlm.out; simp; omega] at e9; subst e9; have ho9 := Sdq.mk ho9; have hb9 := Sdq.mk hb9; clear hg9 hat9)))
       go_roundg j
       case measure => go_light; omega
       case rel => go_light; exact ⟨i + 1, vs.take at_ ++ [e.v] ++ vs.drop at_, by have := HP.out; omega, by go_num, by rw [List.length_append, List.length_append, List.length_take, List.length_drop]; have := hlm.out; simp; omega, ⟨by rw [hv2.out]; simp⟩, ⟨(Cv.ofR ho9.out).mono (fun k hk => Nat.le_trans hw01.out hk)⟩, hb9⟩
      ·clear hg1
       go_wp2_with (first
        | ((with_reducible refine gate_builtin (b := .append) (xs := #[.tmp 50, .tmp 53]) rfl ?_); at_builtin; go_loud (refine Kd.R_append_rows (Kd.int .i64) (w0 := w1) w1.heap.size rfl (.tmp 50) (.tmp 53) 32 3 (.int .i64 0) 8 rfl Tryd.underlying32 info3 rfl (by decide) (by decide) (.slice none 0 0) ([] : List Int) (vs.take at_) vA at_ vc (fun k => wr.heap.size ≤ k) (fun _ => False) rfl rfl (Kd.R_nil _ _ _ _ _) hC1.out (fun _ _ h => h) (fun _ h => h.elim) (fun _ h => h) hB1.out hB1.out.size hl1.out ?_; intro v7 w7 ho7 hb7 hg7 hat7; obtain ⟨A7, c7, e7⟩ := Kd.R_slice ho7; rw [show (([] : List Int) ++ vs.take at_).length = at_ by rw [List.nil_append, List.length_take]; have := hlm.out; omega] at e7; subst e7; rw [List.nil_append] at ho7; have hu7 := Sdq.mk (r_keep (Kd.R_nil (Kd.int .i64) 3 wr w1.heap.size (fun k => wr.heap.size ≤ k)) hg7 hF2.out); have ho7 := Sdq.mk ho7; have hb7 := Sdq.mk hb7; have hs7 := Sdq.mk hg7.size; clear hg7 hat7))
        | ((with_reducible refine gate_builtin (b := .append) (xs := #[.tmp 55, .tmp 57]) rfl ?_); at_builtin; go_loud (refine Kd.R_append (Kd.int .i64) (w0 := w1) w1.heap.size rfl (.tmp 55) (.tmp 57) 32 3 (.int .i64 0) 8 rfl Tryd.underlying32 info3 rfl (by decide) (by decide) _ (vs.take at_) e.v [.int .i64 e.v] (fun k => wr.heap.size ≤ k) (fun _ => False) rfl rfl rfl (fun _ hk => hk.elim) (fun k hk => Nat.le_trans hs7.out hk) ho7.out hb7.out hb7.out.size hl2.out ?_; intro v8 w8 ho8 hb8 hg8 hat8; obtain ⟨A8, c8, e8⟩ := Kd.R_slice ho8; rw [show (vs.take at_ ++ [e.v]).length = at_ + 1 by rw [List.length_append, List.length_take]; have := hlm.out; simp; omega] at e8; subst e8; have hu8 := Sdq.mk (r_keep ho7.out hg8 hu7.out); have ho8 := Sdq.mk ho8; have hb8 := Sdq.mk hb8; have hs8 := Sdq.mk (Nat.le_trans hs7.out hg8.size); clear hg8 hat8))
        | ((with_reducible refine gate_builtin (b := .append) (xs := #[.tmp 59, .tmp 62]) rfl ?_); at_builtin; go_loud (refine Kd.R_append_rows (Kd.int .i64) (w0 := w1) w1.heap.size rfl (.tmp 59) (.tmp 62) 32 3 (.int .i64 0) 8 rfl Tryd.underlying32 info3 rfl (by decide) (by decide) _ (vs.take at_ ++ [e.v]) (vs.drop at_) A2 (m - at_) (vc - at_) (fun k => wr.heap.size ≤ k) (fun _ => False) rfl rfl ho8.out (cv_C hu8.out) (fun _ _ h => h) (fun _ h => h.elim) (fun k hk => Nat.le_trans hs8.out hk) hb8.out hb8.out.size hl3.out ?_; intro v9 w9 ho9 hb9 hg9 hat9; have hs9 := Sdq.mk (Nat.le_trans hs8.out hg9.size); obtain ⟨A9, c9, e9⟩ := Kd.R_slice ho9; rw [show (vs.take at_ ++ [e.v] ++ vs.drop at_).length = m + 1 by rw [List.length_append, List.length_append, List.length_take, List.length_drop]; have := hlm.out; simp; omega] at e9; subst e9; have ho9 := Sdq.mk ho9; have hb9 := Sdq.mk hb9; clear hg9 hat9)))
       go_roundg j
       case measure => go_light; omega
       case rel => go_light; exact ⟨i + 1, vs.take at_ ++ [e.v] ++ vs.drop at_, by have := HP.out; omega, by go_num, by rw [List.length_append, List.length_append, List.length_take, List.length_drop]; have := hlm.out; simp; omega, ⟨by rw [hv2.out]; simp⟩, ⟨(Cv.ofR ho9.out).mono (fun k hk => Nat.le_trans hw01.out hk)⟩, hb9⟩
end Go.Proofs.YthpgjgmaamcaoaaDoor.P.R
end
