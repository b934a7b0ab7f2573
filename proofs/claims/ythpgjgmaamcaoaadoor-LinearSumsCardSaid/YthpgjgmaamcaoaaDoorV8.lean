/- Walks and words of this session, put together by a program of this session (pack.py). Conditions: as each text says. -/
import Derived.Test.YthpgjgmaamcaoaaDoorV4
import Derived.Test.YthpgjgmaamcaoaaDoorV7
set_option linter.unusedVariables false
set_option linter.unusedSimpArgs false
section
namespace Go.Proofs.YthpgjgmaamcaoaaDoor.P.R
open Go.RowKit Go.Shelf Go.Proofs.YthpgjgmaamcaoaaDoor.P Go.Proofs.YthpgjgmaamcaoaaDoorW.PrintWords Go.Proofs.YthpgjgmaamcaoaaDoorW.PrintLast Go.Proofs.YthpgjgmaamcaoaaDoorW.PrintMore Go.Proofs.YthpgjgmaamcaoaaDoor.Nm
set_option maxRecDepth 100000
set_option linter.unusedVariables false
set_option linter.unusedSimpArgs false
theorem kv_laid {α : Type} {kd : Kd α} {W0 W : World} {g t : Nat} {z0 z1 c0 c1 : Value} {x : α} (hz : (uBlk g [z0, z1] t).p W) (hg : W0.heap.size ≤ g) (hb : Below W0.heap.size W0 W) (h : Kv kd (fun k => W0.heap.size ≤ k ∧ (some g : Option Nat) ≠ some k) W (.agg #[c0, c1]) x) :
  (uBlk g [c0, c1] t).p ((W.setCell ⟨g, 0, none⟩ c0).setCell ⟨g, 1, none⟩ c1) ∧ Kv kd (fun k => W0.heap.size ≤ k) ((W.setCell ⟨g, 0, none⟩ c0).setCell ⟨g, 1, none⟩ c1) (.agg #[c0, c1]) x ∧ Below W0.heap.size W0 ((W.setCell ⟨g, 0, none⟩ c0).setCell ⟨g, 1, none⟩ c1) := by
 have hne : ∀ k, (W0.heap.size ≤ k ∧ (some g : Option Nat) ≠ some k) → k ≠ g := fun k hk e => hk.2 (by rw [e])
 exact ⟨Ctx.put (Ctx.put hz 0 c0) 1 c1, ((h.far (p := ⟨g, 0, none⟩) hne c0).far (p := ⟨g, 1, none⟩) hne c1).mono (fun k hk => hk.1), bstq (bstq hb hg) hg⟩
theorem num_fk {O : Nat → Prop} {W : World} {y z : Int} {A : Option Addr} {n c : Nat} {b : Bool} (h : Kv k34 O W (.agg #[.bool b, .slice A n c]) (cn z)) : Kd.FK k66 W O (cp (y, z)) (El.cs ⟨y, b, A, n, c⟩) := by
 obtain ⟨A', c', e, hc, hF⟩ := h.openN;simp only [Value.agg.injEq, Array.mk.injEq, List.cons.injEq, Value.bool.injEq, Value.slice.injEq, and_true] at e;obtain ⟨rfl, rfl, rfl, rfl⟩ := e;exact el_fk rfl rfl rfl hc hF
def npt (l : LnP.Ps) (vs : List Int) : List S66 := ((vs.map (fun z => (z, LnP.cf l z))).filter (fun p => p.2 != 0)).map cp
theorem npt_snoc (l : LnP.Ps) (vs : List Int) (y : Int) : npt l (vs ++ [y]) = npt l vs ++ if LnP.cf l y = 0 then [] else [cp (y, LnP.cf l y)] := by
 unfold npt;rw [List.map_append, List.filter_append, List.map_append]
 congr 1
 by_cases h : LnP.cf l y = 0
 ·simp [h]
 ·simp [h]
theorem npt_len (l : LnP.Ps) (vs : List Int) : (npt l vs).length ≤ vs.length := by
 unfold npt;rw [List.length_map];refine Nat.le_trans (List.length_filter_le ..) ?_
 simp
theorem r11_Norm.tab6 : tabOf (opsOf Tryd.f29 6) = ([some 19, some 20, some 21, some 22, some 23, some 24, some 6, none], [[], [], [], [1, 2], [3], [0, 4], [], [6, 5, 5, 0, 1, 2, 3, 4, 5, 6]]) := by kernel_rfl
theorem r11_Norm.tab8 : tabOf (opsOf Tryd.f29 8) = ([some 28, some 29, some 30, some 31, some 32, some 33, some 34, some 35, some 36, some 37, some 38, none], [[], [0], [], [], [2, 3], [4], [], [5, 6], [7], [1, 8], [0, 1, 2, 3, 4, 5, 6, 7, 8, 9], [10, 9, 9, 0, 1, 2, 3, 4, 5, 6, 7, 8, 9]]) := by kernel_rfl
set_option maxHeartbeats 3200000 in
theorem r11_Norm (ok : Nat → Prop) (v : Value) (x : TR) (L : Nat) (w0 : World) (hok : ∀ k, w0.heap.size ≤ k → ok k) (h : Kv kTR (fun _ => True) w0 v x) (hx : DIn L x) (hL : L ≤ 100000) :
  Calls Tryd.prog 29 #[v] w0 (KPost kTR ok w0 (tt (nv x.f0) (LnP.nrm (psR x.f1)))) := by
 obtain ⟨A, c, B, d, rfl, hk, hp⟩ := h.openTR;have C := Ctx.new (cs := [.bool false, .slice none 0 0, .slice none 0 0]) (t := 37) (Ctx.new (cs := [.bool x.f0.f0, .slice A x.f0.f1.length c, .slice B x.f1.length d]) (t := 37) (Ctx.cons (uB w0) (Below.refl _ _) (Ctx.cons (uK kTR (fun _ => True) (.agg #[.bool x.f0.f0, .slice A x.f0.f1.length c, .slice B x.f1.length d]) x) h (Ctx.cons (uK k34 (fun _ => True) (.agg #[.bool x.f0.f0, .slice A x.f0.f1.length c]) x.f0) hk Ctx.nil))));simp only [World.size_alloc] at C;have hx := Sdq.mk hx;have hok := Sdq.mk hok
 obtain ⟨rr, hrr⟩ : ∃ rr, rr = tt (nv x.f0) (LnP.nrm (psR x.f1)) := ⟨_, rfl⟩
 rw [← hrr];have HRR := Sdq.mk hrr;clear h hk hp hrr;go_enter Tryd.func29, Tryd.ntmps29
 go_upto_region 1 with fail
 refine absW _ C ?_;clear C;intro w1 C;have y0 := Ctx.blk C.2.1 0 rfl;have y1 := Ctx.blk C.2.1 1 rfl;have hs1 := blk_lt (show w1.heap[w0.heap.size + 1]? = _ from C.1);have hNm := r2_Norm (fun k => w0.heap.size + 2 ≤ k) _ x.f0 w1 (fun k hk => by omega) C.2.2.2.2.1 hx.out.c.1 (by have := hx.out.c.2; omega);have C := Sdq.mk C;clear hs1
 go_upto_region 2 with (go_at_call 57; refine hNm.mono ?_; rintro e4 w4 ⟨v4, rfl, hv4, hb4⟩; obtain ⟨zA, zc, rfl, -, -⟩ := hv4.openN)
 have C4 := C.out.below hb4;have hs4 := blk_lt (show w4.heap[w0.heap.size + 1]? = _ from C4.1);have hB0 := BS.start (x0 := cn (nv x.f0)) (show w0.heap.size + 2 ≤ w4.heap.size by omega) hv4;have hba : Below w4.heap.size w4 (w4.alloc (.cells #[.bool (cn (nv x.f0)).f0, .slice zA (cn (nv x.f0)).f1.length zc, .slice none 0 0] 37)) := bal (Below.refl _ _) _;have C5 := C4.below hba
 have hs5 : w4.heap.size < (w4.alloc (.cells #[.bool (cn (nv x.f0)).f0, .slice zA (cn (nv x.f0)).f1.length zc, .slice none 0 0] 37)).heap.size := by simp
 have HW := And.intro hB0 (And.intro C5 hs5);clear hv4 hb4 hNm y0 y1 hB0 C5 hs5 hba
 revert HW
 generalize World.alloc w4 _ = W5;rintro ⟨hB0, C5, hs5⟩;have y0 := Ctx.blk C5.2.1 0 rfl;have y1 := Ctx.blk C5.2.1 1 rfl;have y2 := Ctx.blk C5.2.1 2 rfl;have hVs := r11_Vars (fun k => W5.heap.size ≤ k) _ x W5 (fun _ h => h) C5.2.2.2.1 hx.out.few;have hB0 := Sdq.mk hB0;have C4 := Sdq.mk C4;have hs5 := Sdq.mk hs5;clear C5 C
 go_upto_region 3 with (go_at_call 58; refine hVs.mono ?_; rintro e6 w6 ⟨v6, rfl, hv6, hb6⟩)
 obtain ⟨vA, vc, rfl, hvc, hvF⟩ := hv6
 obtain ⟨vs, evs⟩ : ∃ vs, vs = LnP.vset (x.f1.map (fun p => p.f0)) := ⟨_, rfl⟩
 rw [← evs] at hvF hvc ⊢
 have hvl : vs.length ≤ 39 := by
  rw [evs];have := (LnP.vset_all _ (x.f1.map (fun p => p.f0)) rfl).2.2;have h2 := hx.out.few;rw [List.length_map] at this
  omega
 have hvs := Sdq.mk evs
 obtain ⟨m, em⟩ : ∃ m, m = vs.length := ⟨_, rfl⟩
 rw [← em] at hvl ⊢;have hm := Sdq.mk em;have hVS0 := Sdq.mk (show Cv (Kd.int .i64) (Fo 0 w4.heap.size (.slice none 0 0)) w6 (.slice vA m vc) vs by rw [em]; exact ⟨vA, vc, rfl, hvc, Kd.F_mono hvF (fun k hk => ⟨Nat.zero_le _, by have := hs5.out; omega, by simp [Value.ownBlock]⟩)⟩);have hB0 := Sdq.mk ((uBS _ _ _ _ _ _ _ _ _).up _ _ hB0.out hb6);clear hvF hvc em evs y0 y1 y2 hVs hb6
 go_wp2_with fail
 go_loopg [5] m (fun gk s5 wr => ∃ (i : Nat) (pv : Value) (os : List El), gk + i = m ∧ s5 = .int .i64 (i : Int) ∧ Sdq (BS (w0.heap.size + 2) w4 wr (cn (nv x.f0)).f0 zA zc (cn (nv x.f0)) pv os (npt (psR x.f1) (vs.take i))) ∧ Sdq (Cv (Kd.int .i64) (Fo 0 w4.heap.size pv) wr (.slice vA m vc) vs))
 case atStart => exact ⟨0, _, _, rfl, rfl, hB0, hVS0⟩
 case round =>
  clear hB0 hVS0;obtain ⟨i, pv, os, hgi, rfl, hN, hVS⟩ := hrel;obtain ⟨PA, pc, rfl⟩ := hN.out.pvf
  obtain ⟨no, eno0⟩ : ∃ no, no = os.length := ⟨_, rfl⟩
  rw [← eno0] at hN hVS;have eno := Sdq.mk eno0;clear eno0;have C2 := Sdq.mk (C4.out.below hN.out.bel)
  cases gk with
  | zero =>
   obtain rfl : i = m := by omega
   have hrr := Sdq.mk (show (⟨cn (nv x.f0), npt (psR x.f1) (vs.take i)⟩ : TR) = rr by
    rw [HRR.out, List.take_of_length_le (by have := hm.out; omega), hvs.out];unfold npt tt
    rw [← LnP.vars_nrm, show (psR x.f1).map Prod.fst = x.f1.map (fun p => p.f0) by unfold psR; rw [List.map_map]; rfl])
   have hkv := hN.out.kv (by have := npt_len (psR x.f1) (vs.take i); rw [List.length_take] at this; omega);rw [hrr.out] at hkv;have E := Sdq.mk (end3 (O := fun k => w0.heap.size + 2 ≤ k) (ok := ok) C2.out.1 C2.out.2.2.1 (Nat.le_succ _) (fun k hk => ⟨hok.out k (by omega), by omega⟩) hkv _ rfl);have z0 := Ctx.blk hN.out.blk 0 rfl;have z1 := Ctx.blk hN.out.blk 1 rfl;have z2 := Ctx.blk hN.out.blk 2 rfl;have r0 := Ctx.blk C2.out.1 0 rfl;have r1 := Ctx.blk C2.out.1 1 rfl;have r2 := Ctx.blk C2.out.1 2 rfl;have f0 := Ctx.frz C2.out.1 0;have f1 := Ctx.frz C2.out.1 1;have f2 := Ctx.frz C2.out.1 2;clear hN hVS hkv hrr C2
   go_wp2_with fail
   have E := E.out;clear z0 z1 z2 r0 r1 r2 f0 f1 f2;generalize World.setCell _ _ _ = wf at E ⊢;obtain ⟨EP, e0, e1, e2⟩ := E;exact bodyPost_ret (by first | (simp [results, Tryd.results29, go_sem, e0, e1, e2]; done) | (simp [results, Tryd.results29, go_sem, e0, e1, e2]; rfl)) rfl EP
  | succ j =>
   have him : i < vs.length := by have := hm.out; omega
   obtain ⟨vd, rfl, hcc⟩ := row_some (row_of (cv_F hVS.out)) him;have hy := hcc i him;have HP := Sdq.mk (And.intro hgi him)
   have hin2 : i < m := by omega
   have hst := Sdq.mk (show npt (psR x.f1) (vs.take (i + 1)) = npt (psR x.f1) (vs.take i) ++ if LnP.cf (psR x.f1) vs[i] = 0 then [] else [cp (vs[i], LnP.cf (psR x.f1) vs[i])] by
    rw [List.take_succ_eq_append_getElem him, npt_snoc])
   obtain ⟨y, ey⟩ : ∃ y, y = vs[i] := ⟨_, rfl⟩
   rw [← ey] at hy hst
   obtain ⟨xs, hxs⟩ : ∃ xs, xs = npt (psR x.f1) (vs.take i) := ⟨_, rfl⟩
   rw [← hxs] at hN hst;have hxl := Sdq.mk (show xs.length ≤ 39 by rw [hxs]; have := npt_len (psR x.f1) (vs.take i); rw [List.length_take] at this; omega)
   have C6 : Ctx [uBS (w0.heap.size + 2) w4 (cn (nv x.f0)).f0 zA zc (cn (nv x.f0)) (.slice PA no pc) os xs, uBlk w0.heap.size [.bool x.f0.f0, .slice A x.f0.f1.length c, .slice B x.f1.length d] 37, uK kTR (fun _ => True) (.agg #[.bool x.f0.f0, .slice A x.f0.f1.length c, .slice B x.f1.length d]) x, ⟨fun W => W.cell? (vd.add i) = some (.int .i64 y), fun _ _ h hb => pw_cell_below hb h⟩, uCv (Kd.int .i64) (Fo 0 w4.heap.size (.slice PA no pc)) vs (.slice (some vd) m vc), uB wr] wr := ⟨hN.out, C2.out.2.1, C2.out.2.2.2.1, hy, hVS.out, Below.refl _ _, trivial⟩
   have hfr := Sdq.mk (fun (w : World) (hC : Ctx [uBS (w0.heap.size + 2) w4 (cn (nv x.f0)).f0 zA zc (cn (nv x.f0)) (.slice PA no pc) os xs, uBlk w0.heap.size [.bool x.f0.f0, .slice A x.f0.f1.length c, .slice B x.f1.length d] 37, uK kTR (fun _ => True) (.agg #[.bool x.f0.f0, .slice A x.f0.f1.length c, .slice B x.f1.length d]) x, ⟨fun W => W.cell? (vd.add i) = some (.int .i64 y), fun _ _ h hb => pw_cell_below hb h⟩, uCv (Kd.int .i64) (Fo 0 w4.heap.size (.slice PA no pc)) vs (.slice (some vd) m vc), uB wr] w) (b : Option Nat) (hG : ∀ g, b = some g → wr.heap.size ≤ g ∧ (uBlk g [.bool false, .slice none 0 0] 34).p w) (k : Nat) (hk : w.heap.size ≤ k) => show wr.heap.size ≤ k ∧ b ≠ some k from ⟨Nat.le_trans (show Below wr.heap.size wr w from hC.2.2.2.2.2.1).size hk, fun e => by have := blk_lt (show w.heap[k]? = _ from (hG k e).2); omega⟩);have hfo := Sdq.mk (show ∀ k, wr.heap.size ≤ k → Fo (w0.heap.size + 2) w4.heap.size (.slice PA no pc) k from hN.out.fresh);clear ey hxs hcc hgi him hN C2 hVS
   go_upto_region 6 with fail
   clear hy;have C := C6;refine flowX (m := 7) (p := 6) (Z := .cells #[.bool false, .slice none 0 0] 34 (0, 0)) r11_Norm.tab6 rfl (Ctx _) (fun g W => wr.heap.size ≤ g ∧ (uBlk g [.bool false, .slice none 0 0] 34).p W) (Rx [xEq (.agg #[.bool x.f0.f0, .slice A x.f0.f1.length c, .slice B x.f1.length d]), xEq (.slice (some vd) m vc), xEq (.int .i64 (i : Int)), xEq (.pointer (some (Addr.add vd i))), xEq (.int .i64 y), xKd k34 (cn (LnP.cf (psR x.f1) y)), xEq undef] (fun k => wr.heap.size ≤ k)) rfl (by kernel_rfl) (fun _ _ h hb => h.below hb) (fun g _ _ h hb => ⟨h.1, (uBlk g _ _).up _ _ h.2 hb⟩) (Rx.up _ _) (Rx.laid _ _ _) C ⟨⟨⟨⟨⟨⟨⟨trivial, ?_⟩, ?_⟩, ?_⟩, ?_⟩, ?_⟩, ?_⟩, fun h => absurd rfl h⟩ ?_ _ rfl ?_
   ·refine AtX.of _ rfl (fun b e_ a w hC hG hd hb K hK => ?_)
    have b1 : a.tmps[1]? = some (.pointer (some ⟨w0.heap.size, 0, none⟩)) := hb 1 (by decide);have cc0 : w.cell? ⟨w0.heap.size, 0, none⟩ = some (.bool x.f0.f0) := Ctx.blk hC.2.1 0 rfl;have cc1 : w.cell? ⟨w0.heap.size, 1, none⟩ = some (.slice A x.f0.f1.length c) := Ctx.blk hC.2.1 1 rfl;have cc2 : w.cell? ⟨w0.heap.size, 2, none⟩ = some (.slice B x.f1.length d) := Ctx.blk hC.2.1 2 rfl;refine value_ (w1 := w) (v := .agg #[.bool x.f0.f0, .slice A x.f0.f1.length c, .slice B x.f1.length d]) (by rfl) rfl ?_ (hK.out _ _ (Below.refl _ _) rfl);clear hC hG hd hb hK
    first | (go_simp; done) | (go_simp; rfl)
   ·refine AtX.of _ rfl (fun b e_ a w hC hG hd hb K hK => ?_)
    have b4 : a.tmps[4]? = some (.slice (some vd) m vc) := hb 4 (by decide);refine value_ (w1 := w) (v := .slice (some vd) m vc) (by rfl) rfl ?_ (hK.out _ _ (Below.refl _ _) rfl);clear hC hG hd hb hK
    first | (go_simp; done) | (go_simp; rfl)
   ·refine AtX.of _ rfl (fun b e_ a w hC hG hd hb K hK => ?_)
    have b5 : a.tmps[5]? = some (.int .i64 (i : Int)) := hb 5 (by decide);refine value_ (w1 := w) (v := .int .i64 (i : Int)) (by rfl) rfl ?_ (hK.out _ _ (Below.refl _ _) rfl);clear hC hG hd hb hK
    first | (go_simp; done) | (go_simp; rfl)
   ·refine AtX.of _ rfl (fun b e_ a w hC hG hd hb K hK => ?_)
    have q20 := (hd 1 (by decide)).2 20 rfl;rw [show e_ 1 = _ from ((hd 1 (by decide)).1 (by decide))] at q20;have q21 := (hd 2 (by decide)).2 21 rfl;rw [show e_ 2 = _ from ((hd 2 (by decide)).1 (by decide))] at q21;refine value_ (w1 := w) (v := .pointer (some (Addr.add vd i))) (by rfl) rfl ?_ (hK.out _ _ (Below.refl _ _) rfl);clear hC hG hd hb hK
    first | (go_simp; done) | (go_simp; rfl)
   ·refine AtX.of _ rfl (fun b e_ a w hC hG hd hb K hK => ?_)
    have q22 := (hd 3 (by decide)).2 22 rfl;rw [show e_ 3 = _ from ((hd 3 (by decide)).1 (by decide))] at q22;have y0 : w.cell? (vd.add i) = some (.int .i64 y) := hC.2.2.2.1;refine value_ (w1 := w) (v := .int .i64 y) (by rfl) rfl ?_ (hK.out _ _ (Below.refl _ _) rfl);clear hC hG hd hb hK
    first | (go_simp; done) | (go_simp; rfl)
   ·refine AtX.of _ rfl (fun b e_ a w hC hG hd hb K hK => ?_)
    have q19 := (hd 0 (by decide)).2 19 rfl;rw [show e_ 0 = _ from ((hd 0 (by decide)).1 (by decide))] at q19;have q23 := (hd 4 (by decide)).2 23 rfl;rw [show e_ 4 = _ from ((hd 4 (by decide)).1 (by decide))] at q23;refine goes_ Tryd.func45 (by kernel_rfl) rfl #[.agg #[.bool x.f0.f0, .slice A x.f0.f1.length c, .slice B x.f1.length d], .int .i64 y] (by rfl) rfl rfl (by first | (simp [Act.eval, q19, q23]; done) | (simp [Act.eval, q19, q23]; rfl)) ?_;refine (r11_Coef (fun k => wr.heap.size ≤ k ∧ b ≠ some k) _ x y L w (hfr.out w hC b hG) hC.2.2.1 hx.out hL).mono ?_;rintro en w' ⟨v, rfl, hv, hb'⟩;exact ⟨v, rfl, hK.out v w' hb' hv⟩
   ·intro o ho a w hC
    obtain rfl := Option.some.inj (show some _ = some o from ho);refine ⟨⟨(show Below wr.heap.size wr w from hC.2.2.2.2.2.1).size, blk_new w _⟩, fun K hK => ?_⟩;refine value_ (w1 := w.alloc (.cells #[.bool false, .slice none 0 0] 34 (0, 0))) (v := .pointer (some ⟨w.heap.size, 0, none⟩)) (by rfl) rfl ?_ hK;clear hC
    first | (go_simp; done) | (go_simp; rfl)
   ·intro e_ w6 gc hC hp hG hr a ha K hK
    obtain ⟨yA, yc, he5, -, -⟩ := Kv.openN ((hr.1.2 (by decide)))
    have hv5 : Kv k34 (fun k => wr.heap.size ≤ k ∧ (some gc : Option Nat) ≠ some k) w6 (e_ 5) (cn (LnP.cf (psR x.f1) y)) := (hr.1.2 (by decide))
    rw [he5] at hv5;simp only [fill, Act.put, he5, hp, Nat.reduceAdd, Nat.reduceLT, decide_true, decide_false, if_true, Bool.false_eq_true, if_false, List.setIfInBounds_toArray, List.set_cons_zero, List.set_cons_succ] at ha;subst ha;have E := Sdq.mk (kv_laid (kd := k34) hG.2 hG.1 hC.2.2.2.2.2.1 hv5);have z0 := Ctx.blk hG.2 0 rfl;have z1 := Ctx.blk hG.2 1 rfl;have f0 := Ctx.frz hG.2 0;have f1 := Ctx.frz hG.2 1;clear hr he5 hp hC hv5 hG;refine skip_ (w1 := ?_) (by rfl) rfl ?_ ?_
    rotate_left
    ·go_simp
     rfl
    refine hK.out _ _ ?_;clear hK z0 z1 f0 f1;have E := E.out;generalize World.setCell (World.setCell _ _ _) _ _ = w7 at E ⊢;obtain ⟨hk6, hv6, hbf⟩ := E;have C7 := Ctx.below hbf C6;clear C6 C
    obtain ⟨z, ez⟩ : ∃ z, z = LnP.cf (psR x.f1) y := ⟨_, rfl⟩
    rw [← ez] at hk6 hv6 hst ⊢;have hv6 := hv6.mono hfo.out;have hSg := r2_Sign _ (cn z) w7 (hv6.mono (fun _ _ => trivial)) (cn_dg z) (by have := cf_lenR hx.out x.f1.length y; rw [List.take_of_length_le (by unfold psR; simp), ← ez] at this; omega);rw [nv_cn] at hSg;have z0 := Ctx.blk hk6 0 rfl;have z1 := Ctx.blk hk6 1 rfl
    have C8 : Ctx [uBS (w0.heap.size + 2) w4 (cn (nv x.f0)).f0 zA zc (cn (nv x.f0)) (.slice PA no pc) os xs, ⟨fun W => W.cell? (vd.add i) = some (.int .i64 y), fun _ _ h hb => pw_cell_below hb h⟩, uCv (Kd.int .i64) (Fo 0 w4.heap.size (.slice PA no pc)) vs (.slice (some vd) m vc), uBlk gc [.bool (cn z).f0, .slice yA (cn z).f1.length yc] 34, uK k34 (Fo (w0.heap.size + 2) w4.heap.size (.slice PA no pc)) (.agg #[.bool (cn z).f0, .slice yA (cn z).f1.length yc]) (cn z)] w7 := ⟨C7.1, C7.2.2.2.1, C7.2.2.2.2.1, hk6, hv6, trivial⟩
    clear hk6 hv6 C7 hbf ez;by_cases hz : z = 0
    ·have hX := Sdq.mk (show npt (psR x.f1) (vs.take (i + 1)) = xs by rw [hst.out, if_pos hz, List.append_nil])
     rw [sgn_zero hz] at hSg;have C8 := Sdq.mk C8;clear hz;go_wp2_with (go_at_call 59; refine hSg.mono ?_; rintro e8 w8 ⟨rfl, hb8⟩);have C9 := C8.out.below hb8;clear z0 z1 C8 hb8;have hN9 := Sdq.mk (show BS (w0.heap.size + 2) w4 w8 (cn (nv x.f0)).f0 zA zc (cn (nv x.f0)) (.slice PA no pc) os (npt (psR x.f1) (vs.take (i + 1))) by rw [hX.out]; exact C9.1);have hV9 := Sdq.mk C9.2.2.1;rw [eno.out] at hN9 hV9;clear C9
     go_roundg j
     case measure => go_light; omega
     case rel => go_light; exact ⟨i + 1, _, _, by have := HP.out; omega, by go_num, hN9, hV9⟩
    ·have HX := Sdq.mk (show (if z = 0 then [] else [cp (y, z)]) = [cp (y, z)] by rw [if_neg hz])
     have hsz : (sgn z == 0) = false := by
      simp only [beq_eq_false_iff_ne, ne_eq]
      rcases Int.lt_or_gt_of_ne hz with h | h
      ·rw [sgn_lt h]; decide
      ·rw [sgn_gt h]; decide
     obtain ⟨sv, esv⟩ : ∃ sv, sv = sgn z := ⟨_, rfl⟩
     rw [← esv] at hSg hsz;have C8 := Sdq.mk C8;clear hz esv
     go_upto_region 8 with (go_at_call 59; refine hSg.mono ?_; rintro e8 w8 ⟨rfl, hb8⟩)
     have C8 := C8.out.below hb8;clear z0 z1 hSg hsz hb8;refine absW _ C8 ?_;clear C8;intro w9 C8;refine flowS (m := 9) (n := 12) r11_Norm.tab8 rfl (Ctx _) (Rl [uEq (.pointer (some ⟨w4.heap.size, 2, none⟩)), uEq (.slice PA no pc), uEq (.slice (some vd) m vc), uEq (.int .i64 (i : Int)), uEq (.pointer (some (Addr.add vd i))), uEq (.int .i64 y), uEq (.agg #[.bool (cn z).f0, .slice yA (cn z).f1.length yc]), uEq (.agg #[.int .i64 y, .bool (cn z).f0, .slice yA (cn z).f1.length yc]), uBx (Fo (w0.heap.size + 2) w4.heap.size (.slice PA no pc)) (cp (y, z))]) rfl (by kernel_rfl) (by kernel_rfl) (fun _ _ h hb => h.below hb) (Rl.up _) C8 ⟨⟨⟨⟨⟨⟨⟨⟨⟨trivial, ?_⟩, ?_⟩, ?_⟩, ?_⟩, ?_⟩, ?_⟩, ?_⟩, ?_⟩, ?_⟩ ?_
     ·refine At.of _ rfl (fun e_ a w hC hd hb K hK => ?_)
      have b3 : a.tmps[3]? = some (.pointer (some ⟨w4.heap.size, 0, none⟩)) := hb 3 (by decide);refine value_ (w1 := w) (v := .pointer (some ⟨w4.heap.size, 2, none⟩)) (by rfl) rfl ?_ (hK.out _ _ (Below.refl _ _) rfl);clear hC hd hb hK
      first | (go_simp; done) | (go_simp; rfl)
     ·refine At.of _ rfl (fun e_ a w hC hd hb K hK => ?_)
      have q28 := (hd 0 (by decide)).2 28 rfl;rw [show e_ 0 = _ from (hd 0 (by decide)).1] at q28;have cc2 : w.cell? ⟨w4.heap.size, 2, none⟩ = some (.slice PA no pc) := Ctx.blk hC.1.blk 2 rfl;refine value_ (w1 := w) (v := .slice PA no pc) (by rfl) rfl ?_ (hK.out _ _ (Below.refl _ _) rfl);clear hC hd hb hK
      first | (go_simp; done) | (go_simp; rfl)
     ·refine At.of _ rfl (fun e_ a w hC hd hb K hK => ?_)
      have b4 : a.tmps[4]? = some (.slice (some vd) m vc) := hb 4 (by decide);refine value_ (w1 := w) (v := .slice (some vd) m vc) (by rfl) rfl ?_ (hK.out _ _ (Below.refl _ _) rfl);clear hC hd hb hK
      first | (go_simp; done) | (go_simp; rfl)
     ·refine At.of _ rfl (fun e_ a w hC hd hb K hK => ?_)
      have b5 : a.tmps[5]? = some (.int .i64 (i : Int)) := hb 5 (by decide);refine value_ (w1 := w) (v := .int .i64 (i : Int)) (by rfl) rfl ?_ (hK.out _ _ (Below.refl _ _) rfl);clear hC hd hb hK
      first | (go_simp; done) | (go_simp; rfl)
     ·refine At.of _ rfl (fun e_ a w hC hd hb K hK => ?_)
      have q30 := (hd 2 (by decide)).2 30 rfl;rw [show e_ 2 = _ from (hd 2 (by decide)).1] at q30;have q31 := (hd 3 (by decide)).2 31 rfl;rw [show e_ 3 = _ from (hd 3 (by decide)).1] at q31;refine value_ (w1 := w) (v := .pointer (some (Addr.add vd i))) (by rfl) rfl ?_ (hK.out _ _ (Below.refl _ _) rfl);clear hC hd hb hK
      first | (go_simp; done) | (go_simp; rfl)
     ·refine At.of _ rfl (fun e_ a w hC hd hb K hK => ?_)
      have q32 := (hd 4 (by decide)).2 32 rfl;rw [show e_ 4 = _ from (hd 4 (by decide)).1] at q32;have y0 : w.cell? (vd.add i) = some (.int .i64 y) := hC.2.1;refine value_ (w1 := w) (v := .int .i64 y) (by rfl) rfl ?_ (hK.out _ _ (Below.refl _ _) rfl);clear hC hd hb hK
      first | (go_simp; done) | (go_simp; rfl)
     ·refine At.of _ rfl (fun e_ a w hC hd hb K hK => ?_)
      have b6 : a.tmps[6]? = some (.pointer (some ⟨gc, 0, none⟩)) := hb 6 (by decide);have cc0 : w.cell? ⟨gc, 0, none⟩ = some (.bool (cn z).f0) := Ctx.blk hC.2.2.2.1 0 rfl;have cc1 : w.cell? ⟨gc, 1, none⟩ = some (.slice yA (cn z).f1.length yc) := Ctx.blk hC.2.2.2.1 1 rfl;refine value_ (w1 := w) (v := .agg #[.bool (cn z).f0, .slice yA (cn z).f1.length yc]) (by rfl) rfl ?_ (hK.out _ _ (Below.refl _ _) rfl);clear hC hd hb hK
      first | (go_simp; done) | (go_simp; rfl)
     ·refine At.of _ rfl (fun e_ a w hC hd hb K hK => ?_)
      have q33 := (hd 5 (by decide)).2 33 rfl;rw [show e_ 5 = _ from (hd 5 (by decide)).1] at q33;have q34 := (hd 6 (by decide)).2 34 rfl;rw [show e_ 6 = _ from (hd 6 (by decide)).1] at q34;refine value_ (w1 := w) (v := .agg #[.int .i64 y, .bool (cn z).f0, .slice yA (cn z).f1.length yc]) (by rfl) rfl ?_ (hK.out _ _ (Below.refl _ _) rfl);clear hC hd hb hK
      first | (go_simp; done) | (go_simp; rfl)
     ·refine At.of _ rfl (fun e_ a w hC hd hb K hK => ?_)
      have q35 := (hd 7 (by decide)).2 35 rfl;rw [show e_ 7 = _ from (hd 7 (by decide)).1] at q35;refine value_ (w1 := w.alloc (.cells (El.cs (⟨y, (cn z).f0, yA, (cn z).f1.length, yc⟩ : El)).toArray 66)) (v := .slice (some ⟨w.heap.size, 0, none⟩) 1 1) (by rfl) rfl ?_ (hK.out _ _ (bal (Below.refl _ _) _) ⟨w.heap.size, (⟨y, (cn z).f0, yA, (cn z).f1.length, yc⟩ : El), rfl, blk_new w _, Kd.FK_below (num_fk hC.2.2.2.2.1) (bal (Below.refl _ _) _)⟩);clear hC hd hb hK;unfold El.cs
      first | (go_simp; done) | (go_simp; rfl)
     ·intro e_ w10 hC hr a ha
      obtain ⟨gb, e', he8, hbx, hK8⟩ := hr.2;have r1 : e_ 1 = .slice PA no pc := hr.1.1.1.1.1.1.1.2;simp only [fill, Act.put, r1, he8, Nat.reduceAdd, Nat.reduceLT, decide_true, decide_false, if_true, Bool.false_eq_true, if_false, List.setIfInBounds_toArray, List.set_cons_zero, List.set_cons_succ] at ha;subst ha;clear hr r1 he8;obtain rfl := eno.out;obtain ⟨i0, hi, hzz⟩ := Option.map_eq_some_iff.1 infoP;simp only [Prod.mk.injEq] at hzz;obtain ⟨hz1, hz2, hz3⟩ := hzz;have hHI := Sdq.mk (And.intro hi (And.intro hz1 (And.intro hz2 hz3)));clear hi hz1 hz2 hz3;have hN := Sdq.mk (show BS (w0.heap.size + 2) w4 w10 (cn (nv x.f0)).f0 zA zc (cn (nv x.f0)) (.slice PA os.length pc) os xs from hC.1);have hVS := Sdq.mk hC.2.2.1;have hnw := Sdq.mk (bx_news hbx);have hone := Sdq.mk (cs_one1 e');have hK := Sdq.mk hK8;have hOL := Sdq.mk (show os.length ≤ 100001 by have := hN.out.len; have := hxl.out; omega);have hs6 := Sdq.mk (show w4.heap.size + 1 ≤ w10.heap.size by have h1 := blk_lt (show w10.heap[w4.heap.size]? = _ from hN.out.blk); omega);clear hC hbx hK8 C8;simp only [List.drop_succ_cons, List.drop_zero]
      go_wp2_with (first
       | ((with_reducible refine gate_builtin (b := .append) (xs := #[.tmp 29, .tmp 36]) rfl ?_); at_builtin; go_loud (refine wpList_append_own_at _ rfl (.tmp 29) (.tmp 36) 35 rfl (w4.heap.size + 1) 66 i0 _ 3 40 undP hHI.out.1 hHI.out.2.1 hHI.out.2.2.1 hHI.out.2.2.2 rfl (by decide) (.slice PA os.length pc) os.length (os.flatMap El.cs) rfl hN.out.own ⟨gb, 0, none⟩ 1 1 e'.cs rfl rfl hnw.out hone.out (by have := hOL.out; simp only [maxLen]; omega) (by have := hOL.out; omega) hs6.out ?_; intro v1 w11 hown1 hg1 hnil1 hat1; obtain ⟨g1, c1, hv1, -⟩ := ownsRow_slice hown1 (by omega); subst hv1; have hgb := (show (uBlk w4.heap.size _ 37).p w11 from (hg1.block _ (blk_lt (show w10.heap[w4.heap.size]? = _ from hN.out.blk)) hN.out.apart).trans hN.out.blk); have z3 := Ctx.blk hgb 2 rfl; have f3 := Ctx.frz hgb 2; have HNS := Sdq.mk (hN.out.app hK.out hg1 hat1 hown1); have HVS := Sdq.mk (hN.out.keep hg1 hat1 hVS.out); clear hgb hown1 hg1 hnil1 hat1)))
      clear z3 f3
      go_roundg j
      case measure => go_light; omega
      case rel => go_light; exact ⟨i + 1, .slice (some ⟨g1, 0, none⟩) (os.length + 1) c1, os ++ [e'], by have := HP.out; omega, by go_num, ⟨by rw [hst.out, HX.out]; exact HNS.out⟩, HVS⟩
end Go.Proofs.YthpgjgmaamcaoaaDoor.P.R
end
section
namespace Go.Proofs.YthpgjgmaamcaoaaDoor.P.R
open Go.RowKit Go.Shelf Go.Proofs.YthpgjgmaamcaoaaDoor.P Go.Proofs.YthpgjgmaamcaoaaDoorW.PrintWords Go.Proofs.YthpgjgmaamcaoaaDoorW.PrintLast Go.Proofs.YthpgjgmaamcaoaaDoorW.PrintMore Go.Proofs.YthpgjgmaamcaoaaDoor.Nm
set_option maxRecDepth 100000
set_option linter.unusedVariables false
set_option linter.unusedSimpArgs false
theorem r11_Without.tab6 : tabOf (opsOf Tryd.f16 6) = ([some 25, some 26, some 27, some 28, some 29, some 30, some 31, some 32, some 33, some 34, none], [[], [0], [], [2], [], [3, 4], [5], [6], [1, 7], [0, 1, 2, 3, 4, 5, 6, 7, 8], [9, 8, 8, 0, 1, 2, 3, 4, 5, 6, 7, 8]]) := by kernel_rfl
set_option maxHeartbeats 3200000 in
theorem r11_Without (ok : Nat → Prop) (v : Value) (x : TR) (vr : Int) (L : Nat) (w0 : World) (hok : ∀ k, w0.heap.size ≤ k → ok k) (h : Kv kTR (fun _ => True) w0 v x) (hx : DIn L x) (hL : L ≤ 100000) :
  Calls Tryd.prog 16 #[v, .int .i64 vr] w0 (KPost kTR ok w0 (tt (nv x.f0) (LnP.nrm (psR (x.f1.filter (fun p => p.f0 != vr)))))) := by
 obtain ⟨A, c, B, d, rfl, hk, hp⟩ := h.openTR;have C := Ctx.new (cs := [.bool false, .slice none 0 0, .slice none 0 0]) (t := 37) (Ctx.new (cs := [.bool x.f0.f0, .slice A x.f0.f1.length c, .slice B x.f1.length d]) (t := 37) (Ctx.cons (uB w0) (Below.refl _ _) (Ctx.cons (uCv k66 (fun k => k < w0.heap.size) x.f1 (.slice B x.f1.length d)) (hp.within (fun k _ h => h)) (Ctx.cons (uK k34 (fun _ => True) (.agg #[.bool x.f0.f0, .slice A x.f0.f1.length c]) x.f0) hk Ctx.nil))));simp only [World.size_alloc] at C;have hx := Sdq.mk hx;have hok := Sdq.mk hok
 obtain ⟨rr, hrr⟩ : ∃ rr, rr = tt (nv x.f0) (LnP.nrm (psR (x.f1.filter (fun p => p.f0 != vr)))) := ⟨_, rfl⟩
 rw [← hrr];have HRR := Sdq.mk hrr;clear h hk hp hrr;go_enter Tryd.func16, Tryd.ntmps16
 go_upto_region 1 with fail
 refine absW _ C ?_;clear C;intro w4 C;have y0 := Ctx.blk C.2.1 0 rfl;have y1 := Ctx.blk C.2.1 1 rfl;have hB0 := Sdq.mk (BS.start (B := 0) (x0 := x.f0) (Nat.zero_le _) (C.2.2.2.2.1.mono (fun k _ => Nat.zero_le k)));have C4 := Sdq.mk C;clear C
 go_upto_region 2 with fail
 obtain ⟨W5, eW5⟩ : ∃ W5, W5 = w4.alloc (.cells #[.bool x.f0.f0, .slice A x.f0.f1.length c, .slice none 0 0] 37) := ⟨_, rfl⟩
 rw [← eW5] at hB0 ⊢;clear eW5 y0 y1
 obtain ⟨n, en⟩ : ∃ n, n = x.f1.length := ⟨_, rfl⟩
 have hn := Sdq.mk en
 have hn39 : n ≤ 39 := by rw [en]; exact hx.out.few
 clear en
 go_wp2_with fail
 go_loopg [6] n (fun gk s6 wr => ∃ (i : Nat) (pv : Value) (os : List El), gk + i = n ∧ s6 = .int .i64 (i : Int) ∧ Sdq (BS 0 w4 wr x.f0.f0 A c x.f0 pv os ((fun l : List S66 => l.filter (fun p => p.f0 != vr)) (x.f1.take i))))
 case atStart => exact ⟨0, _, _, by omega, rfl, hB0⟩
 case round =>
  clear hB0;obtain ⟨i, pv, os, hgi, rfl, hN⟩ := hrel;obtain ⟨PA, pc, rfl⟩ := hN.out.pvf
  obtain ⟨no, eno0⟩ : ∃ no, no = os.length := ⟨_, rfl⟩
  rw [← eno0] at hN;have eno := Sdq.mk eno0;clear eno0;have C2 := Sdq.mk (C4.out.below hN.out.bel);have y2 := Ctx.blk C2.out.2.1 2 rfl;rw [← hn.out] at y2
  cases gk with
  | zero =>
   obtain rfl : i = n := by omega
   rw [List.take_of_length_le (by have := hn.out; omega)] at hN;have hNm := r11_Norm (fun k => ok k ∧ k ≠ w0.heap.size + 1) _ _ L wr (fun k hk => by have := blk_lt (show wr.heap[w0.heap.size + 1]? = _ from C2.out.1); exact ⟨hok.out k (by omega), by omega⟩) ((hN.out.kv (by refine Nat.le_trans (List.length_filter_le ..) ?_; have := hx.out.few; omega)).mono (fun _ _ => trivial)) ⟨Nat.le_trans (List.length_filter_le ..) hx.out.few, hx.out.c, fun p hp => hx.out.p p ((List.mem_filter.1 hp).1)⟩ (by omega)
   dsimp only at hNm
   rw [← HRR.out] at hNm;have z0 := Ctx.blk hN.out.blk 0 rfl;have z1 := Ctx.blk hN.out.blk 1 rfl;have z2 := Ctx.blk hN.out.blk 2 rfl;clear hN;go_wp2_with (go_at_call 29; refine hNm.mono ?_; rintro e2 w2 ⟨v2, rfl, hv2, hb2⟩; obtain ⟨yA, yc, yB, yd, rfl, -, -⟩ := hv2.openTR; have C3 := C2.out.below hb2; have E := Sdq.mk (end3 (O := fun k => ok k ∧ k ≠ w0.heap.size + 1) (ok := ok) C3.1 C3.2.2.1 (by omega) (fun k hk => hk) hv2 _ rfl); have r0 := Ctx.blk C3.1 0 rfl; have r1 := Ctx.blk C3.1 1 rfl; have r2 := Ctx.blk C3.1 2 rfl; have f0 := Ctx.frz C3.1 0; have f1 := Ctx.frz C3.1 1; have f2 := Ctx.frz C3.1 2; clear C3 hv2 hb2);have E := E.out;clear r0 r1 r2 f0 f1 f2;generalize World.setCell _ _ _ = wf at E ⊢;obtain ⟨EP, e0, e1, e2⟩ := E;exact bodyPost_ret (by first | (simp [results, Tryd.results16, go_sem, e0, e1, e2]; done) | (simp [results, Tryd.results16, go_sem, e0, e1, e2]; rfl)) rfl EP
  | succ j =>
   have hin : i < x.f1.length := by have := hn.out; omega
   obtain ⟨B', d', e1, -, hF⟩ := C2.out.2.2.2.1
   injection e1 with e2 _ e3
   subst e2;subst e3;obtain ⟨ad, e, rfl, x0, x1, x2, hfk⟩ := row_el hF hin;have HP := Sdq.mk (And.intro hgi hin)
   have hin2 : i < n := by omega
   have hst := Sdq.mk (show (x.f1.take (i + 1)).filter (fun p => p.f0 != vr) = (x.f1.take i).filter (fun p => p.f0 != vr) ++ [x.f1[i]].filter (fun p => p.f0 != vr) by rw [List.take_succ_eq_append_getElem hin, List.filter_append]);have hev : e.v = x.f1[i].f0 := (fk_el hfk).1
   obtain ⟨q, eq⟩ : ∃ q, q = x.f1[i] := ⟨_, rfl⟩
   rw [← eq] at hfk hev hst;have HEV := Sdq.mk hev
   obtain ⟨xs, hxs⟩ : ∃ xs, xs = (fun l : List S66 => l.filter (fun p => p.f0 != vr)) (x.f1.take i) := ⟨_, rfl⟩
   rw [← hxs] at hN;have hxs2 := Sdq.mk (show (x.f1.take i).filter (fun p => p.f0 != vr) = xs from hxs.symm);have hxl := Sdq.mk (show xs.length ≤ 39 by rw [hxs]; refine Nat.le_trans (List.length_filter_le ..) ?_; simp; omega);clear hF eq hxs hgi hin hev;by_cases hv : e.v = vr
   ·have hvb : (e.v != vr) = false := by simpa using hv
    have HX := Sdq.mk (show (fun l : List S66 => l.filter (fun p => p.f0 != vr)) (x.f1.take (i + 1)) = xs by
     show (x.f1.take (i + 1)).filter _ = _
     rw [hst.out, hxs2.out, List.filter_cons_of_neg (by rw [← HEV.out]; simpa using hv)]
     simp)
    clear hv hfk
    go_wp2_with fail
    go_roundg j
    case measure => go_light; omega
    case rel => go_light; exact ⟨i + 1, _, _, by have := HP.out; omega, by go_num, ⟨by rw [HX.out]; have := hN.out; rw [eno.out] at this; exact this⟩⟩
   ·have hvb : (e.v != vr) = true := by simpa using hv
    have HX := Sdq.mk (show (fun l : List S66 => l.filter (fun p => p.f0 != vr)) (x.f1.take (i + 1)) = xs ++ [q] by
     show (x.f1.take (i + 1)).filter _ = _
     rw [hst.out, hxs2.out, List.filter_cons_of_pos (by rw [← HEV.out]; simpa using hv)]
     simp)
    have C6 : Ctx [uBS 0 w4 x.f0.f0 A c x.f0 (.slice PA no pc) os xs, uBlk w0.heap.size [.bool x.f0.f0, .slice A x.f0.f1.length c, .slice (some ad) n d] 37, uEl ad i e, ⟨fun W => Kd.FK k66 W (Fo 0 w4.heap.size (.slice PA no pc)) q e.cs, fun _ _ h hb => Kd.FK_below h hb⟩] wr := ⟨hN.out, by rw [hn.out]; exact C2.out.2.1, ⟨x0, x1, x2⟩, Kd.FK_mono hfk (fun k hk => ⟨Nat.zero_le _, by have := (show Below w0.heap.size w0 w4 from C4.out.2.2.1).size; omega, fun h => by
     rcases hN.out.own.2 with ⟨h3, _⟩ | ⟨g', cap', cur, h3, hb, hc, _⟩
     ·rw [h3] at h; cases h
     ·rw [h3] at h
      simp only [Value.ownBlock, Option.some.injEq] at h;have := (show Below w0.heap.size w0 w4 from C4.out.2.2.1).size
      omega⟩), trivial⟩
    clear hv hfk hN
    go_upto_region 6 with fail
    clear x0 x1 x2 y2;refine absW _ C6 ?_;clear C6;intro w6 C;refine flowS (m := 8) (n := 11) r11_Without.tab6 rfl (Ctx _) (Rl [uEq (.pointer (some ⟨w4.heap.size, 2, none⟩)), uEq (.slice PA no pc), uEq (.pointer (some ⟨w0.heap.size, 2, none⟩)), uEq (.slice (some ad) n d), uEq (.int .i64 (i : Int)), uEq (.pointer (some (Addr.add ad (i * 3)))), uEq (.agg #[.int .i64 e.v, .bool e.b, .slice e.A e.n e.c]), uBx (Fo 0 w4.heap.size (.slice PA no pc)) q]) rfl (by kernel_rfl) (by kernel_rfl) (fun _ _ h hb => h.below hb) (Rl.up _) C ⟨⟨⟨⟨⟨⟨⟨⟨trivial, ?_⟩, ?_⟩, ?_⟩, ?_⟩, ?_⟩, ?_⟩, ?_⟩, ?_⟩ ?_
    ·refine At.of _ rfl (fun e_ a w hC hd hb K hK => ?_)
     have b5 : a.tmps[5]? = some (.pointer (some ⟨w4.heap.size, 0, none⟩)) := hb 5 (by decide);refine value_ (w1 := w) (v := .pointer (some ⟨w4.heap.size, 2, none⟩)) (by rfl) rfl ?_ (hK.out _ _ (Below.refl _ _) rfl);clear hC hd hb hK
     first | (go_simp; done) | (go_simp; rfl)
    ·refine At.of _ rfl (fun e_ a w hC hd hb K hK => ?_)
     have q25 := (hd 0 (by decide)).2 25 rfl;rw [show e_ 0 = _ from (hd 0 (by decide)).1] at q25;have cc2 : w.cell? ⟨w4.heap.size, 2, none⟩ = some (.slice PA no pc) := Ctx.blk hC.1.blk 2 rfl;refine value_ (w1 := w) (v := .slice PA no pc) (by rfl) rfl ?_ (hK.out _ _ (Below.refl _ _) rfl);clear hC hd hb hK
     first | (go_simp; done) | (go_simp; rfl)
    ·refine At.of _ rfl (fun e_ a w hC hd hb K hK => ?_)
     have b2 : a.tmps[2]? = some (.pointer (some ⟨w0.heap.size, 0, none⟩)) := hb 2 (by decide);refine value_ (w1 := w) (v := .pointer (some ⟨w0.heap.size, 2, none⟩)) (by rfl) rfl ?_ (hK.out _ _ (Below.refl _ _) rfl);clear hC hd hb hK
     first | (go_simp; done) | (go_simp; rfl)
    ·refine At.of _ rfl (fun e_ a w hC hd hb K hK => ?_)
     have q27 := (hd 2 (by decide)).2 27 rfl;rw [show e_ 2 = _ from (hd 2 (by decide)).1] at q27;have cc2 : w.cell? ⟨w0.heap.size, 2, none⟩ = some (.slice (some ad) n d) := Ctx.blk hC.2.1 2 rfl;refine value_ (w1 := w) (v := .slice (some ad) n d) (by rfl) rfl ?_ (hK.out _ _ (Below.refl _ _) rfl);clear hC hd hb hK
     first | (go_simp; done) | (go_simp; rfl)
    ·refine At.of _ rfl (fun e_ a w hC hd hb K hK => ?_)
     have b6 : a.tmps[6]? = some (.int .i64 (i : Int)) := hb 6 (by decide);refine value_ (w1 := w) (v := .int .i64 (i : Int)) (by rfl) rfl ?_ (hK.out _ _ (Below.refl _ _) rfl);clear hC hd hb hK
     first | (go_simp; done) | (go_simp; rfl)
    ·refine At.of _ rfl (fun e_ a w hC hd hb K hK => ?_)
     have q28 := (hd 3 (by decide)).2 28 rfl;rw [show e_ 3 = _ from (hd 3 (by decide)).1] at q28;have q29 := (hd 4 (by decide)).2 29 rfl;rw [show e_ 4 = _ from (hd 4 (by decide)).1] at q29;refine value_ (w1 := w) (v := .pointer (some (Addr.add ad (i * 3)))) (by rfl) rfl ?_ (hK.out _ _ (Below.refl _ _) rfl);clear hC hd hb hK
     first | (go_simp; done) | (go_simp; rfl)
    ·refine At.of _ rfl (fun e_ a w hC hd hb K hK => ?_)
     have q30 := (hd 5 (by decide)).2 30 rfl;rw [show e_ 5 = _ from (hd 5 (by decide)).1] at q30;obtain ⟨x0, x1, x2⟩ := hC.2.2.1;refine value_ (w1 := w) (v := .agg #[.int .i64 e.v, .bool e.b, .slice e.A e.n e.c]) (by rfl) rfl ?_ (hK.out _ _ (Below.refl _ _) rfl);clear hC hd hb hK
     first | (go_simp; done) | (go_simp; rfl)
    ·refine At.of _ rfl (fun e_ a w hC hd hb K hK => ?_)
     have q31 := (hd 6 (by decide)).2 31 rfl;rw [show e_ 6 = _ from (hd 6 (by decide)).1] at q31;refine value_ (w1 := w.alloc (.cells (El.cs e).toArray 66)) (v := .slice (some ⟨w.heap.size, 0, none⟩) 1 1) (by rfl) rfl ?_ (hK.out _ _ (bal (Below.refl _ _) _) ⟨w.heap.size, e, rfl, blk_new w _, Kd.FK_below hC.2.2.2.1 (bal (Below.refl _ _) _)⟩);clear hC hd hb hK;unfold El.cs
     first | (go_simp; done) | (go_simp; rfl)
    ·intro e_ w10 hC hr a ha
     obtain ⟨gb, e', he8, hbx, hK8⟩ := hr.2;have r1 : e_ 1 = .slice PA no pc := hr.1.1.1.1.1.1.2;simp only [fill, Act.put, r1, he8, Nat.reduceAdd, Nat.reduceLT, decide_true, decide_false, if_true, Bool.false_eq_true, if_false, List.setIfInBounds_toArray, List.set_cons_zero, List.set_cons_succ] at ha;subst ha;clear hr r1 he8;obtain rfl := eno.out;obtain ⟨i0, hi, hzz⟩ := Option.map_eq_some_iff.1 infoP;simp only [Prod.mk.injEq] at hzz;obtain ⟨hz1, hz2, hz3⟩ := hzz;have hHI := Sdq.mk (And.intro hi (And.intro hz1 (And.intro hz2 hz3)));clear hi hz1 hz2 hz3;have hN := Sdq.mk (show BS 0 w4 w10 x.f0.f0 A c x.f0 (.slice PA os.length pc) os xs from hC.1);have hnw := Sdq.mk (bx_news hbx);have hone := Sdq.mk (cs_one1 e');have hK := Sdq.mk hK8;have hOL := Sdq.mk (show os.length ≤ 100001 by have := hN.out.len; have := hxl.out; omega);have hs6 := Sdq.mk (show w4.heap.size + 1 ≤ w10.heap.size by have h1 := blk_lt (show w10.heap[w4.heap.size]? = _ from hN.out.blk); omega);clear hC hbx hK8 C;simp only [List.drop_succ_cons, List.drop_zero]
     go_wp2_with (first
      | ((with_reducible refine gate_builtin (b := .append) (xs := #[.tmp 26, .tmp 32]) rfl ?_); at_builtin; go_loud (refine wpList_append_own_at _ rfl (.tmp 26) (.tmp 32) 35 rfl (w4.heap.size + 1) 66 i0 _ 3 40 undP hHI.out.1 hHI.out.2.1 hHI.out.2.2.1 hHI.out.2.2.2 rfl (by decide) (.slice PA os.length pc) os.length (os.flatMap El.cs) rfl hN.out.own ⟨gb, 0, none⟩ 1 1 e'.cs rfl rfl hnw.out hone.out (by have := hOL.out; simp only [maxLen]; omega) (by have := hOL.out; omega) hs6.out ?_; intro v1 w11 hown1 hg1 hnil1 hat1; obtain ⟨g1, c1, hv1, -⟩ := ownsRow_slice hown1 (by omega); subst hv1; have hgb := (show (uBlk w4.heap.size _ 37).p w11 from (hg1.block _ (blk_lt (show w10.heap[w4.heap.size]? = _ from hN.out.blk)) hN.out.apart).trans hN.out.blk); have z3 := Ctx.blk hgb 2 rfl; have f3 := Ctx.frz hgb 2; have HNS := Sdq.mk (hN.out.app hK.out hg1 hat1 hown1); clear hgb hown1 hg1 hnil1 hat1)))
     clear z3 f3
     go_roundg j
     case measure => go_light; omega
     case rel => go_light; exact ⟨i + 1, .slice (some ⟨g1, 0, none⟩) (os.length + 1) c1, os ++ [e'], by have := HP.out; omega, by go_num, ⟨by rw [HX.out]; exact HNS.out⟩⟩
end Go.Proofs.YthpgjgmaamcaoaaDoor.P.R
end
section
namespace Go.Proofs.YthpgjgmaamcaoaaDoor.P.R
open Go.RowKit Go.Shelf Go.Proofs.YthpgjgmaamcaoaaDoor.P Go.Proofs.YthpgjgmaamcaoaaDoorW.PrintWords Go.Proofs.YthpgjgmaamcaoaaDoorW.PrintLast Go.Proofs.YthpgjgmaamcaoaaDoorW.PrintMore Go.Proofs.YthpgjgmaamcaoaaDoor.Nm
set_option maxRecDepth 100000
set_option linter.unusedVariables false
set_option linter.unusedSimpArgs false
theorem r11_Scale.tab5 : tabOf (opsOf Tryd.f25 5) = ([some 19, some 20, some 21, some 22, some 23, some 24, some 25, some 26, some 27, some 28, some 29, some 30, some 31, some 32, some 33, some 34, some 35, some 36, some 37, some 38, none], [[], [0], [], [2], [], [3, 4], [5], [6], [], [8], [], [9, 10], [11], [12], [], [13, 14], [7, 15], [16], [1, 17, 15], [0, 1, 2, 3, 4, 5, 6, 7, 8, 9, 10, 11, 12, 13, 14, 15, 16, 17, 18], [19, 18, 18, 0, 1, 2, 3, 4, 5, 6, 7, 8, 9, 10, 11, 12, 13, 14, 15, 16, 17, 18]]) := by kernel_rfl
def sp (n : Int) (p : S66) : S66 := ⟨p.f0, cn (nv p.f1 * n)⟩
theorem mul_lenR {x y : S34} {L M : Nat} (hx : Dg 10 x.f1 ∧ x.f1.length ≤ L) (hy : Dg 10 y.f1 ∧ y.f1.length ≤ M) : (cn (nv x * nv y)).f1.length ≤ L + M := by
 refine cn_len ?_;have h1 := nv_abs hx.1 hx.2;have h2 := nv_abs hy.1 hy.2;rw [Int.natAbs_mul, Int.natCast_mul, Int.pow_add]
 have hb : (0 : Int) ≤ ((nv y).natAbs : Int) := by omega
 generalize ((nv x).natAbs : Int) = a at *;generalize ((nv y).natAbs : Int) = b at *;have hp := pow_pos' (B := 10) (by decide) L;have e1 : a * b ≤ 10 ^ L * b := Int.mul_le_mul_of_nonneg_right (by omega) hb;have e2 : (10 : Int) ^ L * b < 10 ^ L * 10 ^ M := Int.mul_lt_mul_of_pos_left h2 (by omega)
 omega
set_option maxHeartbeats 3200000 in
theorem r11_Scale (ok : Nat → Prop) (v u : Value) (x : TR) (y : S34) (L M : Nat) (w0 : World) (hok : ∀ k, w0.heap.size ≤ k → ok k) (h : Kv kTR (fun _ => True) w0 v x) (h' : Kv k34 (fun _ => True) w0 u y) (hx : DIn L x) (hy : Dg 10 y.f1 ∧ y.f1.length ≤ M) (hLM : L + M ≤ 100000) :
  Calls Tryd.prog 25 #[v, u] w0 (KPost kTR ok w0 (tt (nv x.f0 * nv y) (LnP.nrm ((psR x.f1).map (fun p => (p.1, p.2 * nv y)))))) := by
 obtain ⟨A, c, B, d, rfl, hk, hp⟩ := h.openTR;obtain ⟨nA, nc, rfl, -, -⟩ := h'.openN;have C := Ctx.new (cs := [.bool false, .slice none 0 0, .slice none 0 0]) (t := 37) (Ctx.new (cs := [.bool y.f0, .slice nA y.f1.length nc]) (t := 34) (Ctx.new (cs := [.bool x.f0.f0, .slice A x.f0.f1.length c, .slice B x.f1.length d]) (t := 37) (Ctx.cons (uB w0) (Below.refl _ _) (Ctx.cons (uCv k66 (fun _ => True) x.f1 (.slice B x.f1.length d)) hp (Ctx.cons (uK k34 (fun _ => True) (.agg #[.bool x.f0.f0, .slice A x.f0.f1.length c]) x.f0) hk (Ctx.cons (uK k34 (fun _ => True) (.agg #[.bool y.f0, .slice nA y.f1.length nc]) y) h' Ctx.nil))))));simp only [World.size_alloc] at C;have hx := Sdq.mk hx;have hy := Sdq.mk hy;have hok := Sdq.mk hok
 obtain ⟨rr, hrr⟩ : ∃ rr, rr = tt (nv x.f0 * nv y) (LnP.nrm ((psR x.f1).map (fun p => (p.1, p.2 * nv y)))) := ⟨_, rfl⟩
 rw [← hrr];have HRR := Sdq.mk hrr;clear h h' hk hp hrr;go_enter Tryd.func25, Tryd.ntmps25
 go_upto_region 1 with fail
 refine absW _ C ?_;clear C;intro w1 C;have y0 := Ctx.blk C.2.2.1 0 rfl;have y1 := Ctx.blk C.2.2.1 1 rfl;have n0 := Ctx.blk C.2.1 0 rfl;have n1 := Ctx.blk C.2.1 1 rfl;have hMl := r2_Mul (fun _ => True) (.agg #[.bool x.f0.f0, .slice A x.f0.f1.length c]) (.agg #[.bool y.f0, .slice nA y.f1.length nc]) x.f0 y w1 (fun _ _ => trivial) C.2.2.2.2.2.1 C.2.2.2.2.2.2.1 ⟨hx.out.c.1, by have := hx.out.c.2; omega⟩ ⟨hy.out.1, by have := hy.out.2; omega⟩;have C := Sdq.mk C
 go_upto_region 2 with (go_at_call 54; refine hMl.mono ?_; rintro e4 w4 ⟨v4, rfl, hv4, hb4⟩; obtain ⟨zA, zc, rfl, -, -⟩ := hv4.openN)
 have hB0 := Sdq.mk (BS.start (B := 0) (x0 := cn (nv x.f0 * nv y)) (Nat.zero_le _) (hv4.mono (fun k _ => Nat.zero_le k)));have C4 := Sdq.mk (C.out.below hb4);clear hv4 hb4 hMl y0 y1 n0 n1 C
 obtain ⟨W5, eW5⟩ : ∃ W5, W5 = w4.alloc (.cells #[.bool (cn (nv x.f0 * nv y)).f0, .slice zA (cn (nv x.f0 * nv y)).f1.length zc, .slice none 0 0] 37) := ⟨_, rfl⟩
 rw [← eW5] at hB0 ⊢;clear eW5
 obtain ⟨n, en⟩ : ∃ n, n = x.f1.length := ⟨_, rfl⟩
 have hn := Sdq.mk en
 have hn39 : n ≤ 39 := by rw [en]; exact hx.out.few
 clear en
 go_wp2_with fail
 go_loopg [6] n (fun gk s6 wr => ∃ (i : Nat) (pv : Value) (os : List El), gk + i = n ∧ s6 = .int .i64 (i : Int) ∧ Sdq (BS 0 w4 wr (cn (nv x.f0 * nv y)).f0 zA zc (cn (nv x.f0 * nv y)) pv os ((fun l : List S66 => l.map (sp (nv y))) (x.f1.take i))))
 case atStart => exact ⟨0, _, _, by omega, rfl, hB0⟩
 case round =>
  clear hB0;obtain ⟨i, pv, os, hgi, rfl, hN⟩ := hrel;obtain ⟨PA, pc, rfl⟩ := hN.out.pvf
  obtain ⟨no, eno0⟩ : ∃ no, no = os.length := ⟨_, rfl⟩
  rw [← eno0] at hN;have eno := Sdq.mk eno0;clear eno0;have C2 := Sdq.mk (C4.out.below hN.out.bel);have y2 := Ctx.blk C2.out.2.2.1 2 rfl;rw [← hn.out] at y2
  cases gk with
  | zero =>
   obtain rfl : i = n := by omega
   rw [List.take_of_length_le (by have := hn.out; omega)] at hN
   have hNm := r11_Norm (fun k => ok k ∧ k ≠ w0.heap.size + 2) _ _ (L + M) wr (fun k hk => by have := blk_lt (show wr.heap[w0.heap.size + 2]? = _ from C2.out.1); exact ⟨hok.out k (by omega), by omega⟩) ((hN.out.kv (by show ((x.f1).map _).length ≤ _; have := hx.out.few; rw [List.length_map]; omega)).mono (fun _ _ => trivial)) ⟨by show ((x.f1).map _).length ≤ _; rw [List.length_map]; exact hx.out.few, ⟨cn_dg _, mul_lenR hx.out.c hy.out⟩, fun p hp => by
    obtain ⟨z, hz, rfl⟩ := List.mem_map.1 hp
    exact ⟨cn_dg _, mul_lenR (hx.out.p z hz) hy.out⟩⟩ (by omega)
   dsimp only at hNm
   rw [show tt (nv (cn (nv x.f0 * nv y))) (LnP.nrm (psR ((fun l : List S66 => l.map (sp (nv y))) x.f1))) = rr by
    rw [HRR.out, nv_cn]
    congr 2
    show psR ((x.f1).map _) = _
    unfold psR sp;rw [List.map_map, List.map_map]
    exact List.map_congr_left (fun p _ => by simp [nv_cn])] at hNm
   have z0 := Ctx.blk hN.out.blk 0 rfl;have z1 := Ctx.blk hN.out.blk 1 rfl;have z2 := Ctx.blk hN.out.blk 2 rfl;clear hN;go_wp2_with (go_at_call 29; refine hNm.mono ?_; rintro e2 w2 ⟨v2, rfl, hv2, hb2⟩; obtain ⟨yA, yc, yB, yd, rfl, -, -⟩ := hv2.openTR; have C3 := C2.out.below hb2; have E := Sdq.mk (end3 (O := fun k => ok k ∧ k ≠ w0.heap.size + 2) (ok := ok) C3.1 C3.2.2.2.1 (by omega) (fun k hk => hk) hv2 _ rfl); have r0 := Ctx.blk C3.1 0 rfl; have r1 := Ctx.blk C3.1 1 rfl; have r2 := Ctx.blk C3.1 2 rfl; have f0 := Ctx.frz C3.1 0; have f1 := Ctx.frz C3.1 1; have f2 := Ctx.frz C3.1 2; clear C3 hv2 hb2);have E := E.out;clear r0 r1 r2 f0 f1 f2;generalize World.setCell _ _ _ = wf at E ⊢;obtain ⟨EP, e0, e1, e2⟩ := E;exact bodyPost_ret (by first | (simp [results, Tryd.results25, go_sem, e0, e1, e2]; done) | (simp [results, Tryd.results25, go_sem, e0, e1, e2]; rfl)) rfl EP
  | succ j =>
   have hin : i < x.f1.length := by have := hn.out; omega
   obtain ⟨B', d', e1, -, hF⟩ := C2.out.2.2.2.2.1
   injection e1 with e2 _ e3
   subst e2;subst e3;obtain ⟨ad, e, rfl, x0, x1, x2, hfk⟩ := row_el hF hin;have HP := Sdq.mk (And.intro hgi hin)
   have hin2 : i < n := by omega
   have hst := Sdq.mk (show (fun l : List S66 => l.map (sp (nv y))) (x.f1.take (i + 1)) = (fun l : List S66 => l.map (sp (nv y))) (x.f1.take i) ++ [sp (nv y) x.f1[i]] by
    show (x.f1.take (i + 1)).map _ = (x.f1.take i).map _ ++ _
    rw [List.take_succ_eq_append_getElem hin, List.map_append]; rfl)
   have hev : e.v = x.f1[i].f0 := (fk_el hfk).1;have hqd := Sdq.mk (hx.out.p x.f1[i] (List.getElem_mem hin))
   obtain ⟨q, eq⟩ : ∃ q, q = x.f1[i] := ⟨_, rfl⟩
   rw [← eq] at hfk hev hst hqd;have HEV := Sdq.mk hev
   obtain ⟨xs, hxs⟩ : ∃ xs, xs = (fun l : List S66 => l.map (sp (nv y))) (x.f1.take i) := ⟨_, rfl⟩
   rw [← hxs] at hN hst;have hxl := Sdq.mk (show xs.length ≤ 39 by rw [hxs]; show ((x.f1.take i).map _).length ≤ 39; simp; omega);clear hF eq hxs hgi hin hev
   have C6 : Ctx [uBS 0 w4 (cn (nv x.f0 * nv y)).f0 zA zc (cn (nv x.f0 * nv y)) (.slice PA no pc) os xs, uBlk w0.heap.size [.bool x.f0.f0, .slice A x.f0.f1.length c, .slice (some ad) n d] 37, uEl ad i e, uBlk (w0.heap.size + 1) [.bool y.f0, .slice nA y.f1.length nc] 34, uK k34 (fun _ => True) (.agg #[.bool e.b, .slice e.A e.n e.c]) q.f1, uK k34 (fun _ => True) (.agg #[.bool y.f0, .slice nA y.f1.length nc]) y] wr := ⟨hN.out, by rw [hn.out]; exact C2.out.2.2.1, ⟨x0, x1, x2⟩, C2.out.2.1, el_kv hfk, C2.out.2.2.2.2.2.2.1, trivial⟩
   have hL := Sdq.mk (fun (W : World) (hC : Ctx [uBS 0 w4 (cn (nv x.f0 * nv y)).f0 zA zc (cn (nv x.f0 * nv y)) (.slice PA no pc) os xs, uBlk w0.heap.size [.bool x.f0.f0, .slice A x.f0.f1.length c, .slice (some ad) n d] 37, uEl ad i e, uBlk (w0.heap.size + 1) [.bool y.f0, .slice nA y.f1.length nc] 34, uK k34 (fun _ => True) (.agg #[.bool e.b, .slice e.A e.n e.c]) q.f1, uK k34 (fun _ => True) (.agg #[.bool y.f0, .slice nA y.f1.length nc]) y] W) => r2_Mul (Fo 0 w4.heap.size (.slice PA no pc)) (.agg #[.bool e.b, .slice e.A e.n e.c]) (.agg #[.bool y.f0, .slice nA y.f1.length nc]) q.f1 y W hC.1.fresh hC.2.2.2.2.1 hC.2.2.2.2.2.1 ⟨hqd.out.1, by have := hqd.out.2; omega⟩ ⟨hy.out.1, by have := hy.out.2; omega⟩);clear hfk hN
   go_upto_region 5 with fail
   clear x0 x1 x2 y2;refine absW _ C6 ?_;clear C6;intro w6 C;refine flowS (m := 18) (n := 21) r11_Scale.tab5 rfl (Ctx _) (Rl [uEq (.pointer (some ⟨w4.heap.size, 2, none⟩)), uEq (.slice PA no pc), uEq (.pointer (some ⟨w0.heap.size, 2, none⟩)), uEq (.slice (some ad) n d), uEq (.int .i64 (i : Int)), uEq (.pointer (some (Addr.add ad (i * 3)))), uEq (.pointer (some (Addr.add ad (i * 3)))), uEq (.int .i64 e.v), uEq (.pointer (some ⟨w0.heap.size, 2, none⟩)), uEq (.slice (some ad) n d), uEq (.int .i64 (i : Int)), uEq (.pointer (some (Addr.add ad (i * 3)))), uEq (.pointer (some ⟨(Addr.add ad (i * 3)).block, (Addr.add ad (i * 3)).off + 1, none⟩)), uEq (.agg #[.bool e.b, .slice e.A e.n e.c]), uEq (.agg #[.bool y.f0, .slice nA y.f1.length nc]), uKd k34 (Fo 0 w4.heap.size (.slice PA no pc)) (cn (nv q.f1 * nv y)), uKd k66 (Fo 0 w4.heap.size (.slice PA no pc)) (⟨q.f0, cn (nv q.f1 * nv y)⟩ : S66), uBx (Fo 0 w4.heap.size (.slice PA no pc)) (⟨q.f0, cn (nv q.f1 * nv y)⟩ : S66)]) rfl (by kernel_rfl) (by kernel_rfl) (fun _ _ h hb => h.below hb) (Rl.up _) C ⟨⟨⟨⟨⟨⟨⟨⟨⟨⟨⟨⟨⟨⟨⟨⟨⟨⟨trivial, ?_⟩, ?_⟩, ?_⟩, ?_⟩, ?_⟩, ?_⟩, ?_⟩, ?_⟩, ?_⟩, ?_⟩, ?_⟩, ?_⟩, ?_⟩, ?_⟩, ?_⟩, ?_⟩, ?_⟩, ?_⟩ ?_
   ·refine At.of _ rfl (fun e_ a w hC hd hb K hK => ?_)
    have b5 : a.tmps[5]? = some (.pointer (some ⟨w4.heap.size, 0, none⟩)) := hb 5 (by decide);refine value_ (w1 := w) (v := .pointer (some ⟨w4.heap.size, 2, none⟩)) (by rfl) rfl ?_ (hK.out _ _ (Below.refl _ _) rfl);clear hC hd hb hK hL
    first | (go_simp; done) | (go_simp; rfl)
   ·refine At.of _ rfl (fun e_ a w hC hd hb K hK => ?_)
    have q19 := (hd 0 (by decide)).2 19 rfl;rw [show e_ 0 = _ from (hd 0 (by decide)).1] at q19;have cc2 : w.cell? ⟨w4.heap.size, 2, none⟩ = some (.slice PA no pc) := Ctx.blk hC.1.blk 2 rfl;refine value_ (w1 := w) (v := .slice PA no pc) (by rfl) rfl ?_ (hK.out _ _ (Below.refl _ _) rfl);clear hC hd hb hK hL
    first | (go_simp; done) | (go_simp; rfl)
   ·refine At.of _ rfl (fun e_ a w hC hd hb K hK => ?_)
    have b2 : a.tmps[2]? = some (.pointer (some ⟨w0.heap.size, 0, none⟩)) := hb 2 (by decide);refine value_ (w1 := w) (v := .pointer (some ⟨w0.heap.size, 2, none⟩)) (by rfl) rfl ?_ (hK.out _ _ (Below.refl _ _) rfl);clear hC hd hb hK hL
    first | (go_simp; done) | (go_simp; rfl)
   ·refine At.of _ rfl (fun e_ a w hC hd hb K hK => ?_)
    have q21 := (hd 2 (by decide)).2 21 rfl;rw [show e_ 2 = _ from (hd 2 (by decide)).1] at q21;have cc2 : w.cell? ⟨w0.heap.size, 2, none⟩ = some (.slice (some ad) n d) := Ctx.blk hC.2.1 2 rfl;refine value_ (w1 := w) (v := .slice (some ad) n d) (by rfl) rfl ?_ (hK.out _ _ (Below.refl _ _) rfl);clear hC hd hb hK hL
    first | (go_simp; done) | (go_simp; rfl)
   ·refine At.of _ rfl (fun e_ a w hC hd hb K hK => ?_)
    have b6 : a.tmps[6]? = some (.int .i64 (i : Int)) := hb 6 (by decide);refine value_ (w1 := w) (v := .int .i64 (i : Int)) (by rfl) rfl ?_ (hK.out _ _ (Below.refl _ _) rfl);clear hC hd hb hK hL
    first | (go_simp; done) | (go_simp; rfl)
   ·refine At.of _ rfl (fun e_ a w hC hd hb K hK => ?_)
    have q22 := (hd 3 (by decide)).2 22 rfl;rw [show e_ 3 = _ from (hd 3 (by decide)).1] at q22;have q23 := (hd 4 (by decide)).2 23 rfl;rw [show e_ 4 = _ from (hd 4 (by decide)).1] at q23;refine value_ (w1 := w) (v := .pointer (some (Addr.add ad (i * 3)))) (by rfl) rfl ?_ (hK.out _ _ (Below.refl _ _) rfl);clear hC hd hb hK hL
    first | (go_simp; done) | (go_simp; rfl)
   ·refine At.of _ rfl (fun e_ a w hC hd hb K hK => ?_)
    have q24 := (hd 5 (by decide)).2 24 rfl;rw [show e_ 5 = _ from (hd 5 (by decide)).1] at q24;refine value_ (w1 := w) (v := .pointer (some (Addr.add ad (i * 3)))) (by rfl) rfl ?_ (hK.out _ _ (Below.refl _ _) rfl);clear hC hd hb hK hL
    first | (go_simp; done) | (go_simp; rfl)
   ·refine At.of _ rfl (fun e_ a w hC hd hb K hK => ?_)
    have q25 := (hd 6 (by decide)).2 25 rfl;rw [show e_ 6 = _ from (hd 6 (by decide)).1] at q25;obtain ⟨x0, x1, x2⟩ := hC.2.2.1;refine value_ (w1 := w) (v := .int .i64 e.v) (by rfl) rfl ?_ (hK.out _ _ (Below.refl _ _) rfl);clear hC hd hb hK hL
    first | (go_simp; done) | (go_simp; rfl)
   ·refine At.of _ rfl (fun e_ a w hC hd hb K hK => ?_)
    have b2 : a.tmps[2]? = some (.pointer (some ⟨w0.heap.size, 0, none⟩)) := hb 2 (by decide);refine value_ (w1 := w) (v := .pointer (some ⟨w0.heap.size, 2, none⟩)) (by rfl) rfl ?_ (hK.out _ _ (Below.refl _ _) rfl);clear hC hd hb hK hL
    first | (go_simp; done) | (go_simp; rfl)
   ·refine At.of _ rfl (fun e_ a w hC hd hb K hK => ?_)
    have q27 := (hd 8 (by decide)).2 27 rfl;rw [show e_ 8 = _ from (hd 8 (by decide)).1] at q27;have cc2 : w.cell? ⟨w0.heap.size, 2, none⟩ = some (.slice (some ad) n d) := Ctx.blk hC.2.1 2 rfl;refine value_ (w1 := w) (v := .slice (some ad) n d) (by rfl) rfl ?_ (hK.out _ _ (Below.refl _ _) rfl);clear hC hd hb hK hL
    first | (go_simp; done) | (go_simp; rfl)
   ·refine At.of _ rfl (fun e_ a w hC hd hb K hK => ?_)
    have b6 : a.tmps[6]? = some (.int .i64 (i : Int)) := hb 6 (by decide);refine value_ (w1 := w) (v := .int .i64 (i : Int)) (by rfl) rfl ?_ (hK.out _ _ (Below.refl _ _) rfl);clear hC hd hb hK hL
    first | (go_simp; done) | (go_simp; rfl)
   ·refine At.of _ rfl (fun e_ a w hC hd hb K hK => ?_)
    have q28 := (hd 9 (by decide)).2 28 rfl;rw [show e_ 9 = _ from (hd 9 (by decide)).1] at q28;have q29 := (hd 10 (by decide)).2 29 rfl;rw [show e_ 10 = _ from (hd 10 (by decide)).1] at q29;refine value_ (w1 := w) (v := .pointer (some (Addr.add ad (i * 3)))) (by rfl) rfl ?_ (hK.out _ _ (Below.refl _ _) rfl);clear hC hd hb hK hL
    first | (go_simp; done) | (go_simp; rfl)
   ·refine At.of _ rfl (fun e_ a w hC hd hb K hK => ?_)
    have q30 := (hd 11 (by decide)).2 30 rfl;rw [show e_ 11 = _ from (hd 11 (by decide)).1] at q30;refine value_ (w1 := w) (v := .pointer (some ⟨(Addr.add ad (i * 3)).block, (Addr.add ad (i * 3)).off + 1, none⟩)) (by rfl) rfl ?_ (hK.out _ _ (Below.refl _ _) rfl);clear hC hd hb hK hL
    first | (go_simp; done) | (go_simp; rfl)
   ·refine At.of _ rfl (fun e_ a w hC hd hb K hK => ?_)
    have q31 := (hd 12 (by decide)).2 31 rfl;rw [show e_ 12 = _ from (hd 12 (by decide)).1] at q31;obtain ⟨x0, x1, x2⟩ := hC.2.2.1;refine value_ (w1 := w) (v := .agg #[.bool e.b, .slice e.A e.n e.c]) (by rfl) rfl ?_ (hK.out _ _ (Below.refl _ _) rfl);clear hC hd hb hK hL
    first | (go_simp; done) | (go_simp; rfl)
   ·refine At.of _ rfl (fun e_ a w hC hd hb K hK => ?_)
    have b3 : a.tmps[3]? = some (.pointer (some ⟨w0.heap.size + 1, 0, none⟩)) := hb 3 (by decide);have cc0 : w.cell? ⟨w0.heap.size + 1, 0, none⟩ = some (.bool y.f0) := Ctx.blk hC.2.2.2.1 0 rfl;have cc1 : w.cell? ⟨w0.heap.size + 1, 1, none⟩ = some (.slice nA y.f1.length nc) := Ctx.blk hC.2.2.2.1 1 rfl;refine value_ (w1 := w) (v := .agg #[.bool y.f0, .slice nA y.f1.length nc]) (by rfl) rfl ?_ (hK.out _ _ (Below.refl _ _) rfl);clear hC hd hb hK hL
    first | (go_simp; done) | (go_simp; rfl)
   ·refine At.of _ rfl (fun e_ a w hC hd hb K hK => ?_)
    have q32 := (hd 13 (by decide)).2 32 rfl;rw [show e_ 13 = _ from (hd 13 (by decide)).1] at q32;have q33 := (hd 14 (by decide)).2 33 rfl;rw [show e_ 14 = _ from (hd 14 (by decide)).1] at q33;refine goes_ Tryd.func54 (by kernel_rfl) rfl #[.agg #[.bool e.b, .slice e.A e.n e.c], .agg #[.bool y.f0, .slice nA y.f1.length nc]] (by rfl) rfl rfl (by first | (simp [Act.eval, q32, q33]; done) | (simp [Act.eval, q32, q33]; rfl)) ?_;refine (hL.out w hC).mono ?_;rintro en w' ⟨v, rfl, hv, hb'⟩;exact ⟨v, rfl, hK.out v w' hb' hv⟩
   ·refine At.of _ rfl (fun e_ a w hC hd hb K hK => ?_)
    have q26 := (hd 7 (by decide)).2 26 rfl;rw [show e_ 7 = _ from (hd 7 (by decide)).1] at q26;have q34 := (hd 15 (by decide)).2 34 rfl;obtain ⟨yA, yc, heN, yl, yF⟩ := Kv.openN (hd 15 (by decide)).1;rw [heN] at q34;refine value_ (w1 := w) (v := .agg #[.int .i64 e.v, .bool (cn (nv q.f1 * nv y)).f0, .slice yA (cn (nv q.f1 * nv y)).f1.length yc]) (by rfl) rfl ?_ (hK.out _ _ (Below.refl _ _) ⟨_, rfl, by rw [HEV.out]; exact k66_mkF w _ (⟨q.f0, cn (nv q.f1 * nv y)⟩ : S66) yl yF⟩);clear hC hd hb hK hL yl yF heN
    first | (go_simp; done) | (go_simp; rfl)
   ·refine At.of _ rfl (fun e_ a w hC hd hb K hK => ?_)
    have q35 := (hd 16 (by decide)).2 35 rfl;obtain ⟨cs8, he8, hK8⟩ := (hd 16 (by decide)).1;obtain ⟨yA, yc, rfl, yl, yF⟩ := k66_openF hK8;rw [he8] at q35;refine value_ (w1 := w.alloc (.cells (El.cs ⟨q.f0, (cn (nv q.f1 * nv y)).f0, yA, (cn (nv q.f1 * nv y)).f1.length, yc⟩).toArray 66)) (v := .slice (some ⟨w.heap.size, 0, none⟩) 1 1) (by rfl) rfl ?_ (hK.out _ _ (bal (Below.refl _ _) _) ⟨w.heap.size, _, rfl, blk_new w _, Kd.FK_below hK8 (bal (Below.refl _ _) _)⟩);clear hC hd hb hK hL yl yF he8 hK8;unfold El.cs
    first | (go_simp; done) | (go_simp; rfl)
   ·intro e_ w10 hC hr a ha
    obtain ⟨gb, e', he8, hbx, hK8⟩ := hr.2;have r1 : e_ 1 = .slice PA no pc := hr.1.1.1.1.1.1.1.1.1.1.1.1.1.1.1.1.2;simp only [fill, Act.put, r1, he8, Nat.reduceAdd, Nat.reduceLT, decide_true, decide_false, if_true, Bool.false_eq_true, if_false, List.setIfInBounds_toArray, List.set_cons_zero, List.set_cons_succ] at ha;subst ha;clear hr r1 he8 hL;obtain rfl := eno.out;obtain ⟨i0, hi, hzz⟩ := Option.map_eq_some_iff.1 infoP;simp only [Prod.mk.injEq] at hzz;obtain ⟨hz1, hz2, hz3⟩ := hzz;have hHI := Sdq.mk (And.intro hi (And.intro hz1 (And.intro hz2 hz3)));clear hi hz1 hz2 hz3;have hN := Sdq.mk (show BS 0 w4 w10 (cn (nv x.f0 * nv y)).f0 zA zc (cn (nv x.f0 * nv y)) (.slice PA os.length pc) os xs from hC.1);have hnw := Sdq.mk (bx_news hbx);have hone := Sdq.mk (cs_one1 e');have hK := Sdq.mk hK8;have hOL := Sdq.mk (show os.length ≤ 100001 by have := hN.out.len; have := hxl.out; omega);have hs6 := Sdq.mk (show w4.heap.size + 1 ≤ w10.heap.size by have h1 := blk_lt (show w10.heap[w4.heap.size]? = _ from hN.out.blk); omega);clear hC hbx hK8 C;simp only [List.drop_succ_cons, List.drop_zero]
    go_wp2_with (first
     | ((with_reducible refine gate_builtin (b := .append) (xs := #[.tmp 20, .tmp 36]) rfl ?_); at_builtin; go_loud (refine wpList_append_own_at _ rfl (.tmp 20) (.tmp 36) 35 rfl (w4.heap.size + 1) 66 i0 _ 3 40 undP hHI.out.1 hHI.out.2.1 hHI.out.2.2.1 hHI.out.2.2.2 rfl (by decide) (.slice PA os.length pc) os.length (os.flatMap El.cs) rfl hN.out.own ⟨gb, 0, none⟩ 1 1 e'.cs rfl rfl hnw.out hone.out (by have := hOL.out; simp only [maxLen]; omega) (by have := hOL.out; omega) hs6.out ?_; intro v1 w11 hown1 hg1 hnil1 hat1; obtain ⟨g1, c1, hv1, -⟩ := ownsRow_slice hown1 (by omega); subst hv1; have hgb := (show (uBlk w4.heap.size _ 37).p w11 from (hg1.block _ (blk_lt (show w10.heap[w4.heap.size]? = _ from hN.out.blk)) hN.out.apart).trans hN.out.blk); have z3 := Ctx.blk hgb 2 rfl; have f3 := Ctx.frz hgb 2; have HNS := Sdq.mk (hN.out.app hK.out hg1 hat1 hown1); clear hgb hown1 hg1 hnil1 hat1)))
    clear z3 f3
    go_roundg j
    case measure => go_light; omega
    case rel => go_light; exact ⟨i + 1, .slice (some ⟨g1, 0, none⟩) (os.length + 1) c1, os ++ [e'], by have := HP.out; omega, by go_num, ⟨by rw [hst.out]; exact HNS.out⟩⟩
end Go.Proofs.YthpgjgmaamcaoaaDoor.P.R
end
section
namespace Go.Proofs.YthpgjgmaamcaoaaDoor.P.R
open Go.RowKit Go.Shelf Go.Proofs.YthpgjgmaamcaoaaDoor.P Go.Proofs.YthpgjgmaamcaoaaDoorW.PrintWords Go.Proofs.YthpgjgmaamcaoaaDoorW.PrintLast Go.Proofs.YthpgjgmaamcaoaaDoorW.PrintMore Go.Proofs.YthpgjgmaamcaoaaDoor.Nm
set_option maxRecDepth 100000
set_option linter.unusedVariables false
set_option linter.unusedSimpArgs false
abbrev PE := List (S66 × El)
def Rp (ok : Nat → Prop) (W : World) (ps : PE) : Prop := ∀ p ∈ ps, Kd.FK k66 W ok p.1 p.2.cs
theorem els_of {ok : Nat → Prop} {W : World} {A : Option Addr} {xs : List S66} (h : Kd.F k66 W ok A xs.length xs) : ∃ ps : PE, ps.map Prod.fst = xs ∧ Rp ok W ps ∧ ∀ ad, A = some ad → ∀ j u, ((ps.map Prod.snd).flatMap El.cs)[j]? = some u → W.cell? (ad.add j) = some u := by
 have key : ∀ i : Fin xs.length, ∃ e : El, Kd.FK k66 W ok xs[i.1] e.cs ∧ ∀ ad, A = some ad → ∀ j u, e.cs[j]? = some u → W.cell? (ad.add (i.1 * 3 + j)) = some u := by
  intro i;obtain ⟨ad, cs, hA, -, hK, hcc, -⟩ := Kd.F_get h z66 (i.1 : Int) (by omega) (by have := i.2; omega)
  have hx : xs.getD (i.1 : Int).toNat z66 = xs[i.1] := by simp [i.2]
  rw [hx] at hK;obtain ⟨A2, c2, rfl, l2, g2⟩ := k66_openF hK;refine ⟨⟨xs[i.1].f0, xs[i.1].f1.f0, A2, xs[i.1].f1.f1.length, c2⟩, hK, fun ad' hA' j u hu => ?_⟩;have e := hA.symm.trans hA'
  injection e with e
  subst e;exact hcc j u hu
 let f : Fin xs.length → El := fun i => Classical.choose (key i)
 have hf : ∀ i, Kd.FK k66 W ok xs[i.1] (f i).cs ∧ ∀ ad, A = some ad → ∀ j u, (f i).cs[j]? = some u → W.cell? (ad.add (i.1 * 3 + j)) = some u := fun i => Classical.choose_spec (key i)
 refine ⟨List.ofFn (fun i : Fin xs.length => (xs[i.1], f i)), ?_, ?_, ?_⟩
 ·refine List.ext_getElem (by simp) (fun i h1 h2 => ?_)
  simp
 ·intro p hp
  obtain ⟨i, rfl⟩ := List.mem_ofFn.1 hp;exact (hf i).1
 ·intro ad hA j u hu
  have hl : (List.map Prod.snd (List.ofFn (fun i : Fin xs.length => (xs[i.1], f i)))).length = xs.length := by simp
  have hj := (List.getElem?_eq_some_iff.1 hu).1;rw [cs_flat, hl] at hj
  have hij : j / 3 < xs.length := by omega
  have e := cs_get _ (j / 3) (j % 3) (by rw [hl]; exact hij) (by omega);rw [show j / 3 * 3 + j % 3 = j by omega] at e;rw [e] at hu;have := (hf ⟨j / 3, hij⟩).2 ad hA (j % 3) u (by simpa using hu);rw [show j / 3 * 3 + j % 3 = j by omega] at this;exact this
theorem BS.apps {B : Nat} {W0 W W' : World} {cb : Bool} {cA : Option Addr} {cc : Nat} {x0 : S34} {pv : Value} {os : List El} {xs : List S66} (h : BS B W0 W cb cA cc x0 pv os xs) {ps : PE} (hR : Rp (Fo B W0.heap.size pv) W ps) {pv' : Value} (hg : W.grownBy W' pv.ownBlock) (hat : pv'.ownBlock = pv.ownBlock ∨ pv'.ownBlock = some W.heap.size) (hown : W'.ownsRow (W0.heap.size + 1) 66 3 pv' (os.length + ps.length) (os.flatMap El.cs ++ (ps.map Prod.snd).flatMap El.cs)) : BS B W0 (W'.setCell ⟨W0.heap.size, 2, none⟩ pv') cb cA cc x0 pv' (os ++ ps.map Prod.snd) (xs ++ ps.map Prod.fst) := by
 have hap := h.apart;have hgo := blk_lt (show W.heap[W0.heap.size]? = _ from h.blk)
 have hne : ∀ k, some k ≠ pv.ownBlock → k < W.heap.size → some k ≠ pv'.ownBlock := by
  intro k hk hlt
  rcases hat with hat | hat
  ·rw [hat]; exact hk
  ·rw [hat]
   intro he
   injection he with he
   omega
 have hBW : ∀ k, k < W.heap.size → some k ≠ pv.ownBlock → k ≠ W0.heap.size → (W'.setCell ⟨W0.heap.size, 2, none⟩ pv').heap[k]? = W.heap[k]? := fun k h1 h2 h3 => (Below.heap_setCell W' _ _ _ h3).trans (hg.block k h1 h2)
 have fkm : ∀ {y : S66} {cs : List Value}, Kd.FK k66 W (Fo B W0.heap.size pv) y cs → Kd.FK k66 (W'.setCell ⟨W0.heap.size, 2, none⟩ pv') (Fo B W0.heap.size pv') y cs := fun hk =>
  Kd.FK_mono (Kd.FK_step (Kd.FK_bound hk) (fun k hk hlt2 => hBW k hk.2 hk.1.2.2 hk.1.2.1)) (fun k hk => ⟨hk.1.1, hk.1.2.1, hne k hk.1.2.2 hk.2⟩)
 refine ⟨?_, ownsRow_far ?_ (hne _ hap hgo), by simp [h.len], fun i y f hy hf => ?_, ?_, ?_, h.base⟩
 ·have h2 : (uBlk W0.heap.size [.bool cb, .slice cA x0.f1.length cc, pv] 37).p W' := (hg.block _ hgo hap).trans h.blk
  exact Ctx.put h2 2 pv'
 ·rw [List.length_append, List.flatMap_append, List.length_map]
  exact hown
 ·by_cases hi : i < xs.length
  ·rw [List.getElem?_append_left hi] at hy
   rw [List.getElem?_append_left (by rw [h.len]; exact hi)] at hf;exact fkm (h.rep i y f hy hf)
  ·rw [List.getElem?_append_right (by omega), List.getElem?_map] at hy
   rw [List.getElem?_append_right (by rw [h.len]; omega), h.len, List.getElem?_map] at hf;obtain ⟨p, hp, rfl⟩ := Option.map_eq_some_iff.1 hy;obtain ⟨p', hp', rfl⟩ := Option.map_eq_some_iff.1 hf;obtain rfl := Option.some.inj (hp.symm.trans hp');exact fkm (hR p (List.mem_of_getElem? hp))
 ·obtain ⟨cs, e, hk⟩ := h.cst
  exact ⟨cs, e, Kd.FK_mono (Kd.FK_step (Kd.FK_bound hk) (fun k hk hlt2 => hBW k hk.2 hk.1.2.2 hk.1.2.1)) (fun k hk => ⟨hk.1.1, hk.1.2.1, hne k hk.1.2.2 hk.2⟩)⟩
 ·refine (h.bel.grown hg h.bel.size (fun k hk => ?_)).setCell (p := ⟨W0.heap.size, 2, none⟩) (Nat.le_refl _) _
  rcases h.own.2 with ⟨h2, _⟩ | ⟨g', cap', cur, h2, hb, hc, hr⟩
  ·rw [h2] at hk; cases hk
  ·rw [h2] at hk
   simp only [Value.ownBlock, Option.some.injEq] at hk
   omega
theorem wpl_append_at {P : Program} {ops : Array Oper} {rest : List Oper} {o : Oper} {a : Act} {Q : Exit → Act → World → Prop} {W : World} (hgd : o.guard = none) (s x : Operand) (t e : TypeId) (i0 : TypeInfo) (z : Value) (bytes : Nat)
  (ho : o.op = .call { callee := .builtin .append, args := #[s, x], argTypes := #[t, t] }) (ht : P.underlying t = some (.slice e)) (hi : P.info? e = some i0) (hz0 : i0.zero = some z) (hz1 : i0.size = 3) (hz2 : i0.bytes = bytes) (hz : z.cells.size = 3)
  (v : Value) (n : Nat) (xs : List Value) (A : Option Addr) (m c : Nat) (news : List Value) (hs : a.eval s = v) (hx : a.eval x = .slice A m c) (base : Nat) (hown : W.ownsRow base e 3 v n xs) (hl : news.length = m * 3)
  (hnews : ∀ ad, A = some ad → ∀ j u, news[j]? = some u → W.cell? (ad.add j) = some u) (hA : A = none → m = 0) (h1 : ∀ u ∈ news, u.oneCell' = true) (h63 : n + m ≤ maxLen) (hbytes : (n + m) * bytes ≤ 140737488355328) (hbase : base ≤ W.heap.size)
  (h : ∀ v' w', w'.ownsRow base e 3 v' (n + m) (xs ++ news) → W.grownBy w' v.ownBlock → (v'.ownBlock = v.ownBlock ∨ v'.ownBlock = some W.heap.size) → wpList P ops Q rest (a.put o.dst v') w') : wpList P ops Q (o :: rest) a W := by
 have hrun : ∃ v1 w1, (Builtin.append_ #[t, t] o.type #[v, .slice A m c]).run P W = .ok v1 w1 ∧ w1.ownsRow base e 3 v1 (n + m) (xs ++ news) ∧ W.grownBy w1 v.ownBlock ∧ (v1.ownBlock = v.ownBlock ∨ v1.ownBlock = some W.heap.size) := by
  rcases A with _ | ad
  ·have h0 := hA rfl
   subst h0;obtain rfl : news = [] := List.eq_nil_of_length_eq_zero (by omega);refine ⟨v, W, ?_, by rw [List.append_nil]; exact hown, World.grownBy.refl W _, .inl rfl⟩
   rcases hown.2 with ⟨rfl, hn⟩ | ⟨g, cap, cur, rfl, _, _, hnc, _⟩
   ·simp [Builtin.append_, run_underlying ht, sizeOf, typeInfo, hi, Builtin.lenOf, Builtin.firstCells]
   ·simp [Builtin.append_, run_underlying ht, sizeOf, typeInfo, hi, Builtin.lenOf, Builtin.firstCells, hnc, storeCells]
  ·obtain ⟨v1, w1, hrun, h2, hg, _, hat⟩ := run_append_own_at (P := P) W base t o.type e i0 z 3 bytes ht hi hz0 hz1 hz2 hz (by decide) v n xs hown ad m c news hl (hnews ad rfl) h1 h63 hbytes hbase
   exact ⟨v1, w1, hrun, h2, hg, hat⟩
 obtain ⟨v1, w1, hr, h2, h3, h4⟩ := hrun
 refine wpList_plain hgd fun K hK => ?_
 unfold Oper.wp execOp;simp only [ho, resolve, invoke, builtin, Sem.run_bind, Sem.run_pure, Result.andThen_ok, List.map_toArray, List.map_cons, List.map_nil, hs, hx, hr];exact hK _ _ (h v1 w1 h2 h3 h4)
theorem row_none {α : Type} {d : Kd α} {ok : Nat → Prop} {W : World} {A : Option Addr} {n : Nat} {xs : List α} (h : Kd.F d W ok A n xs) : A = none → n = 0 := fun e => by
 refine Classical.byContradiction fun hn => ?_
 obtain ⟨ad, h1, -⟩ := (Kd.F_now h).2.2 (by omega);rw [e] at h1;cases h1
theorem in_parts {W : World} {g N : Nat} {pv : Value} {B : Option Addr} {d : Nat} {xs : List S66} (h : Cv k66 (fun k => k < N) W (.slice B xs.length d) xs) (hN : N ≤ g) (hp : ∀ k, pv.ownBlock = some k → N ≤ k) : ∃ ps : PE, ps.map Prod.fst = xs ∧ ps.length = xs.length ∧ Rp (Fo 0 g pv) W ps ∧ (∀ ad, B = some ad → ∀ j u, ((ps.map Prod.snd).flatMap El.cs)[j]? = some u → W.cell? (ad.add j) = some u) ∧ (B = none → xs.length = 0) := by
 obtain ⟨B', d', e, -, hF⟩ := h
 injection e with e _ _
 subst e;obtain ⟨ps, h1, h2, h3⟩ := els_of hF;refine ⟨ps, h1, by rw [← h1, List.length_map], fun p hp' => Kd.FK_mono (h2 p hp') (fun k hk => ⟨Nat.zero_le _, by omega, fun e => by have := hp k e.symm; omega⟩), h3, row_none hF⟩
theorem flat_one {ps : PE} : ∀ u ∈ (ps.map Prod.snd).flatMap El.cs, u.oneCell' = true := by
 intro u hu;obtain ⟨e, -, he⟩ := List.mem_flatMap.1 hu;exact cs_one1 e u he
theorem row_form {W : World} {base n : Nat} {v : Value} {inner : List Value} (h : W.ownsRow base 66 3 v n inner) : ∃ LA lc, v = .slice LA n lc := by
 rcases h.2 with ⟨rfl, rfl⟩ | ⟨g, cap, cur, rfl, _⟩
 ·exact ⟨_, _, rfl⟩
 ·exact ⟨_, _, rfl⟩
set_option maxHeartbeats 3200000 in
theorem r11_Add (ok : Nat → Prop) (v u : Value) (x y : TR) (L : Nat) (w0 : World) (hok : ∀ k, w0.heap.size ≤ k → ok k) (h : Kv kTR (fun _ => True) w0 v x) (h' : Kv kTR (fun _ => True) w0 u y) (hx : DIn L x) (hy : DIn L y) (hxy : x.f1.length + y.f1.length ≤ 39) (hL : L + 2 ≤ 100000) :
  Calls Tryd.prog 22 #[v, u] w0 (KPost kTR ok w0 (tt (nv x.f0 + nv y.f0) (LnP.nrm (psR x.f1 ++ psR y.f1)))) := by
 obtain ⟨A, c, B, d, rfl, hk, hp⟩ := h.openTR;obtain ⟨A2, c2, B2, d2, rfl, hk2, hp2⟩ := h'.openTR;have C := Ctx.new (cs := [.bool false, .slice none 0 0, .slice none 0 0]) (t := 37) (Ctx.new (cs := [.bool y.f0.f0, .slice A2 y.f0.f1.length c2, .slice B2 y.f1.length d2]) (t := 37) (Ctx.new (cs := [.bool x.f0.f0, .slice A x.f0.f1.length c, .slice B x.f1.length d]) (t := 37) (Ctx.cons (uB w0) (Below.refl _ _) (Ctx.cons (uCv k66 (fun k => k < w0.heap.size) x.f1 (.slice B x.f1.length d)) (hp.within (fun k _ h => h)) (Ctx.cons (uCv k66 (fun k => k < w0.heap.size) y.f1 (.slice B2 y.f1.length d2)) (hp2.within (fun k _ h => h)) (Ctx.cons (uK k34 (fun _ => True) (.agg #[.bool x.f0.f0, .slice A x.f0.f1.length c]) x.f0) hk (Ctx.cons (uK k34 (fun _ => True) (.agg #[.bool y.f0.f0, .slice A2 y.f0.f1.length c2]) y.f0) hk2 Ctx.nil)))))));simp only [World.size_alloc] at C;have hx := Sdq.mk hx;have hy := Sdq.mk hy;have hok := Sdq.mk hok
 obtain ⟨rr, hrr⟩ : ∃ rr, rr = tt (nv x.f0 + nv y.f0) (LnP.nrm (psR x.f1 ++ psR y.f1)) := ⟨_, rfl⟩
 rw [← hrr];have HRR := Sdq.mk hrr;have hLL := Sdq.mk hxy;clear h h' hk hp hk2 hp2 hrr hxy;go_enter Tryd.func22, Tryd.ntmps22
 go_upto_region 1 with fail
 refine absW _ C ?_;clear C;intro w1 C;have y0 := Ctx.blk C.2.2.1 0 rfl;have y1 := Ctx.blk C.2.2.1 1 rfl;have n0 := Ctx.blk C.2.1 0 rfl;have n1 := Ctx.blk C.2.1 1 rfl;have hMl := r2_Add (fun _ => True) (.agg #[.bool x.f0.f0, .slice A x.f0.f1.length c]) (.agg #[.bool y.f0.f0, .slice A2 y.f0.f1.length c2]) x.f0 y.f0 w1 (fun _ _ => trivial) C.2.2.2.2.2.2.1 C.2.2.2.2.2.2.2.1 ⟨hx.out.c.1, by have := hx.out.c.2; omega⟩ ⟨hy.out.c.1, by have := hy.out.c.2; omega⟩;have C := Sdq.mk C
 go_upto_region 2 with (go_at_call 52; refine hMl.mono ?_; rintro e4 w4 ⟨v4, rfl, hv4, hb4⟩; obtain ⟨zA, zc, rfl, -, -⟩ := hv4.openN)
 have hB0 := BS.start (B := 0) (x0 := cn (nv x.f0 + nv y.f0)) (Nat.zero_le _) (hv4.mono (fun k _ => Nat.zero_le k));have C4 := C.out.below hb4;have hba : Below w4.heap.size w4 (w4.alloc (.cells #[.bool (cn (nv x.f0 + nv y.f0)).f0, .slice zA (cn (nv x.f0 + nv y.f0)).f1.length zc, .slice none 0 0] 37)) := bal (Below.refl _ _) _;have HW := And.intro hB0 (C4.below hba);have hs04 := Sdq.mk (show w0.heap.size ≤ w4.heap.size from (show Below w0.heap.size w0 w4 from C4.2.2.2.1).size);have C4 := Sdq.mk C4;clear hv4 hb4 hMl y0 y1 n0 n1 C hB0 hba
 revert HW
 generalize World.alloc w4 _ = W5;rintro ⟨hB0, C5⟩;obtain ⟨ps, hps1, hps2, hps3, hps4, hps5⟩ := in_parts (g := w4.heap.size) (pv := .slice none 0 0) C5.2.2.2.2.1 hs04.out (fun k h => by simp [Value.ownBlock] at h);have hP := Sdq.mk (And.intro hps2 (And.intro hps3 (And.intro hps4 hps5)));have HP1 := Sdq.mk hps1;have y2 := Ctx.blk C5.2.2.1 2 rfl;have z0 := Ctx.blk hB0.blk 2 rfl;have hB0 := Sdq.mk hB0;obtain ⟨i0, hi, hzz⟩ := Option.map_eq_some_iff.1 infoP;simp only [Prod.mk.injEq] at hzz;obtain ⟨hz1, hz2, hz3⟩ := hzz;have hHI := Sdq.mk (And.intro hi (And.intro hz1 (And.intro hz2 hz3)));clear hi hz1 hz2 hz3 hps1 hps2 hps3 hps4 hps5 C5
 go_upto_region 3 with ((with_reducible refine gate_builtin (b := .append) (xs := #[.tmp 13, .tmp 15]) rfl ?_); at_builtin; go_loud (refine wpl_append_at rfl (.tmp 13) (.tmp 15) 35 66 i0 _ 40 rfl undP hHI.out.1 hHI.out.2.1 hHI.out.2.2.1 hHI.out.2.2.2 rfl (.slice none 0 0) 0 ((([] : List El)).flatMap El.cs) B x.f1.length d ((ps.map Prod.snd).flatMap El.cs) rfl rfl (w4.heap.size + 1) hB0.out.own (by rw [cs_flat, List.length_map]; exact congrArg (· * 3) hP.out.1) hP.out.2.2.1 hP.out.2.2.2 flat_one (by have := hLL.out; simp only [maxLen]; omega) (by have := hLL.out; omega) (by have h1 := blk_lt (show W5.heap[w4.heap.size]? = _ from hB0.out.blk); omega) ?_; intro v6 w6 hown hg hat; rw [Nat.zero_add] at hown; obtain ⟨A6, c6, rfl⟩ := row_form hown; have hgb := (show (uBlk w4.heap.size _ 37).p w6 from (hg.block _ (blk_lt (show W5.heap[w4.heap.size]? = _ from hB0.out.blk)) hB0.out.apart).trans hB0.out.blk); have z6 := Ctx.blk hgb 2 rfl; have f6 := Ctx.frz hgb 2; have HNS6 := Sdq.mk (hB0.out.apps hP.out.2.1 hg hat (by rw [hP.out.1]; rw [List.length_nil, Nat.zero_add]; exact hown)); clear hgb hown hg hat))
 clear z0 y2 z6 f6;have C6 := C4.out.below HNS6.out.bel;have y2 := Ctx.blk C6.2.1 2 rfl;have z0 := Ctx.blk HNS6.out.blk 2 rfl
 obtain ⟨qs, hps1, hps2, hps3, hps4, hps5⟩ := in_parts (g := w4.heap.size) (pv := .slice A6 x.f1.length c6) C6.2.2.2.2.2.1 hs04.out (fun k h => by
  rcases HNS6.out.own.2 with ⟨h3, _⟩ | ⟨g', cap', cur, h3, hb, hc, _⟩
  ·rw [h3] at h; cases h
  ·rw [h3] at h
   simp only [Value.ownBlock, Option.some.injEq] at h;have := hs04.out
   omega)
 have hP2 := Sdq.mk (And.intro hps2 (And.intro hps3 (And.intro hps4 hps5)));have HP2 := Sdq.mk hps1
 have hlen6 : (ps.map Prod.snd).length = x.f1.length := by rw [List.length_map]; exact hP.out.1
 have hB6 : Sdq (BS 0 w4 _ (cn (nv x.f0 + nv y.f0)).f0 zA zc (cn (nv x.f0 + nv y.f0)) (.slice A6 x.f1.length c6) (ps.map Prod.snd) x.f1) := ⟨by have := HNS6.out; rw [List.nil_append, List.nil_append, HP1.out] at this; exact this⟩
 have hown6 := hB6.out.own;rw [hlen6] at hown6;have hown6 := Sdq.mk hown6;have hlen6 := Sdq.mk hlen6;clear hps1 hps2 hps3 hps4 hps5 C6 HNS6;generalize World.setCell _ _ _ = W6 at hB6 hown6 hP2 y2 z0 ⊢
 go_upto_region 4 with ((with_reducible refine gate_builtin (b := .append) (xs := #[.tmp 19, .tmp 21]) rfl ?_); at_builtin; go_loud (refine wpl_append_at rfl (.tmp 19) (.tmp 21) 35 66 i0 _ 40 rfl undP hHI.out.1 hHI.out.2.1 hHI.out.2.2.1 hHI.out.2.2.2 rfl (.slice A6 x.f1.length c6) x.f1.length ((ps.map Prod.snd).flatMap El.cs) B2 y.f1.length d2 ((qs.map Prod.snd).flatMap El.cs) rfl rfl (w4.heap.size + 1) hown6.out (by rw [cs_flat, List.length_map]; exact congrArg (· * 3) hP2.out.1) hP2.out.2.2.1 hP2.out.2.2.2 flat_one (by have := hLL.out; simp only [maxLen]; omega) (by have := hLL.out; omega) (by have h1 := blk_lt (show W6.heap[w4.heap.size]? = _ from hB6.out.blk); omega) ?_; intro v7 w7 hown hg hat; obtain ⟨A7, c7, rfl⟩ := row_form hown; have hgb := (show (uBlk w4.heap.size _ 37).p w7 from (hg.block _ (blk_lt (show W6.heap[w4.heap.size]? = _ from hB6.out.blk)) hB6.out.apart).trans hB6.out.blk); have z7 := Ctx.blk hgb 2 rfl; have f7 := Ctx.frz hgb 2; have HNS7 := Sdq.mk (hB6.out.apps hP2.out.2.1 hg hat (by rw [hlen6.out, hP2.out.1]; exact hown)); clear hgb hown hg hat))
 clear z0 y2 z7 f7
 have hB7 : Sdq (BS 0 w4 _ (cn (nv x.f0 + nv y.f0)).f0 zA zc (cn (nv x.f0 + nv y.f0)) (.slice A7 (x.f1.length + y.f1.length) c7) (ps.map Prod.snd ++ qs.map Prod.snd) (x.f1 ++ y.f1)) := ⟨by have := HNS7.out; rw [HP2.out] at this; exact this⟩
 have hlen7 : (ps.map Prod.snd ++ qs.map Prod.snd).length = x.f1.length + y.f1.length := by rw [List.length_append, hlen6.out, List.length_map, hP2.out.1]
 clear HNS7 hown6 hB6;generalize World.setCell _ _ _ = W7 at hB7 ⊢;have C7 := C4.out.below hB7.out.bel;have hkv := hB7.out.kv (by rw [List.length_append]; have := hLL.out; omega)
 have hNm := r11_Norm (fun k => ok k ∧ k ≠ w0.heap.size + 2) _ _ (L + 2) W7 (fun k hk => by have := blk_lt (show W7.heap[w0.heap.size + 2]? = _ from C7.1); exact ⟨hok.out k (by omega), by omega⟩) (hkv.mono (fun _ _ => trivial)) ⟨by show (x.f1 ++ y.f1).length ≤ 39; rw [List.length_append]; exact hLL.out, ⟨cn_dg _, len_cn (by have h1 := nv_abs hx.out.c.1 hx.out.c.2; have h2 := nv_abs hy.out.c.1 hy.out.c.2; generalize (10 : Int) ^ L = K at *; omega)⟩, fun p hp => by
  rcases List.mem_append.1 hp with hp | hp
  ·exact ⟨(hx.out.p p hp).1, by have := (hx.out.p p hp).2; omega⟩
  ·exact ⟨(hy.out.p p hp).1, by have := (hy.out.p p hp).2; omega⟩⟩ hL
 dsimp only at hNm
 rw [show tt (nv (cn (nv x.f0 + nv y.f0))) (LnP.nrm (psR (x.f1 ++ y.f1))) = rr by
  rw [HRR.out, nv_cn];unfold psR
  rw [List.map_append]] at hNm
 have z0 := Ctx.blk hB7.out.blk 0 rfl;have z1 := Ctx.blk hB7.out.blk 1 rfl;have z2 := Ctx.blk hB7.out.blk 2 rfl;have C7 := Sdq.mk C7;clear hB7 hkv;go_wp2_with (go_at_call 29; refine hNm.mono ?_; rintro e2 w2 ⟨v2, rfl, hv2, hb2⟩; obtain ⟨yA, yc, yB, yd, rfl, -, -⟩ := hv2.openTR; have C3 := C7.out.below hb2; have E := Sdq.mk (end3 (O := fun k => ok k ∧ k ≠ w0.heap.size + 2) (ok := ok) C3.1 C3.2.2.2.1 (by omega) (fun k hk => hk) hv2 _ rfl); have r0 := Ctx.blk C3.1 0 rfl; have r1 := Ctx.blk C3.1 1 rfl; have r2 := Ctx.blk C3.1 2 rfl; have f0 := Ctx.frz C3.1 0; have f1 := Ctx.frz C3.1 1; have f2 := Ctx.frz C3.1 2; clear C3 hv2 hb2);have E := E.out;clear r0 r1 r2 f0 f1 f2;generalize World.setCell _ _ _ = wf at E ⊢;obtain ⟨EP, e0, e1, e2⟩ := E;exact bodyPost_ret (by first | (simp [results, Tryd.results22, go_sem, e0, e1, e2]; done) | (simp [results, Tryd.results22, go_sem, e0, e1, e2]; rfl)) rfl EP
end Go.Proofs.YthpgjgmaamcaoaaDoor.P.R
end
section
namespace Go.Proofs.YthpgjgmaamcaoaaDoor.P.R
open Go.RowKit Go.Shelf Go.Proofs.YthpgjgmaamcaoaaDoor.P Go.Proofs.YthpgjgmaamcaoaaDoorW.PrintWords Go.Proofs.YthpgjgmaamcaoaaDoorW.PrintLast Go.Proofs.YthpgjgmaamcaoaaDoorW.PrintMore Go.Proofs.YthpgjgmaamcaoaaDoor.Nm
set_option maxRecDepth 100000
set_option linter.unusedVariables false
set_option linter.unusedSimpArgs false
theorem r11_Subst.tab1 : tabOf (opsOf Tryd.f13 1) = ([some 7, some 8, some 9, some 10, some 11, some 12, some 13, some 14, some 15, none], [[], [], [0, 1], [], [], [], [4, 5, 2], [3, 6, 6], [2, 7, 7], [8, 8, 0, 1, 2, 3, 4, 5, 6, 7, 8]]) := by kernel_rfl
theorem nrm_lenR {l : LnP.Ps} {L : Nat} (hl : l.length ≤ 39) (h : ∀ p ∈ l, (p.2.natAbs : Int) ≤ 10 ^ L) : ∀ p ∈ LnP.nrm l, (cn p.2).f1.length ≤ L + 2 := fun p hp => by
 have hK : (0 : Int) ≤ 10 ^ L := Int.le_of_lt (pow_pos' (B := 10) (by decide) L);have h1 := LnP.nrm_abs hK h p hp;have h2 := Int.mul_le_mul_of_nonneg_right (show (l.length : Int) ≤ 39 by omega) hK;exact len_cn (by omega)
theorem tt_in {k : Int} {l : LnP.Ps} {L M : Nat} (hl : l.length ≤ 39) (h : ∀ p ∈ l, (p.2.natAbs : Int) ≤ 10 ^ L) (hk : (cn k).f1.length ≤ M) (hM : L + 2 ≤ M) : DIn M (tt k (LnP.nrm l)) :=
 ⟨by show (List.map cp _).length ≤ 39; rw [List.length_map]; exact Nat.le_trans (LnP.nrm_len l) hl, ⟨cn_dg _, hk⟩, fun p hp => by
  obtain ⟨z, hz, rfl⟩ := List.mem_map.1 hp
  exact ⟨cn_dg _, Nat.le_trans (nrm_lenR hl h z hz) hM⟩⟩
theorem nrm_app2 (a b : LnP.Ps) : LnP.nrm (LnP.nrm a ++ LnP.nrm b) = LnP.nrm (a ++ b) := LnP.nrm_congr (fun v => by rw [LnP.cf_append, LnP.cf_append, LnP.cf_nrm, LnP.cf_nrm])
theorem cn_nv_len {x : S34} {L : Nat} (h : Dg 10 x.f1 ∧ x.f1.length ≤ L) : (cn (nv x)).f1.length ≤ L := cn_len (nv_abs h.1 h.2)
theorem DIn.filter {L : Nat} {x : TR} (h : DIn L x) (q : S66 → Bool) : DIn L ⟨x.f0, x.f1.filter q⟩ := ⟨Nat.le_trans (List.length_filter_le ..) h.few, h.c, fun p hp => h.p p (List.mem_filter.1 hp).1⟩
theorem psR_len (l : List S66) : (psR l).length = l.length := by unfold psR; simp
set_option maxHeartbeats 3200000 in
theorem r11_Subst (ok : Nat → Prop) (v u : Value) (x y : TR) (vr : Int) (L : Nat) (w0 : World) (hok : ∀ k, w0.heap.size ≤ k → ok k) (h : Kv kTR (fun _ => True) w0 v x) (h' : Kv kTR (fun _ => True) w0 u y) (hx : DIn L x) (hy : DIn L y) (hxy : x.f1.length + y.f1.length ≤ 39) (hL : L ≤ 40000) :
  Calls Tryd.prog 13 #[v, .int .i64 vr, u] w0 (KPost kTR ok w0 (tt (nv x.f0 + nv y.f0 * LnP.cf (psR x.f1) vr) (LnP.nrm (psR (x.f1.filter (fun p => p.f0 != vr)) ++ (psR y.f1).map (fun p => (p.1, p.2 * LnP.cf (psR x.f1) vr)))))) := by
 obtain ⟨A, c, B, d, rfl, -, -⟩ := h.openTR;obtain ⟨A2, c2, B2, d2, rfl, -, -⟩ := h'.openTR;have C := Ctx.new (cs := [.bool false, .slice none 0 0, .slice none 0 0]) (t := 37) (Ctx.new (cs := [.bool y.f0.f0, .slice A2 y.f0.f1.length c2, .slice B2 y.f1.length d2]) (t := 37) (Ctx.new (cs := [.bool x.f0.f0, .slice A x.f0.f1.length c, .slice B x.f1.length d]) (t := 37) (Ctx.cons (uB w0) (Below.refl _ _) (Ctx.cons (uK kTR (fun _ => True) (.agg #[.bool x.f0.f0, .slice A x.f0.f1.length c, .slice B x.f1.length d]) x) h (Ctx.cons (uK kTR (fun _ => True) (.agg #[.bool y.f0.f0, .slice A2 y.f0.f1.length c2, .slice B2 y.f1.length d2]) y) h' Ctx.nil)))));simp only [World.size_alloc] at C;have hwo : DIn (2 * L + 4) (tt (nv x.f0) (LnP.nrm (psR (x.f1.filter (fun p => p.f0 != vr))))) := tt_in (L := L) (by rw [psR_len]; exact (hx.filter _).few) (psR_abs (hx.filter _)) (Nat.le_trans (cn_nv_len hx.c) (by omega)) (by omega)
 have hkc : ((cn (LnP.cf (psR x.f1) vr))).f1.length ≤ L + 2 := by have := cf_lenR hx x.f1.length vr; rwa [List.take_of_length_le (by unfold psR; simp)] at this
 have hsc : DIn (2 * L + 4) (tt (nv y.f0 * nv (cn (LnP.cf (psR x.f1) vr))) (LnP.nrm ((psR y.f1).map (fun p => (p.1, p.2 * nv (cn (LnP.cf (psR x.f1) vr))))))) := tt_in (L := L + (L + 2)) (by rw [List.length_map, psR_len]; exact hy.few) (fun p hp => by
  obtain ⟨q, hq, rfl⟩ := List.mem_map.1 hp;unfold psR at hq;obtain ⟨z, hz, rfl⟩ := List.mem_map.1 hq;have h1 := mul_lenR (hy.p z hz) (y := (cn (LnP.cf (psR x.f1) vr))) ⟨cn_dg _, hkc⟩;have h2 := nv_abs (cn_dg (nv z.f1 * nv (cn (LnP.cf (psR x.f1) vr)))) h1;rw [nv_cn] at h2
  exact Int.le_of_lt h2) (Nat.le_trans (mul_lenR hy.c ⟨cn_dg _, hkc⟩) (by omega)) (by omega)
 have hln : ((tt (nv x.f0) (LnP.nrm (psR (x.f1.filter (fun p => p.f0 != vr)))))).f1.length + ((tt (nv y.f0 * nv (cn (LnP.cf (psR x.f1) vr))) (LnP.nrm ((psR y.f1).map (fun p => (p.1, p.2 * nv (cn (LnP.cf (psR x.f1) vr)))))))).f1.length ≤ 39 := by
  show (List.map cp _).length + (List.map cp _).length ≤ 39
  rw [List.length_map, List.length_map];have h1 := LnP.nrm_len (psR (x.f1.filter (fun p => p.f0 != vr)));have h2 := LnP.nrm_len ((psR y.f1).map (fun p => (p.1, p.2 * nv (cn (LnP.cf (psR x.f1) vr)))));rw [psR_len] at h1;rw [List.length_map, psR_len] at h2;have h3 := List.length_filter_le (fun p => p.f0 != vr) x.f1
  omega
 obtain ⟨rr, hrr⟩ : ∃ rr, rr = tt (nv x.f0 + nv y.f0 * LnP.cf (psR x.f1) vr) (LnP.nrm (psR (x.f1.filter (fun p => p.f0 != vr)) ++ (psR y.f1).map (fun p => (p.1, p.2 * LnP.cf (psR x.f1) vr)))) := ⟨_, rfl⟩
 rw [← hrr]
 have hE : tt (nv ((tt (nv x.f0) (LnP.nrm (psR (x.f1.filter (fun p => p.f0 != vr)))))).f0 + nv ((tt (nv y.f0 * nv (cn (LnP.cf (psR x.f1) vr))) (LnP.nrm ((psR y.f1).map (fun p => (p.1, p.2 * nv (cn (LnP.cf (psR x.f1) vr)))))))).f0) (LnP.nrm (psR ((tt (nv x.f0) (LnP.nrm (psR (x.f1.filter (fun p => p.f0 != vr)))))).f1 ++ psR ((tt (nv y.f0 * nv (cn (LnP.cf (psR x.f1) vr))) (LnP.nrm ((psR y.f1).map (fun p => (p.1, p.2 * nv (cn (LnP.cf (psR x.f1) vr)))))))).f1)) = rr := by
  rw [hrr]
  show tt (nv (cn _) + nv (cn _)) (LnP.nrm (psR (List.map cp _) ++ psR (List.map cp _))) = _
  rw [nv_cn, nv_cn, nv_cn, psR_cp, psR_cp, nrm_app2]
 have hAdd := Sdq.mk (fun (w : World) (hC : Ctx [uBlk (w0.heap.size + 2) [.bool false, .slice none 0 0, .slice none 0 0] 37, uBlk (w0.heap.size + 1) [.bool y.f0.f0, .slice A2 y.f0.f1.length c2, .slice B2 y.f1.length d2] 37, uBlk w0.heap.size [.bool x.f0.f0, .slice A x.f0.f1.length c, .slice B x.f1.length d] 37, uB w0, uK kTR (fun _ => True) (.agg #[.bool x.f0.f0, .slice A x.f0.f1.length c, .slice B x.f1.length d]) x, uK kTR (fun _ => True) (.agg #[.bool y.f0.f0, .slice A2 y.f0.f1.length c2, .slice B2 y.f1.length d2]) y] w) (p q : Value) (hp : Kv kTR (fun _ => True) w p (tt (nv x.f0) (LnP.nrm (psR (x.f1.filter (fun p => p.f0 != vr)))))) (hq : Kv kTR (fun _ => True) w q (tt (nv y.f0 * nv (cn (LnP.cf (psR x.f1) vr))) (LnP.nrm ((psR y.f1).map (fun p => (p.1, p.2 * nv (cn (LnP.cf (psR x.f1) vr)))))))) => by
  have h1 := r11_Add (fun k => ok k ∧ k ≠ w0.heap.size + 2) p q (tt (nv x.f0) (LnP.nrm (psR (x.f1.filter (fun p => p.f0 != vr))))) (tt (nv y.f0 * nv (cn (LnP.cf (psR x.f1) vr))) (LnP.nrm ((psR y.f1).map (fun p => (p.1, p.2 * nv (cn (LnP.cf (psR x.f1) vr))))))) (2 * L + 4) w (fun k hk => by have := blk_lt (show w.heap[w0.heap.size + 2]? = _ from hC.1); exact ⟨hok k (by omega), by omega⟩) hp hq hwo hsc hln (by omega);rw [hE] at h1
  exact h1)
 have hx := Sdq.mk hx;have hy := Sdq.mk hy;clear h h' hrr hwo hsc hln hkc hE hok;go_enter Tryd.func13, Tryd.ntmps13
 go_upto_region 1 with fail
 refine absW _ C ?_;clear C;intro w1 C;refine flowS (m := 9) (n := 10) r11_Subst.tab1 rfl (Ctx _) (Rl [uEq (.agg #[.bool x.f0.f0, .slice A x.f0.f1.length c, .slice B x.f1.length d]), uEq (.int .i64 vr), uKd kTR (fun _ => True) (tt (nv x.f0) (LnP.nrm (psR (x.f1.filter (fun p => p.f0 != vr))))), uEq (.agg #[.bool y.f0.f0, .slice A2 y.f0.f1.length c2, .slice B2 y.f1.length d2]), uEq (.agg #[.bool x.f0.f0, .slice A x.f0.f1.length c, .slice B x.f1.length d]), uEq (.int .i64 vr), uKd k34 (fun _ => True) (cn (LnP.cf (psR x.f1) vr)), uKd kTR (fun _ => True) (tt (nv y.f0 * nv (cn (LnP.cf (psR x.f1) vr))) (LnP.nrm ((psR y.f1).map (fun p => (p.1, p.2 * nv (cn (LnP.cf (psR x.f1) vr))))))), uKd kTR (fun k => ok k ∧ k ≠ w0.heap.size + 2) rr]) rfl (by kernel_rfl) (by kernel_rfl) (fun _ _ h hb => h.below hb) (Rl.up _) C ⟨⟨⟨⟨⟨⟨⟨⟨⟨trivial, ?_⟩, ?_⟩, ?_⟩, ?_⟩, ?_⟩, ?_⟩, ?_⟩, ?_⟩, ?_⟩ ?_
 ·refine At.of _ rfl (fun e_ a w hC hd hb K hK => ?_)
  have b3 : a.tmps[3]? = some (.pointer (some ⟨w0.heap.size, 0, none⟩)) := hb 3 (by decide);have cc0 : w.cell? ⟨w0.heap.size, 0, none⟩ = some (.bool x.f0.f0) := Ctx.blk hC.2.2.1 0 rfl;have cc1 : w.cell? ⟨w0.heap.size, 1, none⟩ = some (.slice A x.f0.f1.length c) := Ctx.blk hC.2.2.1 1 rfl;have cc2 : w.cell? ⟨w0.heap.size, 2, none⟩ = some (.slice B x.f1.length d) := Ctx.blk hC.2.2.1 2 rfl;refine value_ (w1 := w) (v := .agg #[.bool x.f0.f0, .slice A x.f0.f1.length c, .slice B x.f1.length d]) (by rfl) rfl ?_ (hK.out _ _ (Below.refl _ _) rfl);clear hC hd hb hK hAdd
  first | (go_simp; done) | (go_simp; rfl)
 ·refine At.of _ rfl (fun e_ a w hC hd hb K hK => ?_)
  have b1 : a.tmps[1]? = some (.int .i64 vr) := hb 1 (by decide);refine value_ (w1 := w) (v := .int .i64 vr) (by rfl) rfl ?_ (hK.out _ _ (Below.refl _ _) rfl);clear hC hd hb hK hAdd
  first | (go_simp; done) | (go_simp; rfl)
 ·refine At.of _ rfl (fun e_ a w hC hd hb K hK => ?_)
  have q7 := (hd 0 (by decide)).2 7 rfl;rw [show e_ 0 = _ from (hd 0 (by decide)).1] at q7;have q8 := (hd 1 (by decide)).2 8 rfl;rw [show e_ 1 = _ from (hd 1 (by decide)).1] at q8;refine goes_ Tryd.func16 (by kernel_rfl) rfl #[.agg #[.bool x.f0.f0, .slice A x.f0.f1.length c, .slice B x.f1.length d], .int .i64 vr] (by rfl) rfl rfl (by first | (simp [Act.eval, q7, q8]; done) | (simp [Act.eval, q7, q8]; rfl)) ?_;refine (r11_Without (fun _ => True) _ x vr L w (fun _ _ => trivial) hC.2.2.2.2.1 hx.out (by omega)).mono ?_;rintro en w' ⟨v, rfl, hv, hb'⟩;exact ⟨v, rfl, hK.out v w' hb' hv⟩
 ·refine At.of _ rfl (fun e_ a w hC hd hb K hK => ?_)
  have b5 : a.tmps[5]? = some (.pointer (some ⟨w0.heap.size + 1, 0, none⟩)) := hb 5 (by decide);have cc0 : w.cell? ⟨w0.heap.size + 1, 0, none⟩ = some (.bool y.f0.f0) := Ctx.blk hC.2.1 0 rfl;have cc1 : w.cell? ⟨w0.heap.size + 1, 1, none⟩ = some (.slice A2 y.f0.f1.length c2) := Ctx.blk hC.2.1 1 rfl;have cc2 : w.cell? ⟨w0.heap.size + 1, 2, none⟩ = some (.slice B2 y.f1.length d2) := Ctx.blk hC.2.1 2 rfl;refine value_ (w1 := w) (v := .agg #[.bool y.f0.f0, .slice A2 y.f0.f1.length c2, .slice B2 y.f1.length d2]) (by rfl) rfl ?_ (hK.out _ _ (Below.refl _ _) rfl);clear hC hd hb hK hAdd
  first | (go_simp; done) | (go_simp; rfl)
 ·refine At.of _ rfl (fun e_ a w hC hd hb K hK => ?_)
  have b3 : a.tmps[3]? = some (.pointer (some ⟨w0.heap.size, 0, none⟩)) := hb 3 (by decide);have cc0 : w.cell? ⟨w0.heap.size, 0, none⟩ = some (.bool x.f0.f0) := Ctx.blk hC.2.2.1 0 rfl;have cc1 : w.cell? ⟨w0.heap.size, 1, none⟩ = some (.slice A x.f0.f1.length c) := Ctx.blk hC.2.2.1 1 rfl;have cc2 : w.cell? ⟨w0.heap.size, 2, none⟩ = some (.slice B x.f1.length d) := Ctx.blk hC.2.2.1 2 rfl;refine value_ (w1 := w) (v := .agg #[.bool x.f0.f0, .slice A x.f0.f1.length c, .slice B x.f1.length d]) (by rfl) rfl ?_ (hK.out _ _ (Below.refl _ _) rfl);clear hC hd hb hK hAdd
  first | (go_simp; done) | (go_simp; rfl)
 ·refine At.of _ rfl (fun e_ a w hC hd hb K hK => ?_)
  have b1 : a.tmps[1]? = some (.int .i64 vr) := hb 1 (by decide);refine value_ (w1 := w) (v := .int .i64 vr) (by rfl) rfl ?_ (hK.out _ _ (Below.refl _ _) rfl);clear hC hd hb hK hAdd
  first | (go_simp; done) | (go_simp; rfl)
 ·refine At.of _ rfl (fun e_ a w hC hd hb K hK => ?_)
  have q11 := (hd 4 (by decide)).2 11 rfl;rw [show e_ 4 = _ from (hd 4 (by decide)).1] at q11;have q12 := (hd 5 (by decide)).2 12 rfl;rw [show e_ 5 = _ from (hd 5 (by decide)).1] at q12;refine goes_ Tryd.func45 (by kernel_rfl) rfl #[.agg #[.bool x.f0.f0, .slice A x.f0.f1.length c, .slice B x.f1.length d], .int .i64 vr] (by rfl) rfl rfl (by first | (simp [Act.eval, q11, q12]; done) | (simp [Act.eval, q11, q12]; rfl)) ?_;refine (r11_Coef (fun _ => True) _ x vr L w (fun _ _ => trivial) hC.2.2.2.2.1 hx.out (by omega)).mono ?_;rintro en w' ⟨v, rfl, hv, hb'⟩;exact ⟨v, rfl, hK.out v w' hb' hv⟩
 ·refine At.of _ rfl (fun e_ a w hC hd hb K hK => ?_)
  have q10 := (hd 3 (by decide)).2 10 rfl;rw [show e_ 3 = _ from (hd 3 (by decide)).1] at q10;have q13 := (hd 6 (by decide)).2 13 rfl;refine goes_ Tryd.func25 (by kernel_rfl) rfl #[.agg #[.bool y.f0.f0, .slice A2 y.f0.f1.length c2, .slice B2 y.f1.length d2], e_ 6] (by rfl) rfl rfl (by first | (simp [Act.eval, q10, q13]; done) | (simp [Act.eval, q10, q13]; rfl)) ?_;refine (r11_Scale (fun _ => True) _ _ y (cn (LnP.cf (psR x.f1) vr)) L (L + 2) w (fun _ _ => trivial) hC.2.2.2.2.2.1 (hd 6 (by decide)).1 hy.out ⟨cn_dg _, by have := cf_lenR hx.out x.f1.length vr; rwa [List.take_of_length_le (by unfold psR; simp)] at this⟩ (by omega)).mono ?_;rintro en w' ⟨v, rfl, hv, hb'⟩;exact ⟨v, rfl, hK.out v w' hb' hv⟩
 ·refine At.of _ rfl (fun e_ a w hC hd hb K hK => ?_)
  have q9 := (hd 2 (by decide)).2 9 rfl;have q14 := (hd 7 (by decide)).2 14 rfl;refine goes_ Tryd.func22 (by kernel_rfl) rfl #[e_ 2, e_ 7] (by rfl) rfl rfl (by first | (simp [Act.eval, q9, q14]; done) | (simp [Act.eval, q9, q14]; rfl)) ?_;refine (hAdd.out w hC _ _ (hd 2 (by decide)).1 (hd 7 (by decide)).1).mono ?_;rintro en w' ⟨v, rfl, hv, hb'⟩;exact ⟨v, rfl, hK.out v w' hb' hv⟩
 ·intro e_ w2 hC hr a ha
  obtain ⟨yA, yc, yB, yd, he4, -, -⟩ := Kv.openTR hr.2;have hv2 : Kv kTR (fun k => ok k ∧ k ≠ w0.heap.size + 2) w2 (e_ 8) rr := hr.2;rw [he4] at hv2;simp only [fill, Act.put, he4, Nat.reduceAdd, Nat.reduceLT, decide_true, decide_false, if_true, Bool.false_eq_true, if_false, List.setIfInBounds_toArray, List.set_cons_zero, List.set_cons_succ] at ha;subst ha;clear hr he4 hAdd;have E := Sdq.mk (end3 (O := (fun k => ok k ∧ k ≠ w0.heap.size + 2)) (ok := ok) hC.1 hC.2.2.2.1 (by omega) (fun k hk => hk) hv2 _ rfl);have r0 := Ctx.blk hC.1 0 rfl;have r1 := Ctx.blk hC.1 1 rfl;have r2 := Ctx.blk hC.1 2 rfl;have f0 := Ctx.frz hC.1 0;have f1 := Ctx.frz hC.1 1;have f2 := Ctx.frz hC.1 2;clear hC hv2 C;simp only [List.drop_succ_cons, List.drop_zero]
  go_wp2_with fail
  have E := E.out;clear r0 r1 r2 f0 f1 f2;generalize World.setCell _ _ _ = wf at E ⊢;obtain ⟨EP, e0, e1, e2⟩ := E;exact bodyPost_ret (by first | (simp [results, Tryd.results13, go_sem, e0, e1, e2]; done) | (simp [results, Tryd.results13, go_sem, e0, e1, e2]; rfl)) rfl EP
end Go.Proofs.YthpgjgmaamcaoaaDoor.P.R
end
section
namespace Go.Proofs.YthpgjgmaamcaoaaDoor.P.R
open Go.RowKit Go.Shelf Go.Proofs.YthpgjgmaamcaoaaDoor.P Go.Proofs.YthpgjgmaamcaoaaDoorW.PrintWords Go.Proofs.YthpgjgmaamcaoaaDoorW.PrintLast Go.Proofs.YthpgjgmaamcaoaaDoorW.PrintMore Go.Proofs.YthpgjgmaamcaoaaDoor.Nm
set_option maxRecDepth 100000
set_option linter.unusedVariables false
set_option linter.unusedSimpArgs false
theorem law_of.tab5 : tabOf (opsOf Tryd.f14 5) = ([some 16, some 17, some 18, some 19, some 20, some 21, some 22, some 23, some 24, some 25, some 26, some 27, some 28, some 29, some 30, some 31, some 32, some 33, some 34, none], [[], [0], [], [2], [], [3, 4], [5], [6], [], [8], [], [9, 10], [11], [12], [13], [7, 14], [15], [1, 16, 14], [0, 1, 2, 3, 4, 5, 6, 7, 8, 9, 10, 11, 12, 13, 14, 15, 16, 17], [18, 17, 17, 0, 1, 2, 3, 4, 5, 6, 7, 8, 9, 10, 11, 12, 13, 14, 15, 16, 17]]) := by kernel_rfl
structure BIn (x : TB) : Prop where
 few : x.f1.length ≤ 39
 c : Big x.f0
 p : ∀ p ∈ x.f1, Big p.f1
def ofP (p : S44) : S66 := ⟨p.f0, cn (bv p.f1)⟩
def ofT (x : TB) : TR := ⟨cn (bv x.f0), x.f1.map ofP⟩
set_option maxHeartbeats 3200000 in
theorem law_of (ok : Nat → Prop) (v : Value) (x : TB) (w0 : World) (hok : ∀ k, w0.heap.size ≤ k → ok k) (h : Kv kTB (fun _ => True) w0 v x) (hx : BIn x) :
  Calls Tryd.prog 14 #[v] w0 (KPost kTR ok w0 (ofT x)) := by
 obtain ⟨A, c, B, d, rfl, hk, hp⟩ := h.openTB;have C := Ctx.new (cs := [.bool false, .slice none 0 0, .slice none 0 0]) (t := 37) (Ctx.new (cs := [.bool x.f0.f0, .slice A x.f0.f1.length c, .slice B x.f1.length d]) (t := 27) (Ctx.cons (uB w0) (Below.refl _ _) (Ctx.cons (uCv k44 (fun _ => True) x.f1 (.slice B x.f1.length d)) hp (Ctx.cons (uK k24 (fun _ => True) (.agg #[.bool x.f0.f0, .slice A x.f0.f1.length c]) x.f0) hk Ctx.nil))));simp only [World.size_alloc] at C;have hx := Sdq.mk hx;have hok := Sdq.mk hok
 obtain ⟨rr, hrr⟩ : ∃ rr, rr = ofT x := ⟨_, rfl⟩
 rw [← hrr];have HRR := Sdq.mk hrr;clear h hk hp hrr;go_enter Tryd.func14, Tryd.ntmps14
 go_upto_region 1 with fail
 refine absW _ C ?_;clear C;intro w1 C;have y0 := Ctx.blk C.2.1 0 rfl;have y1 := Ctx.blk C.2.1 1 rfl;have hs1 := blk_lt (show w1.heap[w0.heap.size + 1]? = _ from C.1);have hMl := law_num (fun k => w0.heap.size + 2 ≤ k) _ x.f0 w1 (fun k hk => by omega) C.2.2.2.2.1 hx.out.c;have C := Sdq.mk C;clear hs1
 go_upto_region 2 with (go_at_call 26; refine hMl.mono ?_; rintro e4 w4 ⟨v4, rfl, hv4, hb4⟩; obtain ⟨zA, zc, rfl, -, -⟩ := hv4.openN)
 have C4 := C.out.below hb4;have hs4 := blk_lt (show w4.heap[w0.heap.size + 1]? = _ from C4.1);have hB0 := Sdq.mk (BS.start (x0 := cn (bv x.f0)) (show w0.heap.size + 2 ≤ w4.heap.size by omega) hv4);have C4 := Sdq.mk C4;clear hv4 hb4 hMl y0 y1 C hs4
 obtain ⟨W5, eW5⟩ : ∃ W5, W5 = w4.alloc (.cells #[.bool (cn (bv x.f0)).f0, .slice zA (cn (bv x.f0)).f1.length zc, .slice none 0 0] 37) := ⟨_, rfl⟩
 rw [← eW5] at hB0 ⊢;clear eW5
 obtain ⟨n, en⟩ : ∃ n, n = x.f1.length := ⟨_, rfl⟩
 have hn := Sdq.mk en
 have hn39 : n ≤ 39 := by rw [en]; exact hx.out.few
 clear en
 go_wp2_with fail
 go_loopg [4] n (fun gk s4 wr => ∃ (i : Nat) (pv : Value) (os : List El), gk + i = n ∧ s4 = .int .i64 (i : Int) ∧ Sdq (BS (w0.heap.size + 2) w4 wr (cn (bv x.f0)).f0 zA zc (cn (bv x.f0)) pv os ((x.f1.take i).map ofP)))
 case atStart => exact ⟨0, _, _, by omega, rfl, hB0⟩
 case round =>
  clear hB0;obtain ⟨i, pv, os, hgi, rfl, hN⟩ := hrel;obtain ⟨PA, pc, rfl⟩ := hN.out.pvf
  obtain ⟨no, eno0⟩ : ∃ no, no = os.length := ⟨_, rfl⟩
  rw [← eno0] at hN;have eno := Sdq.mk eno0;clear eno0;have C2 := Sdq.mk (C4.out.below hN.out.bel);have y2 := Ctx.blk C2.out.2.1 2 rfl;rw [← hn.out] at y2
  cases gk with
  | zero =>
   obtain rfl : i = n := by omega
   rw [List.take_of_length_le (by have := hn.out; omega)] at hN;have hkv := hN.out.kv (by rw [List.length_map]; have := hx.out.few; omega);rw [show (⟨cn (bv x.f0), x.f1.map ofP⟩ : TR) = rr from HRR.out.symm] at hkv;have E := Sdq.mk (end3 (O := fun k => w0.heap.size + 2 ≤ k) (ok := ok) C2.out.1 C2.out.2.2.1 (Nat.le_succ _) (fun k hk => ⟨hok.out k (by omega), by omega⟩) hkv _ rfl);have z0 := Ctx.blk hN.out.blk 0 rfl;have z1 := Ctx.blk hN.out.blk 1 rfl;have z2 := Ctx.blk hN.out.blk 2 rfl;have r0 := Ctx.blk C2.out.1 0 rfl;have r1 := Ctx.blk C2.out.1 1 rfl;have r2 := Ctx.blk C2.out.1 2 rfl;have f0 := Ctx.frz C2.out.1 0;have f1 := Ctx.frz C2.out.1 1;have f2 := Ctx.frz C2.out.1 2;clear hN hkv C2
   go_wp2_with fail
   have E := E.out;clear z0 z1 z2 r0 r1 r2 f0 f1 f2;generalize World.setCell _ _ _ = wf at E ⊢;obtain ⟨EP, e0, e1, e2⟩ := E;exact bodyPost_ret (by first | (simp [results, Tryd.results14, go_sem, e0, e1, e2]; done) | (simp [results, Tryd.results14, go_sem, e0, e1, e2]; rfl)) rfl EP
  | succ j =>
   have hin : i < x.f1.length := by have := hn.out; omega
   obtain ⟨B', d', e1, -, hF⟩ := C2.out.2.2.2.1
   injection e1 with e2 _ e3
   subst e2;subst e3;obtain ⟨ad, e, rfl, x0, x1, x2, hfk⟩ := Go.Proofs.YthpgjgmaamcaoaaDoor.P.row_el hF hin;have HP := Sdq.mk (And.intro hgi hin)
   have hin2 : i < n := by omega
   have hst := Sdq.mk (show (x.f1.take (i + 1)).map ofP = (x.f1.take i).map ofP ++ [ofP x.f1[i]] by rw [List.take_succ_eq_append_getElem hin, List.map_append]; rfl);have hev : e.v = x.f1[i].f0 := (Go.Proofs.YthpgjgmaamcaoaaDoor.P.fk_el hfk).1;have hqd := Sdq.mk (hx.out.p x.f1[i] (List.getElem_mem hin))
   obtain ⟨q, eq⟩ : ∃ q, q = x.f1[i] := ⟨_, rfl⟩
   rw [← eq] at hfk hev hst hqd;have HEV := Sdq.mk hev
   obtain ⟨xs, hxs⟩ : ∃ xs, xs = (x.f1.take i).map ofP := ⟨_, rfl⟩
   rw [← hxs] at hN hst;have hxl := Sdq.mk (show xs.length ≤ 39 by rw [hxs]; simp; omega);clear hF eq hxs hgi hin hev
   have C6 : Ctx [uBS (w0.heap.size + 2) w4 (cn (bv x.f0)).f0 zA zc (cn (bv x.f0)) (.slice PA no pc) os xs, uBlk w0.heap.size [.bool x.f0.f0, .slice A x.f0.f1.length c, .slice (some ad) n d] 27, uEl ad i e, uK k24 (fun _ => True) (.agg #[.bool e.b, .slice e.A e.n e.c]) q.f1] wr := ⟨hN.out, by rw [hn.out]; exact C2.out.2.1, ⟨x0, x1, x2⟩, Go.Proofs.YthpgjgmaamcaoaaDoor.P.el_kv hfk, trivial⟩
   have hL := Sdq.mk (fun (W : World) (hC : Ctx [uBS (w0.heap.size + 2) w4 (cn (bv x.f0)).f0 zA zc (cn (bv x.f0)) (.slice PA no pc) os xs, uBlk w0.heap.size [.bool x.f0.f0, .slice A x.f0.f1.length c, .slice (some ad) n d] 27, uEl ad i e, uK k24 (fun _ => True) (.agg #[.bool e.b, .slice e.A e.n e.c]) q.f1] W) => law_num (Fo (w0.heap.size + 2) w4.heap.size (.slice PA no pc)) (.agg #[.bool e.b, .slice e.A e.n e.c]) q.f1 W hC.1.fresh hC.2.2.2.1 hqd.out);clear hfk hN
   go_upto_region 5 with fail
   clear x0 x1 x2 y2;refine absW _ C6 ?_;clear C6;intro w6 C;refine flowS (m := 17) (n := 20) law_of.tab5 rfl (Ctx _) (Rl [uEq (.pointer (some ⟨w4.heap.size, 2, none⟩)), uEq (.slice PA no pc), uEq (.pointer (some ⟨w0.heap.size, 2, none⟩)), uEq (.slice (some ad) n d), uEq (.int .i64 (i : Int)), uEq (.pointer (some (Addr.add ad (i * 3)))), uEq (.pointer (some (Addr.add ad (i * 3)))), uEq (.int .i64 e.v), uEq (.pointer (some ⟨w0.heap.size, 2, none⟩)), uEq (.slice (some ad) n d), uEq (.int .i64 (i : Int)), uEq (.pointer (some (Addr.add ad (i * 3)))), uEq (.pointer (some ⟨(Addr.add ad (i * 3)).block, (Addr.add ad (i * 3)).off + 1, none⟩)), uEq (.agg #[.bool e.b, .slice e.A e.n e.c]), uKd k34 (Fo (w0.heap.size + 2) w4.heap.size (.slice PA no pc)) (cn (bv q.f1)), uKd k66 (Fo (w0.heap.size + 2) w4.heap.size (.slice PA no pc)) (⟨q.f0, cn (bv q.f1)⟩ : S66), uBx (Fo (w0.heap.size + 2) w4.heap.size (.slice PA no pc)) (⟨q.f0, cn (bv q.f1)⟩ : S66)]) rfl (by kernel_rfl) (by kernel_rfl) (fun _ _ h hb => h.below hb) (Rl.up _) C ⟨⟨⟨⟨⟨⟨⟨⟨⟨⟨⟨⟨⟨⟨⟨⟨⟨trivial, ?_⟩, ?_⟩, ?_⟩, ?_⟩, ?_⟩, ?_⟩, ?_⟩, ?_⟩, ?_⟩, ?_⟩, ?_⟩, ?_⟩, ?_⟩, ?_⟩, ?_⟩, ?_⟩, ?_⟩ ?_
   ·refine At.of _ rfl (fun e_ a w hC hd hb K hK => ?_)
    have b3 : a.tmps[3]? = some (.pointer (some ⟨w4.heap.size, 0, none⟩)) := hb 3 (by decide);refine value_ (w1 := w) (v := .pointer (some ⟨w4.heap.size, 2, none⟩)) (by rfl) rfl ?_ (hK.out _ _ (Below.refl _ _) rfl);clear hC hd hb hK hL
    first | (go_simp; done) | (go_simp; rfl)
   ·refine At.of _ rfl (fun e_ a w hC hd hb K hK => ?_)
    have q16 := (hd 0 (by decide)).2 16 rfl;rw [show e_ 0 = _ from (hd 0 (by decide)).1] at q16;have cc2 : w.cell? ⟨w4.heap.size, 2, none⟩ = some (.slice PA no pc) := Ctx.blk hC.1.blk 2 rfl;refine value_ (w1 := w) (v := .slice PA no pc) (by rfl) rfl ?_ (hK.out _ _ (Below.refl _ _) rfl);clear hC hd hb hK hL
    first | (go_simp; done) | (go_simp; rfl)
   ·refine At.of _ rfl (fun e_ a w hC hd hb K hK => ?_)
    have b1 : a.tmps[1]? = some (.pointer (some ⟨w0.heap.size, 0, none⟩)) := hb 1 (by decide);refine value_ (w1 := w) (v := .pointer (some ⟨w0.heap.size, 2, none⟩)) (by rfl) rfl ?_ (hK.out _ _ (Below.refl _ _) rfl);clear hC hd hb hK hL
    first | (go_simp; done) | (go_simp; rfl)
   ·refine At.of _ rfl (fun e_ a w hC hd hb K hK => ?_)
    have q18 := (hd 2 (by decide)).2 18 rfl;rw [show e_ 2 = _ from (hd 2 (by decide)).1] at q18;have cc2 : w.cell? ⟨w0.heap.size, 2, none⟩ = some (.slice (some ad) n d) := Ctx.blk hC.2.1 2 rfl;refine value_ (w1 := w) (v := .slice (some ad) n d) (by rfl) rfl ?_ (hK.out _ _ (Below.refl _ _) rfl);clear hC hd hb hK hL
    first | (go_simp; done) | (go_simp; rfl)
   ·refine At.of _ rfl (fun e_ a w hC hd hb K hK => ?_)
    have b4 : a.tmps[4]? = some (.int .i64 (i : Int)) := hb 4 (by decide);refine value_ (w1 := w) (v := .int .i64 (i : Int)) (by rfl) rfl ?_ (hK.out _ _ (Below.refl _ _) rfl);clear hC hd hb hK hL
    first | (go_simp; done) | (go_simp; rfl)
   ·refine At.of _ rfl (fun e_ a w hC hd hb K hK => ?_)
    have q19 := (hd 3 (by decide)).2 19 rfl;rw [show e_ 3 = _ from (hd 3 (by decide)).1] at q19;have q20 := (hd 4 (by decide)).2 20 rfl;rw [show e_ 4 = _ from (hd 4 (by decide)).1] at q20;refine value_ (w1 := w) (v := .pointer (some (Addr.add ad (i * 3)))) (by rfl) rfl ?_ (hK.out _ _ (Below.refl _ _) rfl);clear hC hd hb hK hL
    first | (go_simp; done) | (go_simp; rfl)
   ·refine At.of _ rfl (fun e_ a w hC hd hb K hK => ?_)
    have q21 := (hd 5 (by decide)).2 21 rfl;rw [show e_ 5 = _ from (hd 5 (by decide)).1] at q21;refine value_ (w1 := w) (v := .pointer (some (Addr.add ad (i * 3)))) (by rfl) rfl ?_ (hK.out _ _ (Below.refl _ _) rfl);clear hC hd hb hK hL
    first | (go_simp; done) | (go_simp; rfl)
   ·refine At.of _ rfl (fun e_ a w hC hd hb K hK => ?_)
    have q22 := (hd 6 (by decide)).2 22 rfl;rw [show e_ 6 = _ from (hd 6 (by decide)).1] at q22;obtain ⟨x0, x1, x2⟩ := hC.2.2.1;refine value_ (w1 := w) (v := .int .i64 e.v) (by rfl) rfl ?_ (hK.out _ _ (Below.refl _ _) rfl);clear hC hd hb hK hL
    first | (go_simp; done) | (go_simp; rfl)
   ·refine At.of _ rfl (fun e_ a w hC hd hb K hK => ?_)
    have b1 : a.tmps[1]? = some (.pointer (some ⟨w0.heap.size, 0, none⟩)) := hb 1 (by decide);refine value_ (w1 := w) (v := .pointer (some ⟨w0.heap.size, 2, none⟩)) (by rfl) rfl ?_ (hK.out _ _ (Below.refl _ _) rfl);clear hC hd hb hK hL
    first | (go_simp; done) | (go_simp; rfl)
   ·refine At.of _ rfl (fun e_ a w hC hd hb K hK => ?_)
    have q24 := (hd 8 (by decide)).2 24 rfl;rw [show e_ 8 = _ from (hd 8 (by decide)).1] at q24;have cc2 : w.cell? ⟨w0.heap.size, 2, none⟩ = some (.slice (some ad) n d) := Ctx.blk hC.2.1 2 rfl;refine value_ (w1 := w) (v := .slice (some ad) n d) (by rfl) rfl ?_ (hK.out _ _ (Below.refl _ _) rfl);clear hC hd hb hK hL
    first | (go_simp; done) | (go_simp; rfl)
   ·refine At.of _ rfl (fun e_ a w hC hd hb K hK => ?_)
    have b4 : a.tmps[4]? = some (.int .i64 (i : Int)) := hb 4 (by decide);refine value_ (w1 := w) (v := .int .i64 (i : Int)) (by rfl) rfl ?_ (hK.out _ _ (Below.refl _ _) rfl);clear hC hd hb hK hL
    first | (go_simp; done) | (go_simp; rfl)
   ·refine At.of _ rfl (fun e_ a w hC hd hb K hK => ?_)
    have q25 := (hd 9 (by decide)).2 25 rfl;rw [show e_ 9 = _ from (hd 9 (by decide)).1] at q25;have q26 := (hd 10 (by decide)).2 26 rfl;rw [show e_ 10 = _ from (hd 10 (by decide)).1] at q26;refine value_ (w1 := w) (v := .pointer (some (Addr.add ad (i * 3)))) (by rfl) rfl ?_ (hK.out _ _ (Below.refl _ _) rfl);clear hC hd hb hK hL
    first | (go_simp; done) | (go_simp; rfl)
   ·refine At.of _ rfl (fun e_ a w hC hd hb K hK => ?_)
    have q27 := (hd 11 (by decide)).2 27 rfl;rw [show e_ 11 = _ from (hd 11 (by decide)).1] at q27;refine value_ (w1 := w) (v := .pointer (some ⟨(Addr.add ad (i * 3)).block, (Addr.add ad (i * 3)).off + 1, none⟩)) (by rfl) rfl ?_ (hK.out _ _ (Below.refl _ _) rfl);clear hC hd hb hK hL
    first | (go_simp; done) | (go_simp; rfl)
   ·refine At.of _ rfl (fun e_ a w hC hd hb K hK => ?_)
    have q28 := (hd 12 (by decide)).2 28 rfl;rw [show e_ 12 = _ from (hd 12 (by decide)).1] at q28;obtain ⟨x0, x1, x2⟩ := hC.2.2.1;refine value_ (w1 := w) (v := .agg #[.bool e.b, .slice e.A e.n e.c]) (by rfl) rfl ?_ (hK.out _ _ (Below.refl _ _) rfl);clear hC hd hb hK hL
    first | (go_simp; done) | (go_simp; rfl)
   ·refine At.of _ rfl (fun e_ a w hC hd hb K hK => ?_)
    have q29 := (hd 13 (by decide)).2 29 rfl;rw [show e_ 13 = _ from (hd 13 (by decide)).1] at q29;refine goes_ Tryd.func26 (by kernel_rfl) rfl #[.agg #[.bool e.b, .slice e.A e.n e.c]] (by rfl) rfl rfl (by first | (simp [Act.eval, q29]; done) | (simp [Act.eval, q29]; rfl)) ?_;refine (hL.out w hC).mono ?_;rintro en w' ⟨v, rfl, hv, hb'⟩;exact ⟨v, rfl, hK.out v w' hb' hv⟩
   ·refine At.of _ rfl (fun e_ a w hC hd hb K hK => ?_)
    have q23 := (hd 7 (by decide)).2 23 rfl;rw [show e_ 7 = _ from (hd 7 (by decide)).1] at q23;have q30 := (hd 14 (by decide)).2 30 rfl;obtain ⟨yA, yc, heN, yl, yF⟩ := Kv.openN (hd 14 (by decide)).1;rw [heN] at q30;refine value_ (w1 := w) (v := .agg #[.int .i64 e.v, .bool (cn (bv q.f1)).f0, .slice yA (cn (bv q.f1)).f1.length yc]) (by rfl) rfl ?_ (hK.out _ _ (Below.refl _ _) ⟨_, rfl, by rw [HEV.out]; exact k66_mkF w _ (⟨q.f0, cn (bv q.f1)⟩ : S66) yl yF⟩);clear hC hd hb hK hL yl yF heN
    first | (go_simp; done) | (go_simp; rfl)
   ·refine At.of _ rfl (fun e_ a w hC hd hb K hK => ?_)
    have q31 := (hd 15 (by decide)).2 31 rfl;obtain ⟨cs8, he8, hK8⟩ := (hd 15 (by decide)).1;obtain ⟨yA, yc, rfl, yl, yF⟩ := k66_openF hK8;rw [he8] at q31;refine value_ (w1 := w.alloc (.cells (El.cs ⟨q.f0, (cn (bv q.f1)).f0, yA, (cn (bv q.f1)).f1.length, yc⟩).toArray 66)) (v := .slice (some ⟨w.heap.size, 0, none⟩) 1 1) (by rfl) rfl ?_ (hK.out _ _ (bal (Below.refl _ _) _) ⟨w.heap.size, _, rfl, blk_new w _, Kd.FK_below hK8 (bal (Below.refl _ _) _)⟩);clear hC hd hb hK hL yl yF he8 hK8;unfold El.cs
    first | (go_simp; done) | (go_simp; rfl)
   ·intro e_ w10 hC hr a ha
    obtain ⟨gb, e', he8, hbx, hK8⟩ := hr.2;have r1 : e_ 1 = .slice PA no pc := hr.1.1.1.1.1.1.1.1.1.1.1.1.1.1.1.2;simp only [fill, Act.put, r1, he8, Nat.reduceAdd, Nat.reduceLT, decide_true, decide_false, if_true, Bool.false_eq_true, if_false, List.setIfInBounds_toArray, List.set_cons_zero, List.set_cons_succ] at ha;subst ha;clear hr r1 he8 hL;obtain rfl := eno.out;obtain ⟨i0, hi, hzz⟩ := Option.map_eq_some_iff.1 infoP;simp only [Prod.mk.injEq] at hzz;obtain ⟨hz1, hz2, hz3⟩ := hzz;have hHI := Sdq.mk (And.intro hi (And.intro hz1 (And.intro hz2 hz3)));clear hi hz1 hz2 hz3;have hN := Sdq.mk (show BS (w0.heap.size + 2) w4 w10 (cn (bv x.f0)).f0 zA zc (cn (bv x.f0)) (.slice PA os.length pc) os xs from hC.1);have hnw := Sdq.mk (bx_news hbx);have hone := Sdq.mk (cs_one1 e');have hK := Sdq.mk hK8;have hOL := Sdq.mk (show os.length ≤ 100001 by have := hN.out.len; have := hxl.out; omega);have hs6 := Sdq.mk (show w4.heap.size + 1 ≤ w10.heap.size by have h1 := blk_lt (show w10.heap[w4.heap.size]? = _ from hN.out.blk); omega);clear hC hbx hK8 C;simp only [List.drop_succ_cons, List.drop_zero]
    go_wp2_with (first
     | ((with_reducible refine gate_builtin (b := .append) (xs := #[.tmp 17, .tmp 32]) rfl ?_); at_builtin; go_loud (refine wpList_append_own_at _ rfl (.tmp 17) (.tmp 32) 35 rfl (w4.heap.size + 1) 66 i0 _ 3 40 undP hHI.out.1 hHI.out.2.1 hHI.out.2.2.1 hHI.out.2.2.2 rfl (by decide) (.slice PA os.length pc) os.length (os.flatMap El.cs) rfl hN.out.own ⟨gb, 0, none⟩ 1 1 e'.cs rfl rfl hnw.out hone.out (by have := hOL.out; simp only [maxLen]; omega) (by have := hOL.out; omega) hs6.out ?_; intro v1 w11 hown1 hg1 hnil1 hat1; obtain ⟨g1, c1, hv1, -⟩ := ownsRow_slice hown1 (by omega); subst hv1; have hgb := (show (uBlk w4.heap.size _ 37).p w11 from (hg1.block _ (blk_lt (show w10.heap[w4.heap.size]? = _ from hN.out.blk)) hN.out.apart).trans hN.out.blk); have z3 := Ctx.blk hgb 2 rfl; have f3 := Ctx.frz hgb 2; have HNS := Sdq.mk (hN.out.app hK.out hg1 hat1 hown1); clear hgb hown1 hg1 hnil1 hat1)))
    clear z3 f3
    go_roundg j
    case measure => go_light; omega
    case rel => go_light; exact ⟨i + 1, .slice (some ⟨g1, 0, none⟩) (os.length + 1) c1, os ++ [e'], by have := HP.out; omega, by go_num, ⟨by rw [hst.out]; exact HNS.out⟩⟩
end Go.Proofs.YthpgjgmaamcaoaaDoor.P.R
end
