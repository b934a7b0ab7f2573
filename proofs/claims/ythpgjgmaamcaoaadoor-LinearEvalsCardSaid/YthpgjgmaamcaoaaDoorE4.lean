/- Walks and words of this session, put together by a program of this session (pack.py). Conditions: as each text says. -/
import Derived.StillTailTactics
import Derived.Lib.SliceRun
import Derived.Test.YthpgjgmaamcaoaaDoorE2
import Derived.Test.YthpgjgmaamcaoaaDoorE3
set_option linter.unusedVariables false
set_option linter.unusedSimpArgs false
section
namespace Go.Proofs.YthpgjgmaamcaoaaDoor.P
open Go.RowKit Go.Shelf Go.Proofs.YthpgjgmaamcaoaaDoorW.PrintWords Go.Proofs.YthpgjgmaamcaoaaDoorW.PrintLast Go.Proofs.YthpgjgmaamcaoaaDoorW.PrintMore Go.Proofs.YthpgjgmaamcaoaaDoor.Nm
set_option maxRecDepth 100000
set_option linter.unusedVariables false
set_option linter.unusedSimpArgs false
theorem add_len {xs ys : List Int} (hx : Dg 10 xs) (hy : Dg 10 ys) : (dig 10 (val 10 xs + val 10 ys)).length ≤ xs.length + ys.length + 1 := by
 have h1 := Int.lt_of_lt_of_le (val_lt (B := 10) (by decide) hx) (pow_mono (B := 10) (by decide) (show xs.length ≤ xs.length + ys.length by omega));have h2 := Int.lt_of_lt_of_le (val_lt (B := 10) (by decide) hy) (pow_mono (B := 10) (by decide) (show ys.length ≤ xs.length + ys.length by omega));have h3 := val_nonneg (B := 10) (by decide) hx;refine dig_len (B := 10) (by decide) ?_;rw [Int.pow_succ]
 omega
theorem sub_len {xs ys : List Int} (hx : Dg 10 xs) (hy : Dg 10 ys) : (dig 10 (val 10 xs - val 10 ys)).length ≤ xs.length := by
 have h1 := val_lt (B := 10) (by decide) hx;have h2 := val_nonneg (B := 10) (by decide) hy;exact dig_len (B := 10) (by decide) (by omega)
theorem r2_Add.tab2 : tabOf (opsOf Tryd.f52 2) = ([some 10, some 11, some 12, some 13, some 14, some 15, some 16, some 17, some 18, none], [[], [0], [], [2], [], [4], [3, 5], [1, 6], [7, 6], [8, 8, 0, 1, 2, 3, 4, 5, 6, 7, 8]]) := by kernel_rfl
set_option maxHeartbeats 3200000 in
theorem r2_Add_same (ok : Nat → Prop) (u v : Value) (x y : S34) (w0 : World) (hok : ∀ k, w0.heap.size ≤ k → ok k) (h : Kv k34 (fun _ => True) w0 u x) (h' : Kv k34 (fun _ => True) w0 v y) (hx : Dec x) (hy : Dec y) (hs : x.f0 = y.f0) : Calls Tryd.prog 52 #[u, v] w0 (KPost k34 ok w0 (cn (nv x + nv y))) := by
 obtain ⟨xA, xc, rfl, xl, xF⟩ := h.openN;obtain ⟨yA, yc, rfl, yl, yF⟩ := h'.openN
 obtain ⟨O, hO, hO1⟩ : ∃ O : Nat → Prop, (∀ k, O k → ok k ∧ k ≠ w0.heap.size + 2) ∧ (∀ k, w0.heap.size + 2 < k → O k) := ⟨fun k => ok k ∧ k ≠ w0.heap.size + 2, fun _ h => h, fun k hk => ⟨hok k (by omega), by omega⟩⟩
 have hO2 : ∀ (w : World), Ctx [uBlk (w0.heap.size + 2) [.bool false, .slice none 0 0] 34, uBlk (w0.heap.size + 1) [.bool y.f0, .slice yA y.f1.length yc] 34, uBlk w0.heap.size [.bool x.f0, .slice xA x.f1.length xc] 34, uCv (Kd.int .i64) (fun _ => True) x.f1 (.slice xA x.f1.length xc), uCv (Kd.int .i64) (fun _ => True) y.f1 (.slice yA y.f1.length yc), uB w0] w → ∀ k, w.heap.size ≤ k → O k := fun w hC k hk => hO1 k (by have := blk_lt hC.1; omega)
 have C := Ctx.new (cs := [.bool false, .slice none 0 0]) (t := 34) (Ctx.new (cs := [.bool y.f0, .slice yA y.f1.length yc]) (t := 34) (Ctx.new (cs := [.bool x.f0, .slice xA x.f1.length xc]) (t := 34) (show Ctx [uCv (Kd.int .i64) (fun _ => True) x.f1 (.slice xA x.f1.length xc), uCv (Kd.int .i64) (fun _ => True) y.f1 (.slice yA y.f1.length yc), uB w0] w0 from ⟨⟨_, _, rfl, xl, xF⟩, ⟨_, _, rfl, yl, yF⟩, Below.refl _ _, trivial⟩)));simp only [World.size_alloc] at C;clear h h' hok xl xF yl yF;have hx0 := val_nonneg (B := 10) (by decide) hx.dg;have hy0 := val_nonneg (B := 10) (by decide) hy.dg
 have hn : ∀ (W : World) (v : Value), (∀ k, W.heap.size ≤ k → O k) → Kv k34 (fun _ => True) W v (⟨x.f0, dig 10 (val 10 x.f1 + val 10 y.f1)⟩ : S34) → Calls Tryd.prog 57 #[v] W (KPost k34 O W (cn (nv x + nv y))) := fun W v hO hv => by
  have hl : (dig 10 (val 10 x.f1 + val 10 y.f1)).length ≤ 1000000 := by have := add_len hx.dg hy.dg; have := hx.len; have := hy.len; omega
  have := r2_Norm O v _ W hO hv (dig_Dg (by decide) _) hl
  rwa [show nv (⟨x.f0, dig 10 (val 10 x.f1 + val 10 y.f1)⟩ : S34) = nv x + nv y by unfold nv; rw [val_dig (by decide) _ (by omega)]; rw [← hs]; unfold sg; cases x.f0 <;> simp; omega] at this
 have hs2 := fun (W : World) (hp : Cv (Kd.int .i64) (fun _ => True) W (.slice xA x.f1.length xc) x.f1) (hq : Cv (Kd.int .i64) (fun _ => True) W (.slice yA y.f1.length yc) y.f1) => r1_Add (fun _ => True) _ _ x.f1 y.f1 W (fun _ _ => trivial) hp hq hx.dg hy.dg (by have := hx.len; omega) (by have := hy.len; omega)
 have hsb : (x.f0 == y.f0) = true := by rw [hs]; simp
 clear hs;go_enter Tryd.func52, Tryd.ntmps52
 go_upto_region 1 with fail
 refine absW _ C ?_;clear C;intro w1 C;have x0 := Ctx.blk C.2.2.1 0 rfl;have y0 := Ctx.blk C.2.1 0 rfl;have x1 := Ctx.blk C.2.2.1 1 rfl;have y1 := Ctx.blk C.2.1 1 rfl;have C := Sdq.mk C
 go_upto_region 2 with fail
 refine absW _ C.out ?_;clear C x0 y0 x1 y1 hsb;intro w1 C;refine flowL (m := 9) r2_Add.tab2 rfl (Ctx _) (Rl [uEq (.pointer (some ⟨w0.heap.size, 0, none⟩)), uEq (.bool x.f0), uEq (.pointer (some ⟨w0.heap.size, 1, none⟩)), uEq (.slice xA x.f1.length xc), uEq (.pointer (some ⟨w0.heap.size + 1, 1, none⟩)), uEq (.slice yA y.f1.length yc), uCv (Kd.int .i64) (fun _ => True) (dig 10 (val 10 x.f1 + val 10 y.f1)), uKd k34 (fun _ => True) (⟨x.f0, dig 10 (val 10 x.f1 + val 10 y.f1)⟩ : S34), uKd k34 O (cn (nv x + nv y))]) rfl (by kernel_rfl) (fun _ _ h hb => h.below hb) (Rl.up _) C ⟨⟨⟨⟨⟨⟨⟨⟨⟨trivial, ?_⟩, ?_⟩, ?_⟩, ?_⟩, ?_⟩, ?_⟩, ?_⟩, ?_⟩, ?_⟩ _ rfl ?_
 ·refine At.of _ rfl (fun e a w hC hd hb K hK => ?_)
  have b2 : a.tmps[2]? = some (.pointer (some ⟨w0.heap.size, 0, none⟩)) := hb 2 (by decide);refine value_ (w1 := w) (v := .pointer (some ⟨w0.heap.size, 0, none⟩)) (by rfl) rfl ?_ (hK.out _ _ (Below.refl _ _) rfl);clear hC hd hb hK
  first | (go_simp; done) | (go_simp; rfl)
 ·refine At.of _ rfl (fun e a w hC hd hb K hK => ?_)
  have q0 := (hd 0 (by decide)).2 10 rfl;rw [show e 0 = _ from (hd 0 (by decide)).1] at q0;have cc0 : w.cell? ⟨w0.heap.size, 0, none⟩ = some (.bool x.f0) := Ctx.blk hC.2.2.1 0 rfl;refine value_ (w1 := w) (v := .bool x.f0) (by rfl) rfl ?_ (hK.out _ _ (Below.refl _ _) rfl);clear hC hd hb hK
  first | (go_simp; done) | (go_simp; rfl)
 ·refine At.of _ rfl (fun e a w hC hd hb K hK => ?_)
  have b2 : a.tmps[2]? = some (.pointer (some ⟨w0.heap.size, 0, none⟩)) := hb 2 (by decide);refine value_ (w1 := w) (v := .pointer (some ⟨w0.heap.size, 1, none⟩)) (by rfl) rfl ?_ (hK.out _ _ (Below.refl _ _) rfl);clear hC hd hb hK
  first | (go_simp; done) | (go_simp; rfl)
 ·refine At.of _ rfl (fun e a w hC hd hb K hK => ?_)
  have q2 := (hd 2 (by decide)).2 12 rfl;rw [show e 2 = _ from (hd 2 (by decide)).1] at q2;have cc1 : w.cell? ⟨w0.heap.size, 1, none⟩ = some (.slice xA x.f1.length xc) := Ctx.blk hC.2.2.1 1 rfl;refine value_ (w1 := w) (v := .slice xA x.f1.length xc) (by rfl) rfl ?_ (hK.out _ _ (Below.refl _ _) rfl);clear hC hd hb hK
  first | (go_simp; done) | (go_simp; rfl)
 ·refine At.of _ rfl (fun e a w hC hd hb K hK => ?_)
  have b3 : a.tmps[3]? = some (.pointer (some ⟨w0.heap.size + 1, 0, none⟩)) := hb 3 (by decide);refine value_ (w1 := w) (v := .pointer (some ⟨w0.heap.size + 1, 1, none⟩)) (by rfl) rfl ?_ (hK.out _ _ (Below.refl _ _) rfl);clear hC hd hb hK
  first | (go_simp; done) | (go_simp; rfl)
 ·refine At.of _ rfl (fun e a w hC hd hb K hK => ?_)
  have q4 := (hd 4 (by decide)).2 14 rfl;rw [show e 4 = _ from (hd 4 (by decide)).1] at q4;have cc1 : w.cell? ⟨w0.heap.size + 1, 1, none⟩ = some (.slice yA y.f1.length yc) := Ctx.blk hC.2.1 1 rfl;refine value_ (w1 := w) (v := .slice yA y.f1.length yc) (by rfl) rfl ?_ (hK.out _ _ (Below.refl _ _) rfl);clear hC hd hb hK
  first | (go_simp; done) | (go_simp; rfl)
 ·refine At.of _ rfl (fun e a w hC hd hb K hK => ?_)
  have q3 := (hd 3 (by decide)).2 13 rfl;rw [show e 3 = _ from (hd 3 (by decide)).1] at q3;have q5 := (hd 5 (by decide)).2 15 rfl;rw [show e 5 = _ from (hd 5 (by decide)).1] at q5;refine goes_ Tryd.func81 (by kernel_rfl) rfl #[.slice xA x.f1.length xc, .slice yA y.f1.length yc] (by rfl) rfl rfl (by first | (simp [Act.eval, q3, q5]; done) | (simp [Act.eval, q3, q5]; rfl)) ?_;refine (hs2 w hC.2.2.2.1 hC.2.2.2.2.1).mono ?_;rintro en w' ⟨v, rfl, hv, hb'⟩;exact ⟨v, rfl, hK.out v w' hb' hv⟩
 ·refine At.of _ rfl (fun e a w hC hd hb K hK => ?_)
  have q1 := (hd 1 (by decide)).2 11 rfl;rw [show e 1 = _ from (hd 1 (by decide)).1] at q1;have q6 := (hd 6 (by decide)).2 16 rfl
  obtain ⟨A9, c9, e9, hc9, hF9⟩ := (show Cv (Kd.int .i64) (fun _ => True) w (e 6) (dig 10 (val 10 x.f1 + val 10 y.f1)) from (hd 6 (by decide)).1)
  have hkv : Kv k34 (fun _ => True) w (.agg #[.bool x.f0, e 6]) (⟨x.f0, dig 10 (val 10 x.f1 + val 10 y.f1)⟩ : S34) := by rw [e9]; exact Kv.mkN (x := (⟨x.f0, dig 10 (val 10 x.f1 + val 10 y.f1)⟩ : S34)) hc9 hF9
  clear hc9 hF9;refine value_ (w1 := w) (v := .agg #[.bool x.f0, e 6]) (by rfl) rfl ?_ (hK.out _ _ (Below.refl _ _) hkv);clear hC hd hb hK
  first | (go_simp; done) | (go_simp; rfl)
 ·refine At.of _ rfl (fun e a w hC hd hb K hK => ?_)
  have q7 := (hd 7 (by decide)).2 17 rfl;refine goes_ Tryd.func57 (by kernel_rfl) rfl #[e 7] (by rfl) rfl rfl (by first | (simp [Act.eval, q7]; done) | (simp [Act.eval, q7]; rfl)) ?_;refine (hn w (e 7) (hO2 w hC) (hd 7 (by decide)).1).mono ?_;rintro en w' ⟨v, rfl, hv, hb'⟩;exact ⟨v, rfl, hK.out v w' hb' hv⟩
 ·intro e w hC hr a ha K hK
  have hv : Kv k34 O w (e 8) (cn (nv x + nv y)) := hr.2;obtain ⟨zA, zc, ze, -⟩ := hv.openN;rw [ze] at hv;simp only [fill, Act.put, ze, Nat.reduceAdd, Nat.reduceLT, decide_true, decide_false, if_true, Bool.false_eq_true, if_false, List.setIfInBounds_toArray, List.set_cons_zero, List.set_cons_succ] at ha;subst ha;have E := end2 hC.1 hC.2.2.2.2.2.1 (by omega) hO hv _ rfl;have z0_ := Ctx.blk hC.1 0 rfl;have z1_ := Ctx.blk hC.1 1 rfl;have f0_ := Ctx.frz hC.1 0;have f1_ := Ctx.frz hC.1 1;refine skip_ (w1 := ?_) (by rfl) rfl ?_ ?_
  rotate_left
  ·go_simp
   rfl
  refine hK.out _ _ ?_;go_wp2;clear hC hK hr z0_ f0_ z1_ f1_;generalize World.setCell _ _ _ = wf at E ⊢;obtain ⟨EP, c0, c1⟩ := E;exact bodyPost_ret (by first | (simp [results, Tryd.results52, go_sem, c0, c1]; done) | (simp [results, Tryd.results52, go_sem, c0, c1]; rfl)) rfl EP
theorem r2_Add.tab4 : tabOf (opsOf Tryd.f52 4) = ([some 25, some 26, some 27, some 28, some 29, some 30, some 31, some 32, some 33, none], [[], [0], [], [2], [], [4], [3, 5], [1, 6], [7, 6], [8, 8, 0, 1, 2, 3, 4, 5, 6, 7, 8]]) := by kernel_rfl
set_option maxHeartbeats 3200000 in
theorem r2_Add_ge (ok : Nat → Prop) (u v : Value) (x y : S34) (w0 : World) (hok : ∀ k, w0.heap.size ≤ k → ok k) (h : Kv k34 (fun _ => True) w0 u x) (h' : Kv k34 (fun _ => True) w0 v y) (hx : Dec x) (hy : Dec y) (hs : (x.f0 == y.f0) = false) (hle : val 10 y.f1 ≤ val 10 x.f1) : Calls Tryd.prog 52 #[u, v] w0 (KPost k34 ok w0 (cn (nv x + nv y))) := by
 obtain ⟨xA, xc, rfl, xl, xF⟩ := h.openN;obtain ⟨yA, yc, rfl, yl, yF⟩ := h'.openN
 obtain ⟨O, hO, hO1⟩ : ∃ O : Nat → Prop, (∀ k, O k → ok k ∧ k ≠ w0.heap.size + 2) ∧ (∀ k, w0.heap.size + 2 < k → O k) := ⟨fun k => ok k ∧ k ≠ w0.heap.size + 2, fun _ h => h, fun k hk => ⟨hok k (by omega), by omega⟩⟩
 have hO2 : ∀ (w : World), Ctx [uBlk (w0.heap.size + 2) [.bool false, .slice none 0 0] 34, uBlk (w0.heap.size + 1) [.bool y.f0, .slice yA y.f1.length yc] 34, uBlk w0.heap.size [.bool x.f0, .slice xA x.f1.length xc] 34, uCv (Kd.int .i64) (fun _ => True) x.f1 (.slice xA x.f1.length xc), uCv (Kd.int .i64) (fun _ => True) y.f1 (.slice yA y.f1.length yc), uB w0] w → ∀ k, w.heap.size ≤ k → O k := fun w hC k hk => hO1 k (by have := blk_lt hC.1; omega)
 have C := Ctx.new (cs := [.bool false, .slice none 0 0]) (t := 34) (Ctx.new (cs := [.bool y.f0, .slice yA y.f1.length yc]) (t := 34) (Ctx.new (cs := [.bool x.f0, .slice xA x.f1.length xc]) (t := 34) (show Ctx [uCv (Kd.int .i64) (fun _ => True) x.f1 (.slice xA x.f1.length xc), uCv (Kd.int .i64) (fun _ => True) y.f1 (.slice yA y.f1.length yc), uB w0] w0 from ⟨⟨_, _, rfl, xl, xF⟩, ⟨_, _, rfl, yl, yF⟩, Below.refl _ _, trivial⟩)));simp only [World.size_alloc] at C;clear h h' hok xl xF yl yF;have hx0 := val_nonneg (B := 10) (by decide) hx.dg;have hy0 := val_nonneg (B := 10) (by decide) hy.dg
 have hn : ∀ (W : World) (v : Value), (∀ k, W.heap.size ≤ k → O k) → Kv k34 (fun _ => True) W v (⟨x.f0, dig 10 (val 10 x.f1 - val 10 y.f1)⟩ : S34) → Calls Tryd.prog 57 #[v] W (KPost k34 O W (cn (nv x + nv y))) := fun W v hO hv => by
  have hl : (dig 10 (val 10 x.f1 - val 10 y.f1)).length ≤ 1000000 := by have := sub_len hx.dg hy.dg; have := hx.len; have := hy.len; omega
  have := r2_Norm O v _ W hO hv (dig_Dg (by decide) _) hl
  rwa [show nv (⟨x.f0, dig 10 (val 10 x.f1 - val 10 y.f1)⟩ : S34) = nv x + nv y by unfold nv; rw [val_dig (by decide) _ (by omega)]; unfold sg; revert hs; cases x.f0 <;> cases y.f0 <;> simp <;> omega] at this
 have hs2 := fun (W : World) (hp : Cv (Kd.int .i64) (fun _ => True) W (.slice xA x.f1.length xc) x.f1) (hq : Cv (Kd.int .i64) (fun _ => True) W (.slice yA y.f1.length yc) y.f1) => r1_Sub (fun _ => True) _ _ x.f1 y.f1 W (fun _ _ => trivial) hp hq hx.dg hy.dg (by have := hx.len; omega) (by have := hy.len; omega) hle
 have hsb := hs
 have hcm := fun (W : World) (hp : Cv (Kd.int .i64) (fun _ => True) W (.slice xA x.f1.length xc) x.f1) (hq : Cv (Kd.int .i64) (fun _ => True) W (.slice yA y.f1.length yc) y.f1) => r1_Cmp _ _ x.f1 y.f1 W hp hq hx.dg hy.dg (by have := hx.len; omega) (by have := hy.len; omega)
 obtain ⟨sv, hsv⟩ : ∃ s, s = sgn (val 10 x.f1 - val 10 y.f1) := ⟨_, rfl⟩
 rw [← hsv] at hcm
 have hsv0 : 0 ≤ sv := by rw [hsv]; unfold sgn; split <;> (try split) <;> omega
 clear hs hsv;go_enter Tryd.func52, Tryd.ntmps52
 go_upto_region 1 with fail
 refine absW _ C ?_;clear C;intro w1 C;have x0 := Ctx.blk C.2.2.1 0 rfl;have y0 := Ctx.blk C.2.1 0 rfl;have x1 := Ctx.blk C.2.2.1 1 rfl;have y1 := Ctx.blk C.2.1 1 rfl;have hcm := Sdq.mk (hcm w1 C.2.2.2.1 C.2.2.2.2.1);have C := Sdq.mk C
 go_upto_region 4 with (go_at_call 82; refine hcm.out.mono ?_; rintro e w2 ⟨rfl, hb2⟩; have C := Sdq.mk (C.out.below hb2); clear hb2)
 refine absW _ C.out ?_;clear C x0 y0 x1 y1 hcm hsb;intro w1 C;refine flowL (m := 9) r2_Add.tab4 rfl (Ctx _) (Rl [uEq (.pointer (some ⟨w0.heap.size, 0, none⟩)), uEq (.bool x.f0), uEq (.pointer (some ⟨w0.heap.size, 1, none⟩)), uEq (.slice xA x.f1.length xc), uEq (.pointer (some ⟨w0.heap.size + 1, 1, none⟩)), uEq (.slice yA y.f1.length yc), uCv (Kd.int .i64) (fun _ => True) (dig 10 (val 10 x.f1 - val 10 y.f1)), uKd k34 (fun _ => True) (⟨x.f0, dig 10 (val 10 x.f1 - val 10 y.f1)⟩ : S34), uKd k34 O (cn (nv x + nv y))]) rfl (by kernel_rfl) (fun _ _ h hb => h.below hb) (Rl.up _) C ⟨⟨⟨⟨⟨⟨⟨⟨⟨trivial, ?_⟩, ?_⟩, ?_⟩, ?_⟩, ?_⟩, ?_⟩, ?_⟩, ?_⟩, ?_⟩ _ rfl ?_
 ·refine At.of _ rfl (fun e a w hC hd hb K hK => ?_)
  have b2 : a.tmps[2]? = some (.pointer (some ⟨w0.heap.size, 0, none⟩)) := hb 2 (by decide);refine value_ (w1 := w) (v := .pointer (some ⟨w0.heap.size, 0, none⟩)) (by rfl) rfl ?_ (hK.out _ _ (Below.refl _ _) rfl);clear hC hd hb hK
  first | (go_simp; done) | (go_simp; rfl)
 ·refine At.of _ rfl (fun e a w hC hd hb K hK => ?_)
  have q0 := (hd 0 (by decide)).2 25 rfl;rw [show e 0 = _ from (hd 0 (by decide)).1] at q0;have cc0 : w.cell? ⟨w0.heap.size, 0, none⟩ = some (.bool x.f0) := Ctx.blk hC.2.2.1 0 rfl;refine value_ (w1 := w) (v := .bool x.f0) (by rfl) rfl ?_ (hK.out _ _ (Below.refl _ _) rfl);clear hC hd hb hK
  first | (go_simp; done) | (go_simp; rfl)
 ·refine At.of _ rfl (fun e a w hC hd hb K hK => ?_)
  have b2 : a.tmps[2]? = some (.pointer (some ⟨w0.heap.size, 0, none⟩)) := hb 2 (by decide);refine value_ (w1 := w) (v := .pointer (some ⟨w0.heap.size, 1, none⟩)) (by rfl) rfl ?_ (hK.out _ _ (Below.refl _ _) rfl);clear hC hd hb hK
  first | (go_simp; done) | (go_simp; rfl)
 ·refine At.of _ rfl (fun e a w hC hd hb K hK => ?_)
  have q2 := (hd 2 (by decide)).2 27 rfl;rw [show e 2 = _ from (hd 2 (by decide)).1] at q2;have cc1 : w.cell? ⟨w0.heap.size, 1, none⟩ = some (.slice xA x.f1.length xc) := Ctx.blk hC.2.2.1 1 rfl;refine value_ (w1 := w) (v := .slice xA x.f1.length xc) (by rfl) rfl ?_ (hK.out _ _ (Below.refl _ _) rfl);clear hC hd hb hK
  first | (go_simp; done) | (go_simp; rfl)
 ·refine At.of _ rfl (fun e a w hC hd hb K hK => ?_)
  have b3 : a.tmps[3]? = some (.pointer (some ⟨w0.heap.size + 1, 0, none⟩)) := hb 3 (by decide);refine value_ (w1 := w) (v := .pointer (some ⟨w0.heap.size + 1, 1, none⟩)) (by rfl) rfl ?_ (hK.out _ _ (Below.refl _ _) rfl);clear hC hd hb hK
  first | (go_simp; done) | (go_simp; rfl)
 ·refine At.of _ rfl (fun e a w hC hd hb K hK => ?_)
  have q4 := (hd 4 (by decide)).2 29 rfl;rw [show e 4 = _ from (hd 4 (by decide)).1] at q4;have cc1 : w.cell? ⟨w0.heap.size + 1, 1, none⟩ = some (.slice yA y.f1.length yc) := Ctx.blk hC.2.1 1 rfl;refine value_ (w1 := w) (v := .slice yA y.f1.length yc) (by rfl) rfl ?_ (hK.out _ _ (Below.refl _ _) rfl);clear hC hd hb hK
  first | (go_simp; done) | (go_simp; rfl)
 ·refine At.of _ rfl (fun e a w hC hd hb K hK => ?_)
  have q3 := (hd 3 (by decide)).2 28 rfl;rw [show e 3 = _ from (hd 3 (by decide)).1] at q3;have q5 := (hd 5 (by decide)).2 30 rfl;rw [show e 5 = _ from (hd 5 (by decide)).1] at q5;refine goes_ Tryd.func83 (by kernel_rfl) rfl #[.slice xA x.f1.length xc, .slice yA y.f1.length yc] (by rfl) rfl rfl (by first | (simp [Act.eval, q3, q5]; done) | (simp [Act.eval, q3, q5]; rfl)) ?_;refine (hs2 w hC.2.2.2.1 hC.2.2.2.2.1).mono ?_;rintro en w' ⟨v, rfl, hv, hb'⟩;exact ⟨v, rfl, hK.out v w' hb' hv⟩
 ·refine At.of _ rfl (fun e a w hC hd hb K hK => ?_)
  have q1 := (hd 1 (by decide)).2 26 rfl;rw [show e 1 = _ from (hd 1 (by decide)).1] at q1;have q6 := (hd 6 (by decide)).2 31 rfl
  obtain ⟨A9, c9, e9, hc9, hF9⟩ := (show Cv (Kd.int .i64) (fun _ => True) w (e 6) (dig 10 (val 10 x.f1 - val 10 y.f1)) from (hd 6 (by decide)).1)
  have hkv : Kv k34 (fun _ => True) w (.agg #[.bool x.f0, e 6]) (⟨x.f0, dig 10 (val 10 x.f1 - val 10 y.f1)⟩ : S34) := by rw [e9]; exact Kv.mkN (x := (⟨x.f0, dig 10 (val 10 x.f1 - val 10 y.f1)⟩ : S34)) hc9 hF9
  clear hc9 hF9;refine value_ (w1 := w) (v := .agg #[.bool x.f0, e 6]) (by rfl) rfl ?_ (hK.out _ _ (Below.refl _ _) hkv);clear hC hd hb hK
  first | (go_simp; done) | (go_simp; rfl)
 ·refine At.of _ rfl (fun e a w hC hd hb K hK => ?_)
  have q7 := (hd 7 (by decide)).2 32 rfl;refine goes_ Tryd.func57 (by kernel_rfl) rfl #[e 7] (by rfl) rfl rfl (by first | (simp [Act.eval, q7]; done) | (simp [Act.eval, q7]; rfl)) ?_;refine (hn w (e 7) (hO2 w hC) (hd 7 (by decide)).1).mono ?_;rintro en w' ⟨v, rfl, hv, hb'⟩;exact ⟨v, rfl, hK.out v w' hb' hv⟩
 ·intro e w hC hr a ha K hK
  have hv : Kv k34 O w (e 8) (cn (nv x + nv y)) := hr.2;obtain ⟨zA, zc, ze, -⟩ := hv.openN;rw [ze] at hv;simp only [fill, Act.put, ze, Nat.reduceAdd, Nat.reduceLT, decide_true, decide_false, if_true, Bool.false_eq_true, if_false, List.setIfInBounds_toArray, List.set_cons_zero, List.set_cons_succ] at ha;subst ha;have E := end2 hC.1 hC.2.2.2.2.2.1 (by omega) hO hv _ rfl;have z0_ := Ctx.blk hC.1 0 rfl;have z1_ := Ctx.blk hC.1 1 rfl;have f0_ := Ctx.frz hC.1 0;have f1_ := Ctx.frz hC.1 1;refine skip_ (w1 := ?_) (by rfl) rfl ?_ ?_
  rotate_left
  ·go_simp
   rfl
  refine hK.out _ _ ?_;go_wp2;clear hC hK hr z0_ f0_ z1_ f1_;generalize World.setCell _ _ _ = wf at E ⊢;obtain ⟨EP, c0, c1⟩ := E;exact bodyPost_ret (by first | (simp [results, Tryd.results52, go_sem, c0, c1]; done) | (simp [results, Tryd.results52, go_sem, c0, c1]; rfl)) rfl EP
theorem r2_Add.tab5 : tabOf (opsOf Tryd.f52 5) = ([some 34, some 35, some 36, some 37, some 38, some 39, some 40, some 41, some 42, none], [[], [0], [], [2], [], [4], [3, 5], [1, 6], [7, 6], [8, 8, 0, 1, 2, 3, 4, 5, 6, 7, 8]]) := by kernel_rfl
set_option maxHeartbeats 3200000 in
theorem r2_Add_lt (ok : Nat → Prop) (u v : Value) (x y : S34) (w0 : World) (hok : ∀ k, w0.heap.size ≤ k → ok k) (h : Kv k34 (fun _ => True) w0 u x) (h' : Kv k34 (fun _ => True) w0 v y) (hx : Dec x) (hy : Dec y) (hs : (x.f0 == y.f0) = false) (hle : val 10 x.f1 < val 10 y.f1) : Calls Tryd.prog 52 #[u, v] w0 (KPost k34 ok w0 (cn (nv x + nv y))) := by
 obtain ⟨xA, xc, rfl, xl, xF⟩ := h.openN;obtain ⟨yA, yc, rfl, yl, yF⟩ := h'.openN
 obtain ⟨O, hO, hO1⟩ : ∃ O : Nat → Prop, (∀ k, O k → ok k ∧ k ≠ w0.heap.size + 2) ∧ (∀ k, w0.heap.size + 2 < k → O k) := ⟨fun k => ok k ∧ k ≠ w0.heap.size + 2, fun _ h => h, fun k hk => ⟨hok k (by omega), by omega⟩⟩
 have hO2 : ∀ (w : World), Ctx [uBlk (w0.heap.size + 2) [.bool false, .slice none 0 0] 34, uBlk (w0.heap.size + 1) [.bool y.f0, .slice yA y.f1.length yc] 34, uBlk w0.heap.size [.bool x.f0, .slice xA x.f1.length xc] 34, uCv (Kd.int .i64) (fun _ => True) x.f1 (.slice xA x.f1.length xc), uCv (Kd.int .i64) (fun _ => True) y.f1 (.slice yA y.f1.length yc), uB w0] w → ∀ k, w.heap.size ≤ k → O k := fun w hC k hk => hO1 k (by have := blk_lt hC.1; omega)
 have C := Ctx.new (cs := [.bool false, .slice none 0 0]) (t := 34) (Ctx.new (cs := [.bool y.f0, .slice yA y.f1.length yc]) (t := 34) (Ctx.new (cs := [.bool x.f0, .slice xA x.f1.length xc]) (t := 34) (show Ctx [uCv (Kd.int .i64) (fun _ => True) x.f1 (.slice xA x.f1.length xc), uCv (Kd.int .i64) (fun _ => True) y.f1 (.slice yA y.f1.length yc), uB w0] w0 from ⟨⟨_, _, rfl, xl, xF⟩, ⟨_, _, rfl, yl, yF⟩, Below.refl _ _, trivial⟩)));simp only [World.size_alloc] at C;clear h h' hok xl xF yl yF;have hx0 := val_nonneg (B := 10) (by decide) hx.dg;have hy0 := val_nonneg (B := 10) (by decide) hy.dg
 have hn : ∀ (W : World) (v : Value), (∀ k, W.heap.size ≤ k → O k) → Kv k34 (fun _ => True) W v (⟨y.f0, dig 10 (val 10 y.f1 - val 10 x.f1)⟩ : S34) → Calls Tryd.prog 57 #[v] W (KPost k34 O W (cn (nv x + nv y))) := fun W v hO hv => by
  have hl : (dig 10 (val 10 y.f1 - val 10 x.f1)).length ≤ 1000000 := by have := sub_len hy.dg hx.dg; have := hx.len; have := hy.len; omega
  have := r2_Norm O v _ W hO hv (dig_Dg (by decide) _) hl
  rwa [show nv (⟨y.f0, dig 10 (val 10 y.f1 - val 10 x.f1)⟩ : S34) = nv x + nv y by unfold nv; rw [val_dig (by decide) _ (by omega)]; unfold sg; revert hs; cases x.f0 <;> cases y.f0 <;> simp <;> omega] at this
 have hs2 := fun (W : World) (hp : Cv (Kd.int .i64) (fun _ => True) W (.slice yA y.f1.length yc) y.f1) (hq : Cv (Kd.int .i64) (fun _ => True) W (.slice xA x.f1.length xc) x.f1) => r1_Sub (fun _ => True) _ _ y.f1 x.f1 W (fun _ _ => trivial) hp hq hy.dg hx.dg (by have := hy.len; omega) (by have := hx.len; omega) (by omega)
 have hsb := hs
 have hcm := fun (W : World) (hp : Cv (Kd.int .i64) (fun _ => True) W (.slice xA x.f1.length xc) x.f1) (hq : Cv (Kd.int .i64) (fun _ => True) W (.slice yA y.f1.length yc) y.f1) => r1_Cmp _ _ x.f1 y.f1 W hp hq hx.dg hy.dg (by have := hx.len; omega) (by have := hy.len; omega)
 obtain ⟨sv, hsv⟩ : ∃ s, s = sgn (val 10 x.f1 - val 10 y.f1) := ⟨_, rfl⟩
 rw [← hsv] at hcm
 have hsv0 : sv < 0 := by rw [hsv]; unfold sgn; split <;> (try split) <;> omega
 clear hs hsv;go_enter Tryd.func52, Tryd.ntmps52
 go_upto_region 1 with fail
 refine absW _ C ?_;clear C;intro w1 C;have x0 := Ctx.blk C.2.2.1 0 rfl;have y0 := Ctx.blk C.2.1 0 rfl;have x1 := Ctx.blk C.2.2.1 1 rfl;have y1 := Ctx.blk C.2.1 1 rfl;have hcm := Sdq.mk (hcm w1 C.2.2.2.1 C.2.2.2.2.1);have C := Sdq.mk C
 go_upto_region 5 with (go_at_call 82; refine hcm.out.mono ?_; rintro e w2 ⟨rfl, hb2⟩; have C := Sdq.mk (C.out.below hb2); clear hb2)
 refine absW _ C.out ?_;clear C x0 y0 x1 y1 hcm hsb;intro w1 C;refine flowL (m := 9) r2_Add.tab5 rfl (Ctx _) (Rl [uEq (.pointer (some ⟨w0.heap.size + 1, 0, none⟩)), uEq (.bool y.f0), uEq (.pointer (some ⟨w0.heap.size + 1, 1, none⟩)), uEq (.slice yA y.f1.length yc), uEq (.pointer (some ⟨w0.heap.size, 1, none⟩)), uEq (.slice xA x.f1.length xc), uCv (Kd.int .i64) (fun _ => True) (dig 10 (val 10 y.f1 - val 10 x.f1)), uKd k34 (fun _ => True) (⟨y.f0, dig 10 (val 10 y.f1 - val 10 x.f1)⟩ : S34), uKd k34 O (cn (nv x + nv y))]) rfl (by kernel_rfl) (fun _ _ h hb => h.below hb) (Rl.up _) C ⟨⟨⟨⟨⟨⟨⟨⟨⟨trivial, ?_⟩, ?_⟩, ?_⟩, ?_⟩, ?_⟩, ?_⟩, ?_⟩, ?_⟩, ?_⟩ _ rfl ?_
 ·refine At.of _ rfl (fun e a w hC hd hb K hK => ?_)
  have b3 : a.tmps[3]? = some (.pointer (some ⟨w0.heap.size + 1, 0, none⟩)) := hb 3 (by decide);refine value_ (w1 := w) (v := .pointer (some ⟨w0.heap.size + 1, 0, none⟩)) (by rfl) rfl ?_ (hK.out _ _ (Below.refl _ _) rfl);clear hC hd hb hK
  first | (go_simp; done) | (go_simp; rfl)
 ·refine At.of _ rfl (fun e a w hC hd hb K hK => ?_)
  have q0 := (hd 0 (by decide)).2 34 rfl;rw [show e 0 = _ from (hd 0 (by decide)).1] at q0;have cc0 : w.cell? ⟨w0.heap.size + 1, 0, none⟩ = some (.bool y.f0) := Ctx.blk hC.2.1 0 rfl;refine value_ (w1 := w) (v := .bool y.f0) (by rfl) rfl ?_ (hK.out _ _ (Below.refl _ _) rfl);clear hC hd hb hK
  first | (go_simp; done) | (go_simp; rfl)
 ·refine At.of _ rfl (fun e a w hC hd hb K hK => ?_)
  have b3 : a.tmps[3]? = some (.pointer (some ⟨w0.heap.size + 1, 0, none⟩)) := hb 3 (by decide);refine value_ (w1 := w) (v := .pointer (some ⟨w0.heap.size + 1, 1, none⟩)) (by rfl) rfl ?_ (hK.out _ _ (Below.refl _ _) rfl);clear hC hd hb hK
  first | (go_simp; done) | (go_simp; rfl)
 ·refine At.of _ rfl (fun e a w hC hd hb K hK => ?_)
  have q2 := (hd 2 (by decide)).2 36 rfl;rw [show e 2 = _ from (hd 2 (by decide)).1] at q2;have cc1 : w.cell? ⟨w0.heap.size + 1, 1, none⟩ = some (.slice yA y.f1.length yc) := Ctx.blk hC.2.1 1 rfl;refine value_ (w1 := w) (v := .slice yA y.f1.length yc) (by rfl) rfl ?_ (hK.out _ _ (Below.refl _ _) rfl);clear hC hd hb hK
  first | (go_simp; done) | (go_simp; rfl)
 ·refine At.of _ rfl (fun e a w hC hd hb K hK => ?_)
  have b2 : a.tmps[2]? = some (.pointer (some ⟨w0.heap.size, 0, none⟩)) := hb 2 (by decide);refine value_ (w1 := w) (v := .pointer (some ⟨w0.heap.size, 1, none⟩)) (by rfl) rfl ?_ (hK.out _ _ (Below.refl _ _) rfl);clear hC hd hb hK
  first | (go_simp; done) | (go_simp; rfl)
 ·refine At.of _ rfl (fun e a w hC hd hb K hK => ?_)
  have q4 := (hd 4 (by decide)).2 38 rfl;rw [show e 4 = _ from (hd 4 (by decide)).1] at q4;have cc1 : w.cell? ⟨w0.heap.size, 1, none⟩ = some (.slice xA x.f1.length xc) := Ctx.blk hC.2.2.1 1 rfl;refine value_ (w1 := w) (v := .slice xA x.f1.length xc) (by rfl) rfl ?_ (hK.out _ _ (Below.refl _ _) rfl);clear hC hd hb hK
  first | (go_simp; done) | (go_simp; rfl)
 ·refine At.of _ rfl (fun e a w hC hd hb K hK => ?_)
  have q3 := (hd 3 (by decide)).2 37 rfl;rw [show e 3 = _ from (hd 3 (by decide)).1] at q3;have q5 := (hd 5 (by decide)).2 39 rfl;rw [show e 5 = _ from (hd 5 (by decide)).1] at q5;refine goes_ Tryd.func83 (by kernel_rfl) rfl #[.slice yA y.f1.length yc, .slice xA x.f1.length xc] (by rfl) rfl rfl (by first | (simp [Act.eval, q3, q5]; done) | (simp [Act.eval, q3, q5]; rfl)) ?_;refine (hs2 w hC.2.2.2.2.1 hC.2.2.2.1).mono ?_;rintro en w' ⟨v, rfl, hv, hb'⟩;exact ⟨v, rfl, hK.out v w' hb' hv⟩
 ·refine At.of _ rfl (fun e a w hC hd hb K hK => ?_)
  have q1 := (hd 1 (by decide)).2 35 rfl;rw [show e 1 = _ from (hd 1 (by decide)).1] at q1;have q6 := (hd 6 (by decide)).2 40 rfl
  obtain ⟨A9, c9, e9, hc9, hF9⟩ := (show Cv (Kd.int .i64) (fun _ => True) w (e 6) (dig 10 (val 10 y.f1 - val 10 x.f1)) from (hd 6 (by decide)).1)
  have hkv : Kv k34 (fun _ => True) w (.agg #[.bool y.f0, e 6]) (⟨y.f0, dig 10 (val 10 y.f1 - val 10 x.f1)⟩ : S34) := by rw [e9]; exact Kv.mkN (x := (⟨y.f0, dig 10 (val 10 y.f1 - val 10 x.f1)⟩ : S34)) hc9 hF9
  clear hc9 hF9;refine value_ (w1 := w) (v := .agg #[.bool y.f0, e 6]) (by rfl) rfl ?_ (hK.out _ _ (Below.refl _ _) hkv);clear hC hd hb hK
  first | (go_simp; done) | (go_simp; rfl)
 ·refine At.of _ rfl (fun e a w hC hd hb K hK => ?_)
  have q7 := (hd 7 (by decide)).2 41 rfl;refine goes_ Tryd.func57 (by kernel_rfl) rfl #[e 7] (by rfl) rfl rfl (by first | (simp [Act.eval, q7]; done) | (simp [Act.eval, q7]; rfl)) ?_;refine (hn w (e 7) (hO2 w hC) (hd 7 (by decide)).1).mono ?_;rintro en w' ⟨v, rfl, hv, hb'⟩;exact ⟨v, rfl, hK.out v w' hb' hv⟩
 ·intro e w hC hr a ha K hK
  have hv : Kv k34 O w (e 8) (cn (nv x + nv y)) := hr.2;obtain ⟨zA, zc, ze, -⟩ := hv.openN;rw [ze] at hv;simp only [fill, Act.put, ze, Nat.reduceAdd, Nat.reduceLT, decide_true, decide_false, if_true, Bool.false_eq_true, if_false, List.setIfInBounds_toArray, List.set_cons_zero, List.set_cons_succ] at ha;subst ha;have E := end2 hC.1 hC.2.2.2.2.2.1 (by omega) hO hv _ rfl;have z0_ := Ctx.blk hC.1 0 rfl;have z1_ := Ctx.blk hC.1 1 rfl;have f0_ := Ctx.frz hC.1 0;have f1_ := Ctx.frz hC.1 1;refine skip_ (w1 := ?_) (by rfl) rfl ?_ ?_
  rotate_left
  ·go_simp
   rfl
  refine hK.out _ _ ?_;go_wp2;clear hC hK hr z0_ f0_ z1_ f1_;generalize World.setCell _ _ _ = wf at E ⊢;obtain ⟨EP, c0, c1⟩ := E;exact bodyPost_ret (by first | (simp [results, Tryd.results52, go_sem, c0, c1]; done) | (simp [results, Tryd.results52, go_sem, c0, c1]; rfl)) rfl EP
theorem r2_Add (ok : Nat → Prop) (u v : Value) (x y : S34) (w0 : World) (hok : ∀ k, w0.heap.size ≤ k → ok k) (h : Kv k34 (fun _ => True) w0 u x) (h' : Kv k34 (fun _ => True) w0 v y) (hx : Dec x) (hy : Dec y) : Calls Tryd.prog 52 #[u, v] w0 (KPost k34 ok w0 (cn (nv x + nv y))) := by
 rcases hs : (x.f0 == y.f0) with _ | _
 ·by_cases hlt : val 10 x.f1 < val 10 y.f1
  ·exact r2_Add_lt ok u v x y w0 hok h h' hx hy hs hlt
  ·exact r2_Add_ge ok u v x y w0 hok h h' hx hy hs (by omega)
 ·exact r2_Add_same ok u v x y w0 hok h h' hx hy (by simpa using hs)
end Go.Proofs.YthpgjgmaamcaoaaDoor.P
end
section
namespace Go.Proofs.YthpgjgmaamcaoaaDoor.P
open Go.RowKit Go.Shelf Go.Proofs.YthpgjgmaamcaoaaDoorW.PrintWords Go.Proofs.YthpgjgmaamcaoaaDoorW.PrintLast Go.Proofs.YthpgjgmaamcaoaaDoorW.PrintMore Go.Proofs.YthpgjgmaamcaoaaDoor.Nm
set_option maxRecDepth 100000
set_option linter.unusedVariables false
set_option linter.unusedSimpArgs false
theorem nv_lt {x : S34} (h : Dec x) : ((nv x).natAbs : Int) < 10 ^ x.f1.length := by
 have h1 := val_lt (B := 10) (by decide) h.dg;have h0 := val_nonneg (B := 10) (by decide) h.dg
 have : ((nv x).natAbs : Int) = val 10 x.f1 := by unfold nv sg; split <;> omega
 omega
end Go.Proofs.YthpgjgmaamcaoaaDoor.P
end
section
namespace Go.Proofs.YthpgjgmaamcaoaaDoor.P
open Go.RowKit Go.Shelf Go.Proofs.YthpgjgmaamcaoaaDoorW.PrintWords Go.Proofs.YthpgjgmaamcaoaaDoorW.PrintLast Go.Proofs.YthpgjgmaamcaoaaDoorW.PrintMore Go.Proofs.YthpgjgmaamcaoaaDoor.Nm
set_option maxRecDepth 100000
set_option linter.unusedVariables false
set_option linter.unusedSimpArgs false
set_option maxHeartbeats 1600000 in
theorem law_num (ok : Nat → Prop) (v : Value) (x : S24) (w0 : World) (hok : ∀ k, w0.heap.size ≤ k → ok k) (h : Kv k24 (fun _ => True) w0 v x) (hx : Big x) :
  Calls Tryd.prog 26 #[v] w0 (KPost k34 ok w0 (cn (bv x))) := by
 obtain ⟨O, hO, hO1⟩ : ∃ O : Nat → Prop, (∀ k, O k → ok k ∧ k ≠ w0.heap.size + 1) ∧ (∀ k, w0.heap.size + 1 < k → O k) := ⟨fun k => ok k ∧ k ≠ w0.heap.size + 1, fun _ h => h, fun k hk => ⟨hok k (by omega), by omega⟩⟩
 obtain ⟨xA, xc, rfl, xl, xF⟩ := h.openB;have C := Ctx.new (cs := [.bool false, .slice none 0 0]) (t := 34) (Ctx.new (cs := [.bool x.f0, .slice xA x.f1.length xc]) (t := 24) (Ctx.cons (uB w0) (Below.refl _ _) (Ctx.cons (uCv (Kd.int .u32) (fun _ => True) x.f1 (.slice xA x.f1.length xc)) ⟨_, _, rfl, xl, xF⟩ Ctx.nil)));simp only [World.size_alloc] at C
 have hF := fun (W : World) (hW : w0.heap.size + 1 < W.heap.size) (hc : Cv (Kd.int .u32) (fun _ => True) W (.slice xA x.f1.length xc) x.f1) => r2_From O x.f0 (.slice xA x.f1.length xc) x.f1 W (fun k hk => hO1 k (by omega)) hc hx.dg (by have := hx.len; omega)
 rw [show sg x.f0 (val B32 x.f1) = bv x from rfl] at hF;have hF := Sdq.mk hF;clear h hok xl xF hx;generalize cn (bv x) = r at *;go_enter Tryd.func26, Tryd.ntmps26
 go_upto_region 1 with fail
 refine absW _ C ?_;clear C;intro w1 C;have y0 := Ctx.blk C.2.1 0 rfl;have y1 := Ctx.blk C.2.1 1 rfl;have C := Sdq.mk C;go_wp2_with (go_at_call 55; refine (hF.out w1 (by have := blk_lt C.out.1; omega) C.out.2.2.2.1).mono ?_; rintro e w3 ⟨v3, rfl, hv3, hb3⟩; have C := Ctx.cons (uK k34 O v3 r) hv3 (C.out.below hb3); obtain ⟨zA, zc, rfl, zl, zF⟩ := hv3.openN; have E := Sdq.mk (end2 (ok := ok) C.2.1 C.2.2.2.1 (by omega) hO C.1 _ rfl); have z0 := Ctx.blk C.2.1 0 rfl; have z1 := Ctx.blk C.2.1 1 rfl; have f0 := Ctx.frz C.2.1 0; have f1 := Ctx.frz C.2.1 1; clear C hv3 hb3 zl zF y0 y1);have E := E.out;clear z0 z1 f0 f1;generalize World.setCell _ _ _ = wf at E ⊢;obtain ⟨EP, c0, c1⟩ := E;exact bodyPost_ret (by first | (simp [results, Tryd.results26, go_sem, c0, c1]; done) | (simp [results, Tryd.results26, go_sem, c0, c1]; rfl)) rfl EP
theorem law_small (v : Value) (x : S24) (w0 : World) (h : Kv k24 (fun _ => True) w0 v x) :
  Calls Tryd.prog 21 #[v] w0 fun e w' => e = .returned (.bool (decide (x.f1.length ≤ 4))) ∧ Below w0.heap.size w0 w' := by
 obtain ⟨xA, xc, rfl, -, -⟩ := h.openB;have C := Ctx.new (cs := [.bool x.f0, .slice xA x.f1.length xc]) (t := 24) (Ctx.cons (uB w0) (Below.refl _ _) Ctx.nil)
 obtain ⟨s, hs⟩ : ∃ s, s = decide (x.f1.length ≤ 4) := ⟨_, rfl⟩
 rw [← hs];clear h;go_enter Tryd.func21, Tryd.ntmps21
 go_upto_region 1 with fail
 refine absW _ C ?_;clear C;intro w1 C;have y1 := Ctx.blk C.1 1 rfl;have hb := Sdq.mk (show Below w0.heap.size w0 w1 from C.2.1);by_cases hl : x.f1.length ≤ 4
 ·obtain rfl : s = true := by rw [hs]; simpa using hl
  have h4 : ((x.f1.length : Int) ≤ 4) := by omega
  clear C hs hl;go_wp2;go_ret;exact ⟨rfl, hb.out⟩
 ·obtain rfl : s = false := by rw [hs]; simpa using hl
  have h4 : ¬ ((x.f1.length : Int) ≤ 4) := by omega
  clear C hs hl;go_wp2;go_ret;exact ⟨rfl, hb.out⟩
end Go.Proofs.YthpgjgmaamcaoaaDoor.P
end
section
namespace Go.Proofs.YthpgjgmaamcaoaaDoor.P
open Go.RowKit Go.Shelf Go.Proofs.YthpgjgmaamcaoaaDoorW.PrintWords Go.Proofs.YthpgjgmaamcaoaaDoorW.PrintLast Go.Proofs.YthpgjgmaamcaoaaDoorW.PrintMore Go.Proofs.YthpgjgmaamcaoaaDoor.Nm
set_option maxRecDepth 100000
set_option linter.unusedVariables false
set_option linter.unusedSimpArgs false
theorem law_sameNum.tab2 : tabOf (opsOf Tryd.f33 2) = ([some 8, some 9, some 10, some 11, some 12, some 13, some 14, some 15, some 16, some 17, some 18, some 19, some 20, some 4], [[], [0], [], [2], [1, 3], [4], [5], [6, 5], [5], [8, 5], [9, 5, 5], [7, 10, 10, 5], [5, 11], [12, 11, 0, 1, 2, 3, 4, 5, 6, 7, 8, 9, 10, 11, 12]]) := by kernel_rfl
set_option maxHeartbeats 3200000 in
theorem law_sameNum (n : Int) (u v : Value) (y : S34) (w0 : World) (h : Kv k24 (fun _ => True) w0 u (can n)) (h' : Kv k34 (fun _ => True) w0 v y) (hy : Dec y) (hn : nv y = n) (hx : Big (can n)) :
  Calls Tryd.prog 33 #[u, v] w0 fun e w' => e = .returned (.bool true) ∧ Below w0.heap.size w0 w' := by
 have hcl : (cn n).f1.length ≤ 200000 := by
  have := cn_len (nv_lt hy);rw [hn] at this;have := hy.len
  omega
 have hN := Sdq.mk (fun (W : World) (hb : Below w0.heap.size w0 W) => r2_Norm (fun _ => True) v y W (fun _ _ => trivial) (h'.below hb) hy.dg (by have := hy.len; omega));rw [hn] at hN
 have hL := fun (W : World) (A : Option Addr) (c : Nat) (hc : Cv (Kd.int .i64) (fun _ => True) W (.slice A (cn n).f1.length c) (cn n).f1) => r1_Limbs (fun _ => True) _ _ W (fun _ _ => trivial) hc (cn_dg n) (by omega)
 rw [show val 10 (cn n).f1 = (n.natAbs : Int) from val_dig (by decide) _ (by omega)] at hL
 have hW := fun (W : World) (q : Value) (A : Option Addr) (c : Nat) (ha : Cv (Kd.int .u32) (fun _ => True) W (.slice A (can n).f1.length c) (can n).f1) (hb : Cv (Kd.int .u32) (fun _ => True) W q (dig B32 n.natAbs)) => (r1_Words _ _ _ _ W ha hb (by have := hx.len; omega)).mono (R' := fun e w' => ∃ v, e = .returned v ∧ v = .bool true ∧ Below W.heap.size W w') (by rintro e w' ⟨rfl, hb⟩; exact ⟨_, rfl, by rw [show (can n).f1 = dig B32 n.natAbs from rfl]; simp, hb⟩)
 obtain ⟨xA, xc, rfl, xl, xF⟩ := h.openB;obtain ⟨yA, yc, rfl, yl, yF⟩ := h'.openN
 have hW := fun W q => hW W q xA xc
 have C := Ctx.new (cs := [.bool y.f0, .slice yA y.f1.length yc]) (t := 34) (Ctx.new (cs := [.bool (decide (n < 0)), .slice xA (can n).f1.length xc]) (t := 24) (Ctx.cons (uB w0) (Below.refl _ _) (Ctx.cons (uCv (Kd.int .u32) (fun _ => True) (can n).f1 (.slice xA (can n).f1.length xc)) ⟨_, _, rfl, xl, xF⟩ Ctx.nil)));simp only [World.size_alloc] at C;clear h h' xl xF yl yF hy hn hx hcl;go_enter Tryd.func33, Tryd.ntmps33
 go_upto_region 1 with fail
 refine absW _ C ?_;clear C;intro w1 C;have y0 := Ctx.blk C.1 0 rfl;have y1 := Ctx.blk C.1 1 rfl;have C := Sdq.mk C
 go_upto_region 2 with (go_at_call 57; refine (hN.out w1 C.out.2.2.1).mono ?_; rintro e w2 ⟨v2, rfl, hv, hb⟩; obtain ⟨zA, zc, rfl, zl, zF⟩ := hv.openN; have hb := Sdq.mk hb; have hz := Sdq.mk (show Cv (Kd.int .i64) (fun _ => True) w2 (.slice zA (cn n).f1.length zc) (cn n).f1 from ⟨_, _, rfl, zl, zF⟩); clear hv zl zF)
 have C2 := Ctx.new (cs := [.bool (decide (n < 0)), .slice zA (cn n).f1.length zc]) (t := 34) (Ctx.cons (uCv (Kd.int .i64) (fun _ => True) (cn n).f1 (.slice zA (cn n).f1.length zc)) hz.out (C.out.below hb.out));refine absW _ C2 ?_;clear C2 C y0 y1 hb hz hN
 have hL := fun W => hL W zA zc
 generalize w2.heap.size = g5;intro w3 C;refine flowT (n := 14) law_sameNum.tab2 rfl (Ctx _) (Rl [uEq (.pointer (some ⟨w0.heap.size, 0, none⟩)), uEq (.bool (decide (n < 0))), uEq (.pointer (some ⟨g5, 0, none⟩)), uEq (.bool (decide (n < 0))), uEq (.bool true), uEq (.bool true), uEq (.pointer (some ⟨w0.heap.size, 1, none⟩)), uEq (.slice xA (can n).f1.length xc), uEq (.pointer (some ⟨g5, 1, none⟩)), uEq (.slice zA (cn n).f1.length zc), uCv (Kd.int .u32) (fun _ => True) (dig B32 n.natAbs), uEq (.bool true), uEq (.bool true), uEq (.bool true)]) rfl (by kernel_rfl) (fun _ _ h hb => h.below hb) (Rl.up _) C ⟨⟨⟨⟨⟨⟨⟨⟨⟨⟨⟨⟨⟨⟨trivial, ?_⟩, ?_⟩, ?_⟩, ?_⟩, ?_⟩, ?_⟩, ?_⟩, ?_⟩, ?_⟩, ?_⟩, ?_⟩, ?_⟩, ?_⟩, ?_⟩ ?_
 ·refine At.of _ rfl (fun e a w hC hd hb K hK => ?_)
  have b2 : a.tmps[2]? = some (.pointer (some ⟨w0.heap.size, 0, none⟩)) := hb 2 (by decide);refine value_ (w1 := w) (v := .pointer (some ⟨w0.heap.size, 0, none⟩)) (by rfl) rfl ?_ (hK.out _ _ (Below.refl _ _) rfl);clear hC hd hb hK
  first | (go_simp; done) | (go_simp; rfl)
 ·refine At.of _ rfl (fun e a w hC hd hb K hK => ?_)
  have q0 := (hd 0 (by decide)).2 8 rfl;rw [show e 0 = _ from (hd 0 (by decide)).1] at q0;have cc0 : w.cell? ⟨w0.heap.size, 0, none⟩ = some (.bool (decide (n < 0))) := Ctx.blk hC.2.2.2.1 0 rfl;refine value_ (w1 := w) (v := .bool (decide (n < 0))) (by rfl) rfl ?_ (hK.out _ _ (Below.refl _ _) rfl);clear hC hd hb hK
  first | (go_simp; done) | (go_simp; rfl)
 ·refine At.of _ rfl (fun e a w hC hd hb K hK => ?_)
  have b5 : a.tmps[5]? = some (.pointer (some ⟨g5, 0, none⟩)) := hb 5 (by decide);refine value_ (w1 := w) (v := .pointer (some ⟨g5, 0, none⟩)) (by rfl) rfl ?_ (hK.out _ _ (Below.refl _ _) rfl);clear hC hd hb hK
  first | (go_simp; done) | (go_simp; rfl)
 ·refine At.of _ rfl (fun e a w hC hd hb K hK => ?_)
  have q2 := (hd 2 (by decide)).2 10 rfl;rw [show e 2 = _ from (hd 2 (by decide)).1] at q2;have cc0 : w.cell? ⟨g5, 0, none⟩ = some (.bool (decide (n < 0))) := Ctx.blk hC.1 0 rfl;refine value_ (w1 := w) (v := .bool (decide (n < 0))) (by rfl) rfl ?_ (hK.out _ _ (Below.refl _ _) rfl);clear hC hd hb hK
  first | (go_simp; done) | (go_simp; rfl)
 ·refine At.of _ rfl (fun e a w hC hd hb K hK => ?_)
  have q1 := (hd 1 (by decide)).2 9 rfl;rw [show e 1 = _ from (hd 1 (by decide)).1] at q1;have q3 := (hd 3 (by decide)).2 11 rfl;rw [show e 3 = _ from (hd 3 (by decide)).1] at q3;refine value_ (w1 := w) (v := .bool true) (by rfl) rfl ?_ (hK.out _ _ (Below.refl _ _) rfl);clear hC hd hb hK
  first | (go_simp; done) | (go_simp; rfl)
 ·refine At.of _ rfl (fun e a w hC hd hb K hK => ?_)
  have q4 := (hd 4 (by decide)).2 12 rfl;rw [show e 4 = _ from (hd 4 (by decide)).1] at q4;refine value_ (w1 := w) (v := .bool true) (by rfl) rfl ?_ (hK.out _ _ (Below.refl _ _) rfl);clear hC hd hb hK
  first | (go_simp; done) | (go_simp; rfl)
 ·refine At.of _ rfl (fun e a w hC hd hb K hK => ?_)
  have gg5 := (hd 5 (by decide)).2 13 rfl;rw [show e 5 = _ from (hd 5 (by decide)).1] at gg5;have b2 : a.tmps[2]? = some (.pointer (some ⟨w0.heap.size, 0, none⟩)) := hb 2 (by decide);refine value_ (w1 := w) (v := .pointer (some ⟨w0.heap.size, 1, none⟩)) (by simp [Region.wanted, yielded, gg5]) rfl ?_ (hK.out _ _ (Below.refl _ _) rfl);clear hC hd hb hK
  first | (go_simp; done) | (go_simp; rfl)
 ·refine At.of _ rfl (fun e a w hC hd hb K hK => ?_)
  have gg5 := (hd 5 (by decide)).2 13 rfl;rw [show e 5 = _ from (hd 5 (by decide)).1] at gg5;have q6 := (hd 6 (by decide)).2 14 rfl;rw [show e 6 = _ from (hd 6 (by decide)).1] at q6;have cc1 : w.cell? ⟨w0.heap.size, 1, none⟩ = some (.slice xA (can n).f1.length xc) := Ctx.blk hC.2.2.2.1 1 rfl;refine value_ (w1 := w) (v := .slice xA (can n).f1.length xc) (by simp [Region.wanted, yielded, gg5]) rfl ?_ (hK.out _ _ (Below.refl _ _) rfl);clear hC hd hb hK
  first | (go_simp; done) | (go_simp; rfl)
 ·refine At.of _ rfl (fun e a w hC hd hb K hK => ?_)
  have gg5 := (hd 5 (by decide)).2 13 rfl;rw [show e 5 = _ from (hd 5 (by decide)).1] at gg5;have b5 : a.tmps[5]? = some (.pointer (some ⟨g5, 0, none⟩)) := hb 5 (by decide);refine value_ (w1 := w) (v := .pointer (some ⟨g5, 1, none⟩)) (by simp [Region.wanted, yielded, gg5]) rfl ?_ (hK.out _ _ (Below.refl _ _) rfl);clear hC hd hb hK
  first | (go_simp; done) | (go_simp; rfl)
 ·refine At.of _ rfl (fun e a w hC hd hb K hK => ?_)
  have gg5 := (hd 5 (by decide)).2 13 rfl;rw [show e 5 = _ from (hd 5 (by decide)).1] at gg5;have q8 := (hd 8 (by decide)).2 16 rfl;rw [show e 8 = _ from (hd 8 (by decide)).1] at q8;have cc1 : w.cell? ⟨g5, 1, none⟩ = some (.slice zA (cn n).f1.length zc) := Ctx.blk hC.1 1 rfl;refine value_ (w1 := w) (v := .slice zA (cn n).f1.length zc) (by simp [Region.wanted, yielded, gg5]) rfl ?_ (hK.out _ _ (Below.refl _ _) rfl);clear hC hd hb hK
  first | (go_simp; done) | (go_simp; rfl)
 ·refine At.of _ rfl (fun e a w hC hd hb K hK => ?_)
  have gg5 := (hd 5 (by decide)).2 13 rfl;rw [show e 5 = _ from (hd 5 (by decide)).1] at gg5;have q9 := (hd 9 (by decide)).2 17 rfl;rw [show e 9 = _ from (hd 9 (by decide)).1] at q9;refine goes_ Tryd.func69 (by kernel_rfl) rfl #[.slice zA (cn n).f1.length zc] (by simp [Region.wanted, yielded, gg5]) rfl rfl (by first | (simp [Act.eval, q9]; done) | (simp [Act.eval, q9]; rfl)) ?_;refine (hL w hC.2.1).mono ?_;rintro en w' ⟨v, rfl, hv, hb'⟩;exact ⟨v, rfl, hK.out v w' hb' hv⟩
 ·refine At.of _ rfl (fun e a w hC hd hb K hK => ?_)
  have gg5 := (hd 5 (by decide)).2 13 rfl;rw [show e 5 = _ from (hd 5 (by decide)).1] at gg5;have q7 := (hd 7 (by decide)).2 15 rfl;rw [show e 7 = _ from (hd 7 (by decide)).1] at q7;have q10 := (hd 10 (by decide)).2 18 rfl;refine goes_ Tryd.func20 (by kernel_rfl) rfl #[.slice xA (can n).f1.length xc, e 10] (by simp [Region.wanted, yielded, gg5]) rfl rfl (by first | (simp [Act.eval, q7, q10]; done) | (simp [Act.eval, q7, q10]; rfl)) ?_;refine (hW w (e 10) hC.2.2.2.2.2.1 (hd 10 (by decide)).1).mono ?_;rintro en w' ⟨v, rfl, hv, hb'⟩;exact ⟨v, rfl, hK.out v w' hb' hv⟩
 ·refine At.of _ rfl (fun e a w hC hd hb K hK => ?_)
  have q5 := (hd 5 (by decide)).2 13 rfl;rw [show e 5 = _ from (hd 5 (by decide)).1] at q5;have q11 := (hd 11 (by decide)).2 19 rfl;rw [show e 11 = _ from (hd 11 (by decide)).1] at q11;refine value_ (w1 := w) (v := .bool true) (by rfl) rfl ?_ (hK.out _ _ (Below.refl _ _) rfl);clear hC hd hb hK
  first | (go_simp; done) | (go_simp; rfl)
 ·refine At.of _ rfl (fun e a w hC hd hb K hK => ?_)
  have q12 := (hd 12 (by decide)).2 20 rfl;rw [show e 12 = _ from (hd 12 (by decide)).1] at q12;refine value_ (w1 := w) (v := .bool true) (by rfl) rfl ?_ (hK.out _ _ (Below.refl _ _) rfl);clear hC hd hb hK
  first | (go_simp; done) | (go_simp; rfl)
 ·intro ev w C hr
  have r13 : ev 13 = .bool true := hr.2;simp only [fill, Act.put, r13, if_true, List.setIfInBounds_toArray, List.set_cons_zero, List.set_cons_succ];clear hr r13;have hw : Below w0.heap.size w0 w := C.2.2.2.2.1;clear C
  go_wp2_with fail
  go_ret;exact ⟨rfl, hw⟩
end Go.Proofs.YthpgjgmaamcaoaaDoor.P
end
section
namespace Go.Proofs.YthpgjgmaamcaoaaDoor.P
open Go.RowKit Go.Shelf Go.Proofs.YthpgjgmaamcaoaaDoorW.PrintWords Go.Proofs.YthpgjgmaamcaoaaDoorW.PrintLast Go.Proofs.YthpgjgmaamcaoaaDoorW.PrintMore Go.Proofs.YthpgjgmaamcaoaaDoor.Nm
set_option maxRecDepth 100000
set_option linter.unusedVariables false
set_option linter.unusedSimpArgs false
theorem cmp_isNaN (a : Int) (w : World) : Calls Tryd.prog 79 #[.int .i64 a] w fun e w' => e = .returned (.bool false) ∧ w' = w := by
 go_enter Tryd.func79, Tryd.ntmps79;go_wp2;go_ret;exact ⟨rfl, rfl⟩
theorem cmp_Compare (a b : Int) (w : World) : Calls Tryd.prog 49 #[.int .i64 a, .int .i64 b] w fun e w' => e = .returned (.int .i64 (sgn (a - b))) ∧ w' = w := by
 obtain ⟨s, hs⟩ : ∃ s, s = sgn (a - b) := ⟨_, rfl⟩
 rw [← hs]
 rcases Int.lt_trichotomy a b with h | h | h
 ·obtain rfl : s = -1 := by rw [hs]; exact sgn_lt (by omega)
  clear hs;go_enter Tryd.func49, Tryd.ntmps49;go_wp2_with (go_at_call 79; refine (cmp_isNaN _ _).mono ?_; rintro e w' ⟨rfl, rfl⟩);go_ret;exact ⟨rfl, rfl⟩
 ·obtain rfl : s = 0 := by rw [hs]; exact sgn_zero (by omega)
  subst h
  have h1 : ¬ a < a := by omega
  clear hs;go_enter Tryd.func49, Tryd.ntmps49;go_wp2_with (go_at_call 79; refine (cmp_isNaN _ _).mono ?_; rintro e w' ⟨rfl, rfl⟩);go_ret;exact ⟨rfl, rfl⟩
 ·obtain rfl : s = 1 := by rw [hs]; exact sgn_gt (by omega)
  have h1 : ¬ a < b := by omega
  clear hs;go_enter Tryd.func49, Tryd.ntmps49;go_wp2_with (go_at_call 79; refine (cmp_isNaN _ _).mono ?_; rintro e w' ⟨rfl, rfl⟩);go_ret;exact ⟨rfl, rfl⟩
theorem sort_by (a b : Int) (p q r s : Value) (w : World) : Calls Tryd.prog 48 #[.agg #[.int .i64 a, p, q], .agg #[.int .i64 b, r, s]] w fun e w' => e = .returned (.int .i64 (sgn (a - b))) ∧ Below w.heap.size w w' := by
 have C := Ctx.new (cs := [.int .i64 b, r, s]) (t := 44) (Ctx.new (cs := [.int .i64 a, p, q]) (t := 44) (Ctx.cons (uB w) (Below.refl _ _) Ctx.nil));simp only [World.size_alloc] at C;go_enter Tryd.func48, Tryd.ntmps48
 go_upto_region 1 with fail
 refine absW _ C ?_;clear C;intro w1 C;have y0 := Ctx.blk C.1 0 rfl;have x0 := Ctx.blk C.2.1 0 rfl;have hb := Sdq.mk (show Below w.heap.size w w1 from C.2.2.1);clear C;go_wp2_with (go_at_call 49; refine (cmp_Compare _ _ _).mono ?_; rintro e w' ⟨rfl, rfl⟩);go_ret;exact ⟨rfl, hb.out⟩
end Go.Proofs.YthpgjgmaamcaoaaDoor.P
end
section
namespace Go.Proofs.YthpgjgmaamcaoaaDoor.P
open Go.RowKit Go.Shelf Go.Proofs.YthpgjgmaamcaoaaDoorW.PrintWords Go.Proofs.YthpgjgmaamcaoaaDoorW.PrintLast Go.Proofs.YthpgjgmaamcaoaaDoorW.PrintMore Go.Proofs.YthpgjgmaamcaoaaDoor.Nm
set_option linter.unusedVariables false
structure TB where
 f0 : S24
 f1 : List S44
def kTB : Kd TB := Kd.iso (Kd.pair k24 (Kd.slice 44 k44)) (fun x : TB => (x.f0, x.f1))
theorem kTB_heap : Kd.Heap kTB := Kd.heap_iso _ (Kd.heap_pair k24_heap (Kd.heap_slice 44 k44_heap))
theorem kTB_open {w : World} {x : TB} {cs : List Value} (h : kTB.K w x cs) : ∃ A c B d, cs = [.bool x.f0.f0, .slice A x.f0.f1.length c, .slice B x.f1.length d] ∧ x.f0.f1.length ≤ c ∧ (Kd.int .u32).C w A x.f0.f1.length x.f0.f1 ∧ x.f1.length ≤ d ∧ k44.C w B x.f1.length x.f1 := by
 obtain ⟨_, _, rfl, h1, ⟨B, d, rfl, l2, g2⟩⟩ := h;obtain ⟨A, c, rfl, l1, g1⟩ := k24_open h1;exact ⟨A, c, B, d, rfl, l1, g1, l2, g2⟩
theorem kTB_mk (w : World) (x : TB) {A : Option Addr} {c : Nat} {B : Option Addr} {d : Nat} (l1 : x.f0.f1.length ≤ c) (g1 : (Kd.int .u32).C w A x.f0.f1.length x.f0.f1) (l2 : x.f1.length ≤ d) (g2 : k44.C w B x.f1.length x.f1) : kTB.K w x [.bool x.f0.f0, .slice A x.f0.f1.length c, .slice B x.f1.length d] := ⟨[.bool x.f0.f0, .slice A x.f0.f1.length c], [.slice B x.f1.length d], rfl, k24_mk w x.f0 l1 g1, ⟨B, d, rfl, l2, g2⟩⟩
theorem kTB_openF {W : World} {ok : Nat → Prop} {x : TB} {cs : List Value} (h : Kd.FK kTB W ok x cs) : ∃ A c B d, cs = [.bool x.f0.f0, .slice A x.f0.f1.length c, .slice B x.f1.length d] ∧ x.f0.f1.length ≤ c ∧ Kd.F (Kd.int .u32) W ok A x.f0.f1.length x.f0.f1 ∧ x.f1.length ≤ d ∧ Kd.F k44 W ok B x.f1.length x.f1 := by
 obtain ⟨A, c, B, d, rfl, l1, _, l2, _⟩ := kTB_open (Kd.FK_now h);refine ⟨A, c, B, d, rfl, l1, (fun W' hW => ?_), l2, (fun W' hW => ?_)⟩
 ·obtain ⟨A', c', B', d', he, _, g, _, _⟩ := kTB_open (h W' hW)
  injection (Option.some.inj (show some (Value.slice A x.f0.f1.length c) = some (Value.slice A' x.f0.f1.length c') from congrArg (fun l => l[1]?) he)) with ha _ _
  rw [ha]; exact g
 ·obtain ⟨A', c', B', d', he, _, _, _, g⟩ := kTB_open (h W' hW)
  injection (Option.some.inj (show some (Value.slice B x.f1.length d) = some (Value.slice B' x.f1.length d') from congrArg (fun l => l[2]?) he)) with ha _ _
  rw [ha]; exact g
theorem kTB_mkF (W : World) (ok : Nat → Prop) (x : TB) {A : Option Addr} {c : Nat} {B : Option Addr} {d : Nat} (l1 : x.f0.f1.length ≤ c) (g1 : Kd.F (Kd.int .u32) W ok A x.f0.f1.length x.f0.f1) (l2 : x.f1.length ≤ d) (g2 : Kd.F k44 W ok B x.f1.length x.f1) : Kd.FK kTB W ok x [.bool x.f0.f0, .slice A x.f0.f1.length c, .slice B x.f1.length d] := fun W2 hW => kTB_mk W2 x l1 (g1 W2 hW) l2 (g2 W2 hW)
theorem Kv.openTB {ok : Nat → Prop} {w : World} {v : Value} {x : TB} (h : Kv kTB ok w v x) : ∃ A c B d, v = .agg #[.bool x.f0.f0, .slice A x.f0.f1.length c, .slice B x.f1.length d] ∧ Kv k24 ok w (.agg #[.bool x.f0.f0, .slice A x.f0.f1.length c]) x.f0 ∧ Cv k44 ok w (.slice B x.f1.length d) x.f1 := by
 obtain ⟨cs, rfl, hk⟩ := h;obtain ⟨A, c, B, d, rfl, l1, g1, l2, g2⟩ := kTB_openF hk;exact ⟨A, c, B, d, rfl, ⟨_, rfl, k24_mkF w ok x.f0 l1 g1⟩, ⟨B, d, rfl, l2, g2⟩⟩
structure TR where
 f0 : S34
 f1 : List S66
def kTR : Kd TR := Kd.iso (Kd.pair k34 (Kd.slice 66 k66)) (fun x : TR => (x.f0, x.f1))
theorem kTR_open {w : World} {x : TR} {cs : List Value} (h : kTR.K w x cs) : ∃ A c B d, cs = [.bool x.f0.f0, .slice A x.f0.f1.length c, .slice B x.f1.length d] ∧ x.f0.f1.length ≤ c ∧ (Kd.int .i64).C w A x.f0.f1.length x.f0.f1 ∧ x.f1.length ≤ d ∧ k66.C w B x.f1.length x.f1 := by
 obtain ⟨_, _, rfl, h1, ⟨B, d, rfl, l2, g2⟩⟩ := h;obtain ⟨A, c, rfl, l1, g1⟩ := k34_open h1;exact ⟨A, c, B, d, rfl, l1, g1, l2, g2⟩
theorem kTR_mk (w : World) (x : TR) {A : Option Addr} {c : Nat} {B : Option Addr} {d : Nat} (l1 : x.f0.f1.length ≤ c) (g1 : (Kd.int .i64).C w A x.f0.f1.length x.f0.f1) (l2 : x.f1.length ≤ d) (g2 : k66.C w B x.f1.length x.f1) : kTR.K w x [.bool x.f0.f0, .slice A x.f0.f1.length c, .slice B x.f1.length d] := ⟨[.bool x.f0.f0, .slice A x.f0.f1.length c], [.slice B x.f1.length d], rfl, k34_mk w x.f0 l1 g1, ⟨B, d, rfl, l2, g2⟩⟩
theorem kTR_openF {W : World} {ok : Nat → Prop} {x : TR} {cs : List Value} (h : Kd.FK kTR W ok x cs) : ∃ A c B d, cs = [.bool x.f0.f0, .slice A x.f0.f1.length c, .slice B x.f1.length d] ∧ x.f0.f1.length ≤ c ∧ Kd.F (Kd.int .i64) W ok A x.f0.f1.length x.f0.f1 ∧ x.f1.length ≤ d ∧ Kd.F k66 W ok B x.f1.length x.f1 := by
 obtain ⟨A, c, B, d, rfl, l1, _, l2, _⟩ := kTR_open (Kd.FK_now h);refine ⟨A, c, B, d, rfl, l1, (fun W' hW => ?_), l2, (fun W' hW => ?_)⟩
 ·obtain ⟨A', c', B', d', he, _, g, _, _⟩ := kTR_open (h W' hW)
  injection (Option.some.inj (show some (Value.slice A x.f0.f1.length c) = some (Value.slice A' x.f0.f1.length c') from congrArg (fun l => l[1]?) he)) with ha _ _
  rw [ha]; exact g
 ·obtain ⟨A', c', B', d', he, _, _, _, g⟩ := kTR_open (h W' hW)
  injection (Option.some.inj (show some (Value.slice B x.f1.length d) = some (Value.slice B' x.f1.length d') from congrArg (fun l => l[2]?) he)) with ha _ _
  rw [ha]; exact g
theorem kTR_mkF (W : World) (ok : Nat → Prop) (x : TR) {A : Option Addr} {c : Nat} {B : Option Addr} {d : Nat} (l1 : x.f0.f1.length ≤ c) (g1 : Kd.F (Kd.int .i64) W ok A x.f0.f1.length x.f0.f1) (l2 : x.f1.length ≤ d) (g2 : Kd.F k66 W ok B x.f1.length x.f1) : Kd.FK kTR W ok x [.bool x.f0.f0, .slice A x.f0.f1.length c, .slice B x.f1.length d] := fun W2 hW => kTR_mk W2 x l1 (g1 W2 hW) l2 (g2 W2 hW)
theorem Kv.openTR {ok : Nat → Prop} {w : World} {v : Value} {x : TR} (h : Kv kTR ok w v x) : ∃ A c B d, v = .agg #[.bool x.f0.f0, .slice A x.f0.f1.length c, .slice B x.f1.length d] ∧ Kv k34 ok w (.agg #[.bool x.f0.f0, .slice A x.f0.f1.length c]) x.f0 ∧ Cv k66 ok w (.slice B x.f1.length d) x.f1 := by
 obtain ⟨cs, rfl, hk⟩ := h;obtain ⟨A, c, B, d, rfl, l1, g1, l2, g2⟩ := kTR_openF hk;exact ⟨A, c, B, d, rfl, ⟨_, rfl, k34_mkF w ok x.f0 l1 g1⟩, ⟨B, d, rfl, l2, g2⟩⟩
end Go.Proofs.YthpgjgmaamcaoaaDoor.P
end
section
namespace Go.Proofs.YthpgjgmaamcaoaaDoor.P
open Go.RowKit Go.Shelf Go.Proofs.YthpgjgmaamcaoaaDoorW.PrintWords Go.Proofs.YthpgjgmaamcaoaaDoorW.PrintLast Go.Proofs.YthpgjgmaamcaoaaDoorW.PrintMore Go.Proofs.YthpgjgmaamcaoaaDoor.Nm
set_option maxRecDepth 100000
set_option linter.unusedVariables false
set_option linter.unusedSimpArgs false
def Lite (x : TB) : Prop := x.f1.length ≤ 12 ∧ x.f0.f1.length ≤ 4 ∧ ∀ p ∈ x.f1, p.f1.f1.length ≤ 4
instance (x : TB) : Decidable (Lite x) := by unfold Lite; infer_instance
set_option maxHeartbeats 1600000 in
theorem law_light (v : Value) (x : TB) (w0 : World) (h : Kv kTB (fun _ => True) w0 v x) :
  Calls Tryd.prog 9 #[v] w0 fun e w' => e = .returned (.bool (decide (Lite x))) ∧ Below w0.heap.size w0 w' := by
 obtain ⟨A, c, B, d, rfl, hk, hp⟩ := h.openTB
 obtain ⟨s, hsE⟩ : ∃ s, s = decide (Lite x) := ⟨_, rfl⟩
 rw [← hsE];have hs := Sdq.mk hsE;have C := Ctx.new (cs := [.bool x.f0.f0, .slice A x.f0.f1.length c, .slice B x.f1.length d]) (t := 27) (Ctx.cons (uB w0) (Below.refl _ _) (Ctx.cons (uK k24 (fun _ => True) (.agg #[.bool x.f0.f0, .slice A x.f0.f1.length c]) x.f0) hk (Ctx.cons (uCv k44 (fun _ => True) x.f1 (.slice B x.f1.length d)) hp Ctx.nil)));clear h hk hp hsE;go_enter Tryd.func9, Tryd.ntmps9
 go_upto_region 1 with fail
 refine absW _ C ?_;clear C;intro w1 C;have x0 := Ctx.blk C.1 0 rfl;have x1 := Ctx.blk C.1 1 rfl;have x2 := Ctx.blk C.1 2 rfl;have C := Sdq.mk C;by_cases h12 : x.f1.length ≤ 12
 ·have h12i : ¬ (12 : Int) < (x.f1.length : Int) := by omega
  have hsm := law_small _ x.f0 w1 C.out.2.2.1;by_cases h4 : x.f0.f1.length ≤ 4
  ·rw [show decide (x.f0.f1.length ≤ 4) = true by simpa using h4] at hsm
   have hsm := Sdq.mk hsm;have H := Sdq.mk (And.intro h12 h4);clear h12 h4;go_wp2_with (go_at_call 21; refine hsm.out.mono ?_; rintro e w2 ⟨rfl, hb⟩; have C := Sdq.mk (C.out.below hb); clear hb);clear hsm x0 x1 x2
   go_loopg [3] x.f1.length (fun gk s3 wr => ∃ m : Nat, gk + m = x.f1.length ∧ s3 = .int .i64 m ∧ Sdq (∀ p ∈ x.f1.take m, p.f1.f1.length ≤ 4) ∧ Sdq (Below w2.heap.size w2 wr))
   case atStart => exact ⟨0, rfl, rfl, ⟨fun p hp => by simp at hp⟩, ⟨Below.refl _ _⟩⟩
   case round =>
    obtain ⟨m, hm, rfl, hd, hb⟩ := hrel;have C := Sdq.mk (C.out.below hb.out);have x2 := Ctx.blk C.out.1 2 rfl
    cases gk with
    | zero =>
     obtain rfl : s = true := by
      rw [hs.out];simp only [decide_eq_true_eq];have h := hd.out;rw [List.take_of_length_le (by omega)] at h;exact ⟨H.out.1, H.out.2, h⟩
     have hnl : ¬ (m : Int) < (x.f1.length : Int) := by omega
     clear hs;go_wp2;go_ret;exact ⟨rfl, C.out.2.1⟩
    | succ j =>
     have hmx : m < x.f1.length := by omega
     obtain ⟨B', d', e1, -, hF⟩ := (show Cv k44 (fun _ => True) wr (.slice B x.f1.length d) x.f1 from C.out.2.2.2.1)
     injection e1 with e2 _ e3
     subst e2;subst e3;obtain ⟨ad, cs, rfl, -, hK, hcc, -⟩ := Kd.F_get hF z44 (m : Int) (by omega) (by omega)
     obtain ⟨p, hpE⟩ : ∃ p, p = x.f1[m] := ⟨_, rfl⟩
     rw [show x.f1.getD (m : Int).toNat z44 = p by rw [hpE]; simp [hmx]] at hK;obtain ⟨A2, c2, rfl, l2, g2⟩ := k44_openF hK;have hc : ∀ j u, ([.int .i64 p.f0, .bool p.f1.f0, .slice A2 p.f1.f1.length c2] : List Value)[j]? = some u → wr.cell? (ad.add (m * 3 + j)) = some u := hcc
     have q1 : wr.cell? ⟨(ad.add (m * 3)).block, (ad.add (m * 3)).off + 1, none⟩ = some (.bool p.f1.f0) := by rw [← add_field _ _ 1 (by omega)]; exact hc 1 _ rfl
     have q2 : wr.cell? ⟨(ad.add (m * 3)).block, (ad.add (m * 3)).off + 2, none⟩ = some (.slice A2 p.f1.f1.length c2) := by rw [← add_field _ _ 2 (by omega)]; exact hc 2 _ rfl
     have hsm := law_small (.agg #[.bool p.f1.f0, .slice A2 p.f1.f1.length c2]) p.f1 wr ⟨_, rfl, k24_mkF wr _ p.f1 l2 g2⟩;have hp := Sdq.mk hpE;clear hF hK hcc hc l2 g2 hpE;by_cases h4 : p.f1.f1.length ≤ 4
     ·rw [show decide (p.f1.f1.length ≤ 4) = true by simpa using h4] at hsm
      have hsm := Sdq.mk hsm
      have hd' := Sdq.mk (show ∀ p ∈ x.f1.take (m + 1), p.f1.f1.length ≤ 4 by
       intro q hq;rw [List.take_succ_eq_append_getElem hmx] at hq
       rcases List.mem_append.1 hq with hq | hq
       ·exact hd.out q hq
       ·obtain rfl : q = x.f1[m] := by simpa using hq
        rw [← hp.out]; exact h4)
      clear h4;go_wp2_with (go_at_call 21; refine hsm.out.mono ?_; rintro e w3 ⟨rfl, hb3⟩)
      go_roundg j
      case measure => omega
      case rel => exact ⟨m + 1, by omega, by go_num, hd', ⟨below_step hb.out hb3⟩⟩
     ·obtain rfl : s = false := by
       rw [hs.out];simp only [decide_eq_false_iff_not]
       exact fun h => h4 (h.2.2 p (by rw [hp.out]; exact List.getElem_mem hmx))
      rw [show decide (p.f1.f1.length ≤ 4) = false by simpa using h4] at hsm;have hsm := Sdq.mk hsm;clear h4 hs;go_wp2_with (go_at_call 21; refine hsm.out.mono ?_; rintro e w3 ⟨rfl, hb3⟩);go_ret;exact ⟨rfl, below_step C.out.2.1 hb3⟩
  ·obtain rfl : s = false := by rw [hs.out]; simp only [decide_eq_false_iff_not]; exact fun h => h4 h.2.1
   rw [show decide (x.f0.f1.length ≤ 4) = false by simpa using h4] at hsm;have hsm := Sdq.mk hsm;clear h12 h4 hs;go_wp2_with (go_at_call 21; refine hsm.out.mono ?_; rintro e w2 ⟨rfl, hb⟩);go_ret;exact ⟨rfl, below_step C.out.2.1 hb⟩
 ·obtain rfl : s = false := by rw [hs.out]; simp only [decide_eq_false_iff_not]; exact fun h => h12 h.1
  have h12i : (12 : Int) < (x.f1.length : Int) := by omega
  clear h12 hs;go_wp2;go_ret;exact ⟨rfl, C.out.2.1⟩
end Go.Proofs.YthpgjgmaamcaoaaDoor.P
end
section
namespace Go.Proofs.YthpgjgmaamcaoaaDoor.Srt
variable {α : Type} {key : α → Int}
def Up (key : α → Int) (l : List α) : Prop := l.Pairwise (fun x y => key x ≤ key y)
def Le (key : α → Int) (a b : List α) : Prop := ∀ x ∈ a, ∀ y ∈ b, key x ≤ key y
theorem Up.nil : Up key [] := List.Pairwise.nil
theorem Up.one (x : α) : Up key [x] := List.pairwise_singleton _ _
theorem up_append {a b : List α} : Up key (a ++ b) ↔ Up key a ∧ Up key b ∧ Le key a b := by
 unfold Up Le;rw [List.pairwise_append]
theorem Up.left {a b : List α} (h : Up key (a ++ b)) : Up key a := (up_append.1 h).1
theorem Up.right {a b : List α} (h : Up key (a ++ b)) : Up key b := (up_append.1 h).2.1
theorem Up.le {a b : List α} (h : Up key (a ++ b)) : Le key a b := (up_append.1 h).2.2
theorem Le.perm {a b a' b' : List α} (h : Le key a b) (ha : a'.Perm a) (hb : b'.Perm b) : Le key a' b' :=
 fun x hx y hy => h x (ha.mem_iff.1 hx) y (hb.mem_iff.1 hy)
theorem Le.append_left {a a' b : List α} (h : Le key a b) (h' : Le key a' b) : Le key (a ++ a') b := fun x hx => (List.mem_append.1 hx).elim (h x) (h' x)
theorem Le.append_right {a b b' : List α} (h : Le key a b) (h' : Le key a b') : Le key a (b ++ b') := fun x hx y hy => (List.mem_append.1 hy).elim (h x hx y) (h' x hx y)
theorem up_insert {l r : List α} {x : α} (h : Up key (l ++ r)) (hl : ∀ y ∈ l.getLast?, key y ≤ key x) (hr : ∀ y ∈ r, key x ≤ key y) : Up key (l ++ x :: r) := by
 have hll : Le key l [x] := by
  intro y hy z hz
  obtain rfl : z = x := by simpa using hz
  rcases List.eq_nil_or_concat l with rfl | ⟨l', e, rfl⟩
  ·cases hy
  ·have h1 := hl e (by simp)
   rw [List.concat_eq_append] at hy h
   rcases List.mem_append.1 hy with hy | hy
   ·have h2 := (up_append.1 h.left).2.2 y hy e (by simp)
    omega
   ·obtain rfl : y = e := by simpa using hy
    exact h1
 refine up_append.2 ⟨h.left, ?_, ?_⟩
 ·exact List.pairwise_cons.2 ⟨hr, h.right⟩
 ·exact (hll.append_right h.le : Le key l ([x] ++ r))
theorem cut_le {a a' b b' : List α} (ha : Up key (a ++ a')) (hb : Up key (b ++ b')) (h1 : ∀ x ∈ a.getLast?, ∀ y ∈ b'.head?, key x ≤ key y) (h2 : ∀ x ∈ b.getLast?, ∀ y ∈ a'.head?, key x ≤ key y) : Le key (a ++ b) (a' ++ b') := by
 have ends : ∀ {c d : List α}, Up key c → Up key d → (∀ x ∈ c.getLast?, ∀ y ∈ d.head?, key x ≤ key y) → Le key c d := by
  intro c d hc hd h x hx y hy
  rcases List.eq_nil_or_concat c with rfl | ⟨c', e, rfl⟩
  ·cases hx
  cases d with
  | nil => cases hy
  | cons f d =>
   have h0 := h e (by simp) f rfl;rw [List.concat_eq_append] at hx hc
   have hxe : key x ≤ key e := by
    rcases List.mem_append.1 hx with hx | hx
    ·exact hc.le x hx e (by simp)
    ·obtain rfl : x = e := by simpa using hx
     exact Int.le_refl _
   have hfy : key f ≤ key y := by
    rcases List.mem_cons.1 hy with rfl | hy
    ·exact Int.le_refl _
    ·exact (List.pairwise_cons.1 hd).1 y hy
   omega
 have e1 := ends ha.left hb.right h1;have e2 := ends hb.left ha.right h2;exact (ha.le.append_right e1).append_left (e2.append_right hb.le)
theorem up_merge {a b c d : List α} (ha : Up key a) (hb : Up key b) (h : Le key c d) (hac : a.Perm c) (hbd : b.Perm d) : Up key (a ++ b) := up_append.2 ⟨ha, hb, h.perm hac hbd⟩
theorem up_get {l : List α} (h : Up key l) {i j : Nat} (hi : i ≤ j) (hj : j < l.length) : key (l[i]'(by omega)) ≤ key l[j] := by
 by_cases e : i = j
 ·subst e; exact Int.le_refl _
 ·exact (List.pairwise_iff_getElem.1 h) i j (by omega) hj (by omega)
end Go.Proofs.YthpgjgmaamcaoaaDoor.Srt
end
section
namespace Go.Proofs.YthpgjgmaamcaoaaDoor.Srt
variable {α : Type} {key : α → Int}
theorem swp_far (p m q : List α) (x y : α) : ((p ++ x :: (m ++ y :: q)).set p.length y).set (p.length + 1 + m.length) x = p ++ y :: (m ++ x :: q) := by
 rw [List.set_append_right _ _ (Nat.le_refl _), Nat.sub_self, List.set_cons_zero, List.set_append_right _ _ (by omega), show p.length + 1 + m.length - p.length = m.length + 1 by omega, List.set_cons_succ, List.set_append_right _ _ (Nat.le_refl _), Nat.sub_self, List.set_cons_zero]
theorem swp_far' (p m q : List α) (x y : α) : ((p ++ x :: (m ++ y :: q)).set (p.length + 1 + m.length) x).set p.length y = p ++ y :: (m ++ x :: q) := by
 rw [List.set_comm _ _ (by omega)];exact swp_far p m q x y
theorem swp_near (p q : List α) (x y : α) : ((p ++ x :: y :: q).set p.length y).set (p.length + 1) x = p ++ y :: x :: q := swp_far p [] q x y
theorem swp_near' (p q : List α) (x y : α) : ((p ++ x :: y :: q).set (p.length + 1) x).set p.length y = p ++ y :: x :: q := swp_far' p [] q x y
theorem get_mid {p q : List α} {x : α} {l : List α} (h : l = p ++ x :: q) {i : Nat} (hi : i = p.length) : ∃ hl : i < l.length, l[i] = x := by
 subst h;subst hi;exact ⟨by simp, by simp⟩
def RS (P X M Y Q : List α) (i : Nat) (l : List α) : Prop := l = P ++ (Y.take i ++ X.drop i) ++ M ++ (X.take i ++ Y.drop i) ++ Q
theorem RS.zero (P X M Y Q : List α) : RS P X M Y Q 0 (P ++ X ++ M ++ Y ++ Q) := by simp [RS]
theorem RS.done {P X M Y Q l : List α} {n : Nat} (h : RS P X M Y Q n l) (hx : X.length = n) (hy : Y.length = n) : l = P ++ Y ++ M ++ X ++ Q := by
 rw [h, List.take_of_length_le (by omega), List.drop_of_length_le (by omega), List.take_of_length_le (by omega), List.drop_of_length_le (by omega)]
 simp
theorem RS.step {P X M Y Q l : List α} {i a b : Nat} (h : RS P X M Y Q i l) (hx : i < X.length) (hy : i < Y.length) (ha : a = P.length + i) (hb : b = P.length + X.length + M.length + i) (hxy : X.length = Y.length) :
  ∃ (h1 : a < l.length) (h2 : b < l.length), RS P X M Y Q (i + 1) ((l.set a l[b]).set b l[a]) := by
 have hl : l = (P ++ Y.take i) ++ X[i] :: ((X.drop (i + 1) ++ M ++ X.take i) ++ Y[i] :: (Y.drop (i + 1) ++ Q)) := by
  rw [h, List.drop_eq_getElem_cons hx, List.drop_eq_getElem_cons hy];simp only [List.append_assoc, List.cons_append, List.singleton_append, List.nil_append]
 obtain ⟨h1, e1⟩ := get_mid hl (i := a) (by simp; omega)
 have hl2 : l = ((P ++ Y.take i) ++ X[i] :: (X.drop (i + 1) ++ M ++ X.take i)) ++ Y[i] :: (Y.drop (i + 1) ++ Q) := by rw [hl]; simp only [List.append_assoc, List.cons_append, List.singleton_append, List.nil_append]
 obtain ⟨h2, e2⟩ := get_mid hl2 (i := b) (by simp; omega);refine ⟨h1, h2, ?_⟩;rw [e1, e2]
 have hp : a = (P ++ Y.take i).length := by simp; omega
 have hq : b = (P ++ Y.take i).length + 1 + (X.drop (i + 1) ++ M ++ X.take i).length := by simp; omega
 rw [hl, hp, hq, swp_far];unfold RS;rw [List.take_succ_eq_append_getElem hx, List.take_succ_eq_append_getElem hy];simp only [List.append_assoc, List.cons_append, List.singleton_append, List.nil_append]
theorem RS.len {P X M Y Q l : List α} {i : Nat} (h : RS P X M Y Q i l) (hx : i ≤ X.length) (hy : i ≤ Y.length) : l.length = P.length + X.length + M.length + Y.length + Q.length := by
 rw [h]
 simp
 omega
def Thr (P : List α) (x : α) (R Q : List α) (i : Nat) (l : List α) : Prop := l = P ++ R.take i ++ x :: (R.drop i ++ Q)
theorem Thr.zero (P : List α) (x : α) (R Q : List α) : Thr P x R Q 0 (P ++ x :: (R ++ Q)) := by simp [Thr]
theorem Thr.done {P : List α} {x : α} {R Q l : List α} (h : Thr P x R Q R.length l) : l = P ++ R ++ x :: Q := by rw [h]; simp
theorem Thr.up {P : List α} {x : α} {R Q l : List α} {i k : Nat} (h : Thr P x R Q i l) (hi : i < R.length) (hk : k = P.length + i) :
  ∃ (h1 : k < l.length) (h2 : k + 1 < l.length), Thr P x R Q (i + 1) ((l.set k l[k + 1]).set (k + 1) l[k]) := by
 have hl : l = (P ++ R.take i) ++ x :: R[i] :: (R.drop (i + 1) ++ Q) := by
  rw [h, List.drop_eq_getElem_cons hi];simp only [List.append_assoc, List.cons_append, List.singleton_append, List.nil_append]
 have hp : k = (P ++ R.take i).length := by simp; omega
 obtain ⟨h1, e1⟩ := get_mid hl (i := k) hp
 have hl2 : l = ((P ++ R.take i) ++ [x]) ++ R[i] :: (R.drop (i + 1) ++ Q) := by rw [hl]; simp only [List.append_assoc, List.cons_append, List.singleton_append, List.nil_append]
 obtain ⟨h2, e2⟩ := get_mid hl2 (i := k + 1) (by simp; omega);refine ⟨h1, h2, ?_⟩;rw [e1, e2, hl, hp, swp_near];unfold Thr;rw [List.take_succ_eq_append_getElem hi];simp only [List.append_assoc, List.cons_append, List.singleton_append, List.nil_append]
theorem Thr.down {P : List α} {x : α} {R Q l : List α} {i k : Nat} (h : Thr P x R Q (i + 1) l) (hi : i < R.length) (hk : k = P.length + i + 1) :
  ∃ (h1 : k < l.length) (h2 : k - 1 < l.length), Thr P x R Q i ((l.set k l[k - 1]).set (k - 1) l[k]) := by
 have hl : l = (P ++ R.take i) ++ R[i] :: x :: (R.drop (i + 1) ++ Q) := by
  rw [h, List.take_succ_eq_append_getElem hi];simp only [List.append_assoc, List.cons_append, List.singleton_append, List.nil_append]
 have hp : k - 1 = (P ++ R.take i).length := by simp; omega
 obtain ⟨h2, e2⟩ := get_mid hl (i := k - 1) hp
 have hl2 : l = ((P ++ R.take i) ++ [R[i]]) ++ x :: (R.drop (i + 1) ++ Q) := by rw [hl]; simp only [List.append_assoc, List.cons_append, List.singleton_append, List.nil_append]
 obtain ⟨h1, e1⟩ := get_mid hl2 (i := k) (by simp; omega);refine ⟨h1, h2, ?_⟩;rw [e1, e2, hl, hp, show k = (P ++ R.take i).length + 1 by simp; omega, swp_near'];unfold Thr;rw [List.drop_eq_getElem_cons hi];simp only [List.append_assoc, List.cons_append, List.singleton_append, List.nil_append]
theorem Thr.len {P : List α} {x : α} {R Q l : List α} {i : Nat} (h : Thr P x R Q i l) (hi : i ≤ R.length) : l.length = P.length + 1 + R.length + Q.length := by
 rw [h]
 simp
 omega
def Rot (P V U Q : List α) (A u v B : List α) (l : List α) : Prop := l = P ++ A ++ u ++ v ++ B ++ Q ∧ V ++ U = A ++ v ++ u ++ B ∧ A.length + u.length = U.length
theorem Rot.zero (P V U Q : List α) : Rot P V U Q [] U V [] (P ++ U ++ V ++ Q) := ⟨by simp, by simp, by simp⟩
theorem split_at_ {u : List α} {j : Nat} (h : j ≤ u.length) : ∃ u1 u2, u = u1 ++ u2 ∧ u1.length = j ∧ u2.length = u.length - j := ⟨u.take j, u.drop j, by simp, by simp; omega, by simp⟩
end Go.Proofs.YthpgjgmaamcaoaaDoor.Srt
end
section
namespace Go.Proofs.YthpgjgmaamcaoaaDoor.Srt
variable {α : Type} {key : α → Int}
theorem get_in {P M Q l : List α} (h : l = P ++ M ++ Q) {i k : Nat} (hi : i < M.length) (hk : k = P.length + i) : ∃ hl : k < l.length, l[k] = M[i] := by
 subst h;subst hk;refine ⟨by simp; omega, ?_⟩;rw [List.getElem_append_left (by simp; omega), List.getElem_append_right (by omega)]
 simp
theorem take_last {L : List α} {k : Nat} (hk : k ≤ L.length) {x : α} (hx : x ∈ (L.take k).getLast?) : ∃ h : k - 1 < L.length, 0 < k ∧ x = L[k - 1] := by
 rcases Nat.eq_zero_or_pos k with rfl | hp
 ·simp at hx
 ·refine ⟨by omega, hp, ?_⟩
  rw [List.getLast?_eq_getElem?] at hx;simp only [List.length_take, Nat.min_eq_left hk, Option.mem_def] at hx;rw [List.getElem?_take_of_lt (by omega), List.getElem?_eq_getElem (by omega)] at hx;exact (Option.some.inj hx).symm
theorem drop_head {L : List α} {k : Nat} {y : α} (hy : y ∈ (L.drop k).head?) : ∃ h : k < L.length, y = L[k] := by
 rw [List.head?_drop, Option.mem_def] at hy;obtain ⟨h, e⟩ := List.getElem?_eq_some_iff.1 hy;exact ⟨h, e.symm⟩
theorem one_up {x : α} {R : List α} {k : Nat} (h : Up key R) (hk : k ≤ R.length) (h1 : k = 0 ∨ ∃ h : k - 1 < R.length, key R[k - 1] ≤ key x) (h2 : k = R.length ∨ ∃ h : k < R.length, key x ≤ key R[k]) : Up key (R.take k ++ x :: R.drop k) := by
 refine up_insert (by rw [List.take_append_drop]; exact h) (fun y hy => ?_) (fun y hy => ?_)
 ·obtain ⟨hl, hp, rfl⟩ := take_last hk hy
  rcases h1 with h1 | ⟨_, h1⟩
  ·omega
  ·exact h1
 ·rcases h2 with h2 | ⟨hl, h2⟩
  ·rw [List.drop_of_length_le (by omega)] at hy
   cases hy
  ·obtain ⟨i, hi, rfl⟩ := List.mem_iff_getElem.1 hy
   have := up_get h (i := k) (j := k + i) (by omega) (by simp at hi; omega);rw [List.getElem_drop]
   omega
theorem mid_le {L R : List α} {s t : Nat} (hL : Up key L) (hR : Up key R) (hs : s ≤ L.length) (ht : t ≤ R.length)
  (h1 : s = 0 ∨ t = R.length ∨ ∃ (a : s - 1 < L.length) (b : t < R.length), key L[s - 1] ≤ key R[t])
  (h2 : s = L.length ∨ t = 0 ∨ ∃ (a : s < L.length) (b : t - 1 < R.length), key R[t - 1] ≤ key L[s]) : Le key (L.take s ++ R.take t) (L.drop s ++ R.drop t) := by
 refine cut_le (by rw [List.take_append_drop]; exact hL) (by rw [List.take_append_drop]; exact hR) (fun x hx y hy => ?_) (fun x hx y hy => ?_)
 ·obtain ⟨a, a1, rfl⟩ := take_last hs hx
  obtain ⟨b, rfl⟩ := drop_head hy
  rcases h1 with h1 | h1 | ⟨_, _, h1⟩
  ·omega
  ·omega
  ·exact h1
 ·obtain ⟨a, a1, rfl⟩ := take_last ht hx
  obtain ⟨b, rfl⟩ := drop_head hy
  rcases h2 with h2 | h2 | ⟨_, _, h2⟩
  ·omega
  ·omega
  ·exact h2
def Mrg (key : α → Int) (P M Q l : List α) : Prop := ∃ M', l = P ++ M' ++ Q ∧ M'.Perm M ∧ Up key M'
theorem Mrg.of {P M Q l : List α} (h : l = P ++ M ++ Q) (hu : Up key M) : Mrg key P M Q l := ⟨M, h, List.Perm.refl _, hu⟩
theorem Mrg.length {P M Q l : List α} (h : Mrg key P M Q l) : l.length = P.length + M.length + Q.length := by
 obtain ⟨M', rfl, hp, _⟩ := h;have := hp.length_eq
 simp
 omega
theorem Mrg.two {P L R Q l : List α} {s t : Nat} (hle : Le key (L.take s ++ R.take t) (L.drop s ++ R.drop t)) {M1 : List α} (h1 : M1.Perm (L.take s ++ R.take t)) (u1 : Up key M1) (h2 : Mrg key (P ++ M1) (L.drop s ++ R.drop t) Q l) : Mrg key P (L ++ R) Q l := by
 obtain ⟨M2, e, p2, u2⟩ := h2;refine ⟨M1 ++ M2, by rw [e]; simp, ?_, up_merge u1 u2 hle h1 p2⟩;refine (h1.append p2).trans ?_;have hL : L = L.take s ++ L.drop s := (List.take_append_drop s L).symm;have hR : R = R.take t ++ R.drop t := (List.take_append_drop t R).symm;generalize L.take s = a at *;generalize L.drop s = b at *;generalize R.take t = c at *;generalize R.drop t = d at *;subst hL;subst hR;simp only [List.append_assoc];refine List.Perm.append_left a ?_;rw [← List.append_assoc, ← List.append_assoc];exact List.Perm.append_right d (List.perm_append_comm)
theorem perm_one {x : α} {R : List α} (k : Nat) : (R.take k ++ x :: R.drop k).Perm (x :: R) := by
 refine List.perm_middle.trans ?_;rw [List.take_append_drop]
theorem perm_one' {x : α} {R : List α} (k : Nat) : (R.take k ++ x :: R.drop k).Perm (R ++ [x]) := (perm_one k).trans (List.perm_append_comm (l₁ := [x]) (l₂ := R))
theorem Thr.dn {P : List α} {x : α} {R Q l : List α} {i k : Nat} (h : Thr P x R Q (i + 1) l) (hi : i < R.length) (hk : k = P.length + i) :
  ∃ (h1 : k + 1 < l.length) (h2 : k < l.length), Thr P x R Q i ((l.set (k + 1) l[k]).set k l[k + 1]) := by
 obtain ⟨h1, h2, h3⟩ := h.down (k := k + 1) hi (by omega);exact ⟨h1, h2, h3⟩
theorem Thr.at_x {P : List α} {x : α} {R Q l : List α} {i k : Nat} (h : Thr P x R Q i l) (hi : i ≤ R.length) (hk : k = P.length + i) : ∃ hl : k < l.length, l[k] = x :=
 get_mid (p := P ++ R.take i) h (by simp; omega)
theorem Thr.at_lo {P : List α} {x : α} {R Q l : List α} {i k j : Nat} (h : Thr P x R Q i l) (hj : j < i) (hi : i ≤ R.length) (hk : k = P.length + j) : ∃ (hl : k < l.length) (hr : j < R.length), l[k] = R[j] := by
 obtain ⟨hl, e⟩ := get_in (P := P) (M := R.take i) (Q := x :: (R.drop i ++ Q)) (l := l) h (i := j) (by simp; omega) hk;exact ⟨hl, by omega, by rw [e, List.getElem_take]⟩
theorem Thr.ins {P : List α} {x : α} {R Q l : List α} {i : Nat} (h : Thr P x R Q i l) : l = P ++ (R.take i ++ x :: R.drop i) ++ Q := by
 rw [h]; simp
theorem lt_le {x : α} {R : List α} {i : Nat} (h : Up key R) (hi : i ≤ R.length) (h2 : ∀ z ∈ R.drop i, key x < key z) (h1 : i = 0 ∨ ∃ h : i - 1 < R.length, key R[i - 1] ≤ key x) : Up key (R.take i ++ x :: R.drop i) := by
 refine one_up h hi h1 ?_;by_cases e : i = R.length
 ·exact .inl e
 ·refine .inr ⟨by omega, Int.le_of_lt (h2 _ ?_)⟩
  rw [List.drop_eq_getElem_cons (by omega)];exact List.mem_cons_self ..
theorem drop_one {x : α} {R : List α} {i : Nat} (hi : i < R.length) (h2 : ∀ z ∈ R.drop (i + 1), key x < key z) (h : key x < key R[i]) : ∀ z ∈ R.drop i, key x < key z := by
 rw [List.drop_eq_getElem_cons hi];intro z hz
 rcases List.mem_cons.1 hz with rfl | hz
 ·exact h
 ·exact h2 z hz
end Go.Proofs.YthpgjgmaamcaoaaDoor.Srt
end
section
namespace Go.Proofs.YthpgjgmaamcaoaaDoor.P
open Go.RowKit Go.Shelf Go.Proofs.YthpgjgmaamcaoaaDoorW.PrintWords Go.Proofs.YthpgjgmaamcaoaaDoorW.PrintLast Go.Proofs.YthpgjgmaamcaoaaDoorW.PrintMore Go.Proofs.YthpgjgmaamcaoaaDoor.Nm
set_option maxRecDepth 100000
set_option linter.unusedVariables false
structure WS (P : Program) (ops : Array Oper) (w : World) (Q : Act → Prop) (l : List Oper) (a : Act) : Prop where
 out : wpStill P ops w Q l a
theorem ws_step {P : Program} {ops : Array Oper} {w : World} {Q : Act → Prop} {a : Act} {o : Oper} {rest : List Oper}
  (h : ∀ K : Act → Prop, (∀ a, WS P ops w Q rest a → K a) → if Region.wanted o (yielded ops a.tmps) then o.still P a w K else K (a.put o.dst undef)) : WS P ops w Q (o :: rest) a :=
 ⟨wpStill_step (fun K hK => h K (fun a h => hK a h.out))⟩
theorem ws_nil {P : Program} {ops : Array Oper} {w : World} {Q : Act → Prop} {a : Act} (h : Q a) : WS P ops w Q [] a := ⟨wpStill_nil h⟩
theorem wp_region_ws {P : Program} {id : Nat} {Q : Exit → Act → World → Prop} {a : Act} {w : World} {l : List Oper} (n : Nat) (hm : P.follows .mixedOrders = true) (hB : Region.lexTailB .any l.toArray n = true)
  (h : WS P l.toArray { w with drawn := w.drawn + 1 } (fun a' => wpList P l.toArray Q (l.drop n) a' { w with drawn := w.drawn + 1 }) (l.take n) a) : (Code.region id l.toArray true).wp P Q a w := wp_region_still_tail n hm hB h.out
structure El where
 v : Int
 b : Bool
 A : Option Addr
 n : Nat
 c : Nat
def El.cs (e : El) : List Value := [.int .i64 e.v, .bool e.b, .slice e.A e.n e.c]
def Own3 (g : Nat) (W : World) (l : List El) : Prop := ∃ cur : Array Value, W.heap[g]? = some (.cells cur 44 (0, 0)) ∧ ∀ i (h : i < l.length), cur[i * 3]? = some (.int .i64 l[i].v) ∧ cur[i * 3 + 1]? = some (.bool l[i].b) ∧ cur[i * 3 + 2]? = some (.slice l[i].A l[i].n l[i].c)
def put3 (W : World) (g i : Nat) (e : El) : World := ((W.setCell ⟨g, i * 3, none⟩ (.int .i64 e.v)).setCell ⟨g, i * 3 + 1, none⟩ (.bool e.b)).setCell ⟨g, i * 3 + 2, none⟩ (.slice e.A e.n e.c)
section
variable {g : Nat} {W W' w : World} {l : List El}
theorem Own3.lt (h : Own3 g W l) : g < W.heap.size := by obtain ⟨cur, h, _⟩ := h; exact blk_lt h
theorem Own3.at0 (h : Own3 g W l) {i : Nat} (hi : i < l.length) : W.cell? ⟨g, i * 3, none⟩ = some (.int .i64 l[i].v) := by
 obtain ⟨cur, h, hc⟩ := h;rw [bceq h]; exact (hc i hi).1
theorem Own3.at1 (h : Own3 g W l) {i : Nat} (hi : i < l.length) : W.cell? ⟨g, i * 3 + 1, none⟩ = some (.bool l[i].b) := by
 obtain ⟨cur, h, hc⟩ := h;rw [bceq h]; exact (hc i hi).2.1
theorem Own3.at2 (h : Own3 g W l) {i : Nat} (hi : i < l.length) : W.cell? ⟨g, i * 3 + 2, none⟩ = some (.slice l[i].A l[i].n l[i].c) := by
 obtain ⟨cur, h, hc⟩ := h;rw [bceq h]; exact (hc i hi).2.2
theorem Own3.free (h : Own3 g W l) (i : Nat) : W.frozen? ⟨g, i, none⟩ = false := by
 obtain ⟨cur, h, _⟩ := h;exact bfz h i
theorem Own3.below (h : Own3 g W l) (hb : Below W.heap.size W W') : Own3 g W' l := by
 have hl := h.lt;obtain ⟨cur, h, hc⟩ := h;exact ⟨cur, (hb.block g hl).trans h, hc⟩
theorem Own3.keep {b : Nat} (h : Own3 g W l) (hb : Kbt W W' b none) (hn : g ≠ b) : Own3 g W' l := by
 obtain ⟨cur, h, hc⟩ := h;exact ⟨cur, hb.blk h hn (by simp), hc⟩
theorem Own3.put (h : Own3 g W l) {i : Nat} (hi : i < l.length) (e : El) : Own3 g (put3 W g i e) (l.set i e) := by
 obtain ⟨cur, h, hc⟩ := h
 have hs : ∀ j, j < 3 → i * 3 + j < cur.size := fun j hj => by
  have h2 := (Array.getElem?_eq_some_iff.1 (hc i hi).2.2).1
  omega
 refine ⟨_, blk_set (blk_set (blk_set h (i * 3) (.int .i64 e.v)) (i * 3 + 1) (.bool e.b)) (i * 3 + 2) (.slice e.A e.n e.c), fun j hj => ?_⟩;rw [List.length_set] at hj;by_cases hij : i = j
 ·subst hij
  have := hs 0 (by decide);have := hs 1 (by decide);have := hs 2 (by decide);simp only [Array.getElem?_setIfInBounds, Array.size_setIfInBounds, List.getElem_set_self];refine ⟨?_, ?_, ?_⟩
  ·rw [if_neg (by omega), if_neg (by omega), if_pos trivial, if_pos (by omega)]
  ·rw [if_neg (by omega), if_pos trivial, if_pos (by omega)]
  ·rw [if_pos trivial, if_pos (by omega)]
 ·obtain ⟨h0, h1, h2⟩ := hc j hj
  simp only [Array.getElem?_setIfInBounds, List.getElem_set_ne hij];refine ⟨?_, ?_, ?_⟩
  ·rw [if_neg (by omega), if_neg (by omega), if_neg (by omega)]; exact h0
  ·rw [if_neg (by omega), if_neg (by omega), if_neg (by omega)]; exact h1
  ·rw [if_neg (by omega), if_neg (by omega), if_neg (by omega)]; exact h2
theorem keep_put3 (h : Kbt w W g none) (i : Nat) (e : El) : Kbt w (put3 W g i e) g none := ((h.set_ _ _).set_ _ _).set_ _ _
theorem below_put3 (h : Below g w W) (i : Nat) (e : El) : Below g w (put3 W g i e) := ((h.setCell (p := ⟨g, _, none⟩) (Nat.le_refl g) _).setCell (p := ⟨g, _, none⟩) (Nat.le_refl g) _).setCell (p := ⟨g, _, none⟩) (Nat.le_refl g) _
end
def SPost (g : Nat) (w : World) (p : List El → Prop) (e : Ending) (w' : World) : Prop := e = .returned (.tuple #[]) ∧ ∃ l, p l ∧ Own3 g w' l ∧ Kbt w w' g none ∧ Below g w w'
theorem x64 {n : Nat} (h : n ≤ 100000) : wrap64 (n : Int) = n := by unfold wrap64; omega
theorem y64 {x : Int} {n : Nat} (e : x = n) (h : n ≤ 100000) : wrap64 x = n := by rw [e]; exact x64 h
theorem w64 {x : Int} {n : Nat} (e : x = n) (h : n ≤ 100000) : IntKind.i64.wrap x = n := by rw [e]; exact IntWalk.i64_in _ (by omega)
end Go.Proofs.YthpgjgmaamcaoaaDoor.P
end
section
namespace Go.Proofs.YthpgjgmaamcaoaaDoor.P
open Go.RowKit Go.Shelf Go.Proofs.YthpgjgmaamcaoaaDoorW.PrintWords Go.Proofs.YthpgjgmaamcaoaaDoorW.PrintLast Go.Proofs.YthpgjgmaamcaoaaDoorW.PrintMore Go.Proofs.YthpgjgmaamcaoaaDoor.Nm
set_option maxRecDepth 100000
set_option linter.unusedVariables false
set_option linter.unusedSimpArgs false
theorem infoP : (Tryd.prog.info? 44).map (fun i => (i.zero, i.size, i.bytes)) = some (some (.agg #[(.int .i64 0), (.bool false), (.slice none 0 0)]), 3, 40) := by kernel_rfl
theorem undP : Tryd.prog.underlying 25 = some (.slice 44) := by kernel_rfl
abbrev PE := List (S44 × El)
def Rp (ok : Nat → Prop) (W : World) (ps : PE) : Prop := ∀ p ∈ ps, Kd.FK k44 W ok p.1 p.2.cs
theorem Rp.below {ok : Nat → Prop} {W W' : World} {ps : PE} (h : Rp ok W ps) (hb : Below W.heap.size W W') : Rp ok W' ps := fun p hp => Kd.FK_below (h p hp) hb
theorem Rp.mono {ok ok' : Nat → Prop} {W : World} {ps : PE} (h : Rp ok W ps) (hm : ∀ k, ok k → ok' k) : Rp ok' W ps := fun p hp => Kd.FK_mono (h p hp) hm
theorem Rp.perm {ok : Nat → Prop} {W : World} {ps ps' : PE} (h : Rp ok W ps) (hp : ps'.Perm ps) : Rp ok W ps' := fun p hm => h p (hp.mem_iff.1 hm)
theorem Rp.step {n : Nat} {W W' : World} {ps : PE} (h : Rp (fun k => k < n) W ps) (hb : ∀ k, k < n → W'.heap[k]? = W.heap[k]?) : Rp (fun k => k < n) W' ps := fun p hp => Kd.FK_step (h p hp) (fun k hk _ => hb k hk)
theorem fk_el {ok : Nat → Prop} {W : World} {x : S44} {e : El} (h : Kd.FK k44 W ok x e.cs) : e.v = x.f0 ∧ e.b = x.f1.f0 ∧ e.n = x.f1.f1.length ∧ x.f1.f1.length ≤ e.c ∧ Kd.F (Kd.int .u32) W ok e.A x.f1.f1.length x.f1.f1 := by
 obtain ⟨A, c, he, hl, hF⟩ := k44_openF h;unfold El.cs at he;simp only [List.cons.injEq, Value.int.injEq, Value.bool.injEq, Value.slice.injEq, true_and, and_true] at he;obtain ⟨h1, h2, h3, h4, h5⟩ := he;exact ⟨h1, h2, h4, h5 ▸ hl, h3 ▸ hF⟩
theorem el_fk {ok : Nat → Prop} {W : World} {x : S44} {e : El} (h1 : e.v = x.f0) (h2 : e.b = x.f1.f0) (h3 : e.n = x.f1.f1.length) (h4 : x.f1.f1.length ≤ e.c) (h5 : Kd.F (Kd.int .u32) W ok e.A x.f1.f1.length x.f1.f1) : Kd.FK k44 W ok x e.cs := by
 have := k44_mkF W ok x h4 h5;unfold El.cs;rw [h1, h2, h3];exact this
theorem cs_flat : ∀ (l : List El), (l.flatMap El.cs).length = l.length * 3
 | [] => rfl
 | e :: l => by rw [List.flatMap_cons, List.length_append, cs_flat l, List.length_cons]; simp [El.cs]; omega
theorem cs_get : ∀ (l : List El) (i j : Nat) (hi : i < l.length) (hj : j < 3), (l.flatMap El.cs)[i * 3 + j]? = l[i].cs[j]?
 | e :: l, 0, j, _, hj => by rw [List.flatMap_cons, List.getElem?_append_left (by simp [El.cs]; omega)]; simp
 | e :: l, i + 1, j, hi, hj => by
  rw [List.flatMap_cons, List.getElem?_append_right (by simp [El.cs]; omega), show (i + 1) * 3 + j - e.cs.length = i * 3 + j by simp [El.cs]; omega, cs_get l i j (by simpa using hi) hj]
  rfl
theorem cs_one (l : List El) : ∀ u ∈ l.flatMap El.cs, u.oneCell' = true := by
 intro u hu;obtain ⟨e, _, hu⟩ := List.mem_flatMap.1 hu;simp only [El.cs, List.mem_cons, List.not_mem_nil, or_false] at hu
 rcases hu with rfl | rfl | rfl <;> rfl
theorem els_of {ok : Nat → Prop} {W : World} {A : Option Addr} {xs : List S44} (h : Kd.F k44 W ok A xs.length xs) : ∃ ps : PE, ps.map Prod.fst = xs ∧ Rp ok W ps ∧ ∀ ad, A = some ad → ∀ j u, ((ps.map Prod.snd).flatMap El.cs)[j]? = some u → W.cell? (ad.add j) = some u := by
 have key : ∀ i : Fin xs.length, ∃ e : El, Kd.FK k44 W ok xs[i.1] e.cs ∧ ∀ ad, A = some ad → ∀ j u, e.cs[j]? = some u → W.cell? (ad.add (i.1 * 3 + j)) = some u := by
  intro i;obtain ⟨ad, cs, hA, -, hK, hcc, -⟩ := Kd.F_get h z44 (i.1 : Int) (by omega) (by have := i.2; omega)
  have hx : xs.getD (i.1 : Int).toNat z44 = xs[i.1] := by simp [i.2]
  rw [hx] at hK;obtain ⟨A2, c2, rfl, l2, g2⟩ := k44_openF hK;refine ⟨⟨xs[i.1].f0, xs[i.1].f1.f0, A2, xs[i.1].f1.f1.length, c2⟩, hK, fun ad' hA' j u hu => ?_⟩;have e := hA.symm.trans hA'
  injection e with e
  subst e;exact hcc j u hu
 let f : Fin xs.length → El := fun i => Classical.choose (key i)
 have hf : ∀ i, Kd.FK k44 W ok xs[i.1] (f i).cs ∧ ∀ ad, A = some ad → ∀ j u, (f i).cs[j]? = some u → W.cell? (ad.add (i.1 * 3 + j)) = some u := fun i => Classical.choose_spec (key i)
 refine ⟨List.ofFn (fun i : Fin xs.length => (xs[i.1], f i)), ?_, ?_, ?_⟩
 ·refine List.ext_getElem (by simp) (fun i h1 h2 => ?_)
  simp
 ·intro p hp
  obtain ⟨i, rfl⟩ := List.mem_ofFn.1 hp;exact (hf i).1
 ·intro ad hA j u hu
  have hl : (List.map Prod.snd (List.ofFn (fun i : Fin xs.length => (xs[i.1], f i)))).length = xs.length := by simp
  have hj := (List.getElem?_eq_some_iff.1 hu).1;rw [cs_flat, hl] at hj
  have hij : j / 3 < xs.length := by omega
  have e := cs_get _ (j / 3) (j % 3) (by rw [hl]; exact hij) (by omega);rw [show j / 3 * 3 + j % 3 = j by omega] at e;rw [e] at hu;have := (hf ⟨j / 3, hij⟩).2 ad hA (j % 3) u (by simpa using hu);rw [show j / 3 * 3 + j % 3 = j by omega] at this;exact this
theorem perm_lift {α β : Type} {f : α → β} {l l' : List β} (h : l'.Perm l) : ∀ {ps : List α}, ps.map f = l → ∃ ps', List.Perm ps' ps ∧ ps'.map f = l' := by
 induction h with
 | nil => intro ps h; exact ⟨ps, List.Perm.refl _, h⟩
 | cons x _ ih =>
  intro ps h;obtain ⟨p, ps2, rfl, hx, h2⟩ := List.map_eq_cons_iff.1 h;obtain ⟨ps', hp, he⟩ := ih h2;exact ⟨p :: ps', hp.cons p, by rw [List.map_cons, he, hx]⟩
 | swap x y l =>
  intro ps h;obtain ⟨p, ps2, rfl, hx, h2⟩ := List.map_eq_cons_iff.1 h;obtain ⟨q, ps3, rfl, hy, h3⟩ := List.map_eq_cons_iff.1 h2;exact ⟨q :: p :: ps3, List.Perm.swap _ _ _, by rw [List.map_cons, List.map_cons, hx, hy, h3]⟩
 | trans _ _ ih1 ih2 =>
  intro ps h;obtain ⟨ps1, hp1, e1⟩ := ih2 h;obtain ⟨ps2, hp2, e2⟩ := ih1 e1;exact ⟨ps2, hp2.trans hp1, e2⟩
theorem own3_of {W : World} {base n : Nat} {g cap : Nat} {l : List El} (h : W.ownsRow base 44 3 (.slice (some ⟨g, 0, none⟩) n cap) n (l.flatMap El.cs)) (hn : n = l.length) : Own3 g W l := by
 obtain ⟨h1, h2⟩ := h
 rcases h2 with ⟨h2, _⟩ | ⟨g', cap', cur, he, hb, hc, hle, hm, hs, ht⟩
 ·cases h2
 ·simp only [Value.slice.injEq, Option.some.injEq, Addr.mk.injEq, and_true, true_and] at he
  obtain ⟨rfl, rfl⟩ := he;refine ⟨cur, hc, fun i hi => ?_⟩
  have key : ∀ j, j < 3 → cur[i * 3 + j]? = l[i].cs[j]? := fun j hj => by
   rw [← cs_get l i j hi hj, ← ht, List.getElem?_take_of_lt (by omega), Array.getElem?_toList]
  exact ⟨key 0 (by decide), key 1 (by decide), key 2 (by decide)⟩
def ClPost (w : World) (ps : PE) (e : Ending) (w' : World) : Prop := (Below w.heap.size w w' ∧ ∃ v1, e = .returned v1 ∧ w'.ownsRow w.heap.size 44 3 v1 ps.length ((ps.map Prod.snd).flatMap El.cs)) ∧ ((e = .returned (.slice none 0 0) ∧ ps = []) ∨ ∃ g cap, e = .returned (.slice (some ⟨g, 0, none⟩) ps.length cap) ∧ w.heap.size ≤ g ∧ ps.length ≤ cap ∧ Own3 g w' (ps.map Prod.snd))
set_option maxHeartbeats 1600000 in
theorem sl_Clone {ok : Nat → Prop} (v : Value) (xs : List S44) (w : World) (h : Cv k44 ok w v xs) (hl : xs.length ≤ 1000) :
  ∃ ps : PE, ps.map Prod.fst = xs ∧ Rp ok w ps ∧ Calls Tryd.prog 46 #[v] w (ClPost w ps) := by
 obtain ⟨A, c, rfl, hc, hF⟩ := h;obtain ⟨ps, hps, hR, hcell⟩ := els_of hF;refine ⟨ps, hps, hR, ?_⟩
 have hln : ps.length = xs.length := by rw [← hps]; simp
 cases A with
 | none =>
  have h0 : xs = [] := by
   cases xs with
   | nil => rfl
   | cons x xs =>
    obtain ⟨ad, _, hA, _⟩ := Kd.F_get hF z44 (0 : Int) (by omega) (by simp);cases hA
  subst h0;have hp0 : ps = [] := List.eq_nil_of_length_eq_zero hln;have hp := Sdq.mk hp0;clear hF hcell hps hR hln hp0
  have q25 : ∀ (w : World) (a : Option Addr) (n c n' c' : Nat), (binOp .eql 25 (.slice a n c) (.slice none n' c')).run Tryd.prog w = .ok (.bool a.isNone) w := fun w a n c n' c' => Lib.run_eql_slice_nil w _ _ a n c n' c' undP
  go_enter Tryd.func46, Tryd.ntmps46
  go_wp2_with fail
  go_ret;exact ⟨⟨Below.refl _ _, _, rfl, by rw [hp.out]; exact World.ownsRow_nil _ _ _ _⟩, .inl ⟨rfl, hp.out⟩⟩
 | some ad =>
  have hcl := Sdq.mk (hcell ad rfl);have hO0 := Sdq.mk (World.ownsRow_made (base := w.heap.size) (e := 44) (size := 3) w #[] 0 (Nat.le_refl _) (by decide) rfl);obtain ⟨i0, hi, hzz⟩ := Option.map_eq_some_iff.1 infoP;simp only [Prod.mk.injEq] at hzz;obtain ⟨hz1, hz2, hz3⟩ := hzz;have hHI := Sdq.mk (And.intro hi (And.intro hz1 (And.intro hz2 hz3)));have hfl := Sdq.mk (show ((ps.map Prod.snd).flatMap El.cs).length = xs.length * 3 by rw [cs_flat, List.length_map, hln]);have hl2 := Sdq.mk (And.intro hln hl);clear hF hcell hps hR hln hi hz1 hz2 hz3 hl
  have q25 : ∀ (w : World) (a : Option Addr) (n c n' c' : Nat), (binOp .eql 25 (.slice a n c) (.slice none n' c')).run Tryd.prog w = .ok (.bool a.isNone) w := fun w a n c n' c' => Lib.run_eql_slice_nil w _ _ a n c n' c' undP
  go_enter Tryd.func46, Tryd.ntmps46
  have hnews : ∀ j u, ((ps.map Prod.snd).flatMap El.cs)[j]? = some u → (w.alloc (.cells #[] 44)).cell? (ad.add j) = some u := fun j u hu => pw_cell_below (bal (Below.refl _ _) _) (hcl.out j u hu)
  have hnews := Sdq.mk hnews;have hone := Sdq.mk (cs_one (ps.map Prod.snd));have hnw := Sdq.mk (show ∀ W g cap, W.ownsRow w.heap.size 44 3 (.slice (some ⟨g, 0, none⟩) xs.length cap) xs.length ((ps.map Prod.snd).flatMap El.cs) → Own3 g W (ps.map Prod.snd) from fun W g cap h => own3_of h (by rw [List.length_map]; exact hl2.out.1.symm))
  obtain ⟨news, enx⟩ : ∃ n, n = (ps.map Prod.snd).flatMap El.cs := ⟨_, rfl⟩
  rw [← enx] at hcl hfl hnews hone hnw;have hnx := Sdq.mk enx;clear enx
  go_wp2_with (first
   | ((with_reducible refine gate_builtin (b := .append) (xs := #[.tmp 5, .tmp 6]) rfl ?_); at_builtin; refine wpList_append_own_at _ rfl (.tmp 5) (.tmp 6) 25 rfl w.heap.size 44 i0 _ 3 40 undP hHI.out.1 hHI.out.2.1 hHI.out.2.2.1 hHI.out.2.2.2 rfl (by decide) (.slice (some ⟨w.heap.size, 0, none⟩) 0 0) 0 [] rfl hO0.out ad xs.length c news rfl hfl.out hnews.out hone.out (by have := hl2.out; simp only [maxLen]; omega) (by have := hl2.out; omega) (by simp) ?_; intro v1 w1 hown hg hnil hat; have hown := Sdq.mk hown; have hg := Sdq.mk hg; have hnil := Sdq.mk hnil; have hat := Sdq.mk hat))
  have HE := Sdq.mk (show (Below w.heap.size w w1 ∧ w1.ownsRow w.heap.size 44 3 v1 ps.length news) ∧ ∃ g cap, v1 = .slice (some ⟨g, 0, none⟩) ps.length cap ∧ w.heap.size ≤ g ∧ ps.length ≤ cap ∧ Own3 g w1 (ps.map Prod.snd) by
   have ho := hown.out;rw [Nat.zero_add] at ho;refine ⟨⟨(bal (Below.refl _ _) (.cells #[] 44)).grown hg.out (by simp) (fun k hk => ?_), by rw [hl2.out.1]; exact ho⟩, ?_⟩
   ·simp only [Value.ownBlock, Option.some.injEq] at hk
    omega
   ·have ho' := ho
    rcases ho.2 with ⟨e, _⟩ | ⟨g, cap, cur, e, hb, hc, hle, -⟩
    ·exact absurd (hnil.out.1 e).1 (by simp)
    ·subst e
     rw [hl2.out.1]
     exact ⟨g, cap, rfl, hb, hle, hnw.out w1 g cap ho'⟩)
  clear hown hg hnil hat;go_ret;obtain ⟨hb, g, cap, rfl, h1, h2, h3⟩ := HE.out;exact ⟨⟨hb.1, _, rfl, hnx.out.symm ▸ hb.2⟩, .inr ⟨g, cap, rfl, h1, h2, h3⟩⟩
end Go.Proofs.YthpgjgmaamcaoaaDoor.P
end
section
namespace Go.Proofs.YthpgjgmaamcaoaaDoor.P
open Go.RowKit Go.Shelf Go.Proofs.YthpgjgmaamcaoaaDoorW.PrintWords Go.Proofs.YthpgjgmaamcaoaaDoorW.PrintLast Go.Proofs.YthpgjgmaamcaoaaDoorW.PrintMore Go.Proofs.YthpgjgmaamcaoaaDoor.Nm
set_option maxRecDepth 100000
set_option linter.unusedVariables false
set_option linter.unusedSimpArgs false
theorem sl_swapRange.tab3 : tabOf (opsOf Tryd.f112 3) = ([some 16, some 17, some 18, some 19, some 20, some 21, some 22, some 23, some 24, some 25, some 26, some 27, some 28, some 29, some 30, some 31, some 32, some 33, some 34, some 35, some 36, none, some 37, none], [[], [], [], [1, 2], [], [], [], [5, 6], [], [], [], [9, 10], [8, 11], [12], [], [], [], [15, 16], [14, 17], [18], [0, 3, 0, 1, 2, 3, 8, 9, 10, 11, 12, 13, 19], [20, 13, 0, 1, 2, 3, 8, 9, 10, 11, 12, 13, 19], [4, 7, 0, 1, 2, 3, 4, 5, 6, 7, 8, 9, 10, 11, 12, 13, 14, 15, 16, 17, 18, 19, 20, 21], [22, 19, 21, 0, 1, 2, 3, 4, 5, 6, 7, 8, 9, 10, 11, 12, 13, 14, 15, 16, 17, 18, 19, 20, 21]]) := by kernel_rfl
set_option maxHeartbeats 1600000 in
theorem sl_swapRange (g cap a b n N : Nat) (P X M Y Q : List El) (fv : Value) (w : World) (hO : Own3 g w (P ++ X ++ M ++ Y ++ Q)) (hN : N = (P ++ X ++ M ++ Y ++ Q).length) (hl : N ≤ 1000) (ha : a = P.length) (hb : b = P.length + X.length + M.length) (hx : X.length = n) (hy : Y.length = n) :
  Calls Tryd.prog 112 #[.slice (some ⟨g, 0, none⟩) N cap, .int .i64 a, .int .i64 b, .int .i64 n, fv] w (SPost g w (fun l => l = P ++ Y ++ M ++ X ++ Q)) := by
 have hN' : N = P.length + X.length + M.length + Y.length + Q.length := by rw [hN]; simp; omega
 have hO := Sdq.mk hO;have hR := Sdq.mk (Srt.RS.zero P X M Y Q);clear hN;generalize P ++ X ++ M ++ Y ++ Q = l0 at hO hR;go_enter Tryd.func112, Tryd.ntmps112
 go_wp2_with fail
 go_loopg [10] n (fun gk s10 wr => ∃ (i : Nat) (l : List El), gk + i = n ∧ s10 = .int .i64 i ∧ Sdq (Srt.RS P X M Y Q i l) ∧ Sdq (Own3 g wr l) ∧ Sdq (Kbt w wr g none ∧ Below g w wr))
 case atStart => exact ⟨0, l0, rfl, rfl, hR, hO, ⟨Kbt.refl _ _ _, Below.refl _ _⟩⟩
 case round =>
  clear hO hR;obtain ⟨i, l, hg, rfl, hR, hO, hK⟩ := hrel
  cases gk with
  | zero =>
   obtain rfl : i = n := by omega
   go_wp2
   go_end0
   exact ⟨rfl, l, hR.out.done hx hy, hO.out, hK.out.1, hK.out.2⟩
  | succ j =>
   have hin : i < n := by omega
   obtain ⟨i1, i2, hnx⟩ := hR.out.step (a := a + i) (b := b + i) (by omega) (by omega) (by omega) (by omega) (by omega);have hln := hR.out.len (by omega) (by omega)
   obtain ⟨ea, eaE⟩ : ∃ e, e = l[a + i] := ⟨_, rfl⟩
   obtain ⟨eb, ebE⟩ : ∃ e, e = l[b + i] := ⟨_, rfl⟩
   rw [← eaE, ← ebE] at hnx
   obtain ⟨X0, X0e⟩ : ∃ X, X = { wr with drawn := wr.drawn + 1 } := ⟨_, rfl⟩
   have hb0 : Below wr.heap.size wr X0 := by rw [X0e]; exact below_drew (Below.refl _ _)
   have O0 := hO.out.below hb0
   obtain ⟨X1, X1e⟩ : ∃ X, X = put3 X0 g (a + i) eb := ⟨_, rfl⟩
   obtain ⟨X2, X2e⟩ : ∃ X, X = put3 X1 g (b + i) ea := ⟨_, rfl⟩
   have O1 : Own3 g X1 (l.set (a + i) eb) := by rw [X1e]; exact O0.put i1 eb
   have j2 : b + i < (l.set (a + i) eb).length := by rw [List.length_set]; exact i2
   have O2 : Own3 g X2 ((l.set (a + i) eb).set (b + i) ea) := by rw [X2e]; exact O1.put j2 ea
   have HA := Sdq.mk (And.intro (O0.at0 i1) (And.intro (O0.at1 i1) (O0.at2 i1)));have HB := Sdq.mk (And.intro (O0.at0 i2) (And.intro (O0.at1 i2) (O0.at2 i2)));rw [← eaE] at HA;rw [← ebE] at HB;have HP := Sdq.mk (And.intro (O0.at0 i1) (And.intro (O0.at1 i1) (O0.at2 i1)));have HQ := Sdq.mk (And.intro (O1.at0 j2) (And.intro (O1.at1 j2) (O1.at2 j2)));generalize (l.set (a + i) eb)[b + i] = eq_ at HQ;generalize l[a + i] = ep_ at HP;have FP := Sdq.mk (And.intro (O0.free ((a + i) * 3)) (And.intro (O0.free ((a + i) * 3 + 1)) (O0.free ((a + i) * 3 + 2))));have FQ := Sdq.mk (And.intro (O1.free ((b + i) * 3)) (And.intro (O1.free ((b + i) * 3 + 1)) (O1.free ((b + i) * 3 + 2))));have HEND := Sdq.mk (And.intro O2 (And.intro (show Kbt w X2 g none by rw [X2e, X1e]; exact keep_put3 (keep_put3 (hK.out.1.trans (Kbt.of_below hb0 g none) (.inl rfl)) _ _) _ _) (show Below g w X2 by rw [X2e, X1e]; exact below_put3 (below_put3 (hK.out.2.trans (hb0.mono (by have := hO.out.lt; omega))) _ _) _ _)));have HNX := Sdq.mk hnx;have X0E := Sdq.mk X0e;have X1E := Sdq.mk X1e;have X2E := Sdq.mk X2e;clear hb0 O0 O1 O2 hO hK eaE ebE j2 hnx X0e X1e X2e
   have i1' : a + i < N := by omega
   have wA := IntWalk.i64_in ((a : Int) + i) (by omega);have wB := IntWalk.i64_in ((b : Int) + i) (by omega)
   have nA : 0 ≤ (a : Int) + i ∧ (a : Int) + i < (N : Int) := by omega
   have nB : 0 ≤ (b : Int) + i ∧ (b : Int) + i < (N : Int) := by omega
   have tA : ((a : Int) + i).toNat = a + i := by omega
   have tB : ((b : Int) + i).toNat = b + i := by omega
   have i2' : b + i < N := by omega
   clear hR hln i1 i2 hN' ha hb hx hy
   go_upto_region 3 with fail
   refine wpIn_wide.1 (flowIn (n := 3) (m := 24) sl_swapRange.tab3 rfl (fun l w => ((l 23 = true → l 21 = true) ∧ (l 21 = true → l 13 = true ∧ l 19 = true)) ∧ w = if l 23 = true then X2 else if l 21 = true then X1 else X0) (fun ix_ => (#[.slice (some ⟨g, 0, none⟩) N cap, .int .i64 (a : Int), .int .i64 (i : Int), .int .i64 ((a : Int) + i), .slice (some ⟨g, 0, none⟩) N cap, .int .i64 (b : Int), .int .i64 (i : Int), .int .i64 ((b : Int) + i), .slice (some ⟨g, 0, none⟩) N cap, .int .i64 (b : Int), .int .i64 (i : Int), .int .i64 ((b : Int) + i), .pointer (some ⟨g, (b + i) * 3, none⟩), .agg #[.int .i64 eb.v, .bool eb.b, .slice eb.A eb.n eb.c], .slice (some ⟨g, 0, none⟩) N cap, .int .i64 (a : Int), .int .i64 (i : Int), .int .i64 ((a : Int) + i), .pointer (some ⟨g, (a + i) * 3, none⟩), .agg #[.int .i64 ea.v, .bool ea.b, .slice ea.A ea.n ea.c], .pointer (some ⟨g, (a + i) * 3, none⟩), undef, .pointer (some ⟨g, (b + i) * 3, none⟩), undef] : Array Value).getD ix_ undef) rfl (by kernel_rfl) (fun l l' w hl h => by rw [← hl 13 (by decide), ← hl 19 (by decide), ← hl 21 (by decide), ← hl 23 (by decide)]; exact h) ⟨by simp, by rw [X0E.out]; rfl⟩ ⟨⟨⟨⟨⟨⟨⟨⟨⟨⟨⟨⟨⟨⟨⟨⟨⟨⟨⟨⟨⟨⟨⟨⟨trivial, ?_⟩, ?_⟩, ?_⟩, ?_⟩, ?_⟩, ?_⟩, ?_⟩, ?_⟩, ?_⟩, ?_⟩, ?_⟩, ?_⟩, ?_⟩, ?_⟩, ?_⟩, ?_⟩, ?_⟩, ?_⟩, ?_⟩, ?_⟩, ?_⟩, ?_⟩, ?_⟩, ?_⟩ ?_)
   ·refine AtIn.of _ rfl rfl (fun lq ac w hC hli hd hb K hK => ?_)
    have b0 : ac.tmps[0]? = some (.slice (some ⟨g, 0, none⟩) N cap) := hb 0 (by decide);have hk := hK.out w (by simpa using hC);clear hK hC hd hb HEND HNX X0E X1E X2E
    go_simp
    first | exact hk | simpa using hk
   ·refine AtIn.of _ rfl rfl (fun lq ac w hC hli hd hb K hK => ?_)
    have b1 : ac.tmps[1]? = some (.int .i64 (a : Int)) := hb 1 (by decide);have hk := hK.out w (by simpa using hC);clear hK hC hd hb HEND HNX X0E X1E X2E
    go_simp
    first | exact hk | simpa using hk
   ·refine AtIn.of _ rfl rfl (fun lq ac w hC hli hd hb K hK => ?_)
    have b10 : ac.tmps[10]? = some (.int .i64 (i : Int)) := hb 10 (by decide);have hk := hK.out w (by simpa using hC);clear hK hC hd hb HEND HNX X0E X1E X2E
    go_simp
    first | exact hk | simpa using hk
   ·refine AtIn.of _ rfl rfl (fun lq ac w hC hli hd hb K hK => ?_)
    have q17 : ac.tmps[17]? = some (.int .i64 (a : Int)) := (hd 1 (by decide)).2 17 rfl;have q18 : ac.tmps[18]? = some (.int .i64 (i : Int)) := (hd 2 (by decide)).2 18 rfl;have hk := hK.out w (by simpa using hC);clear hK hC hd hb HEND HNX X0E X1E X2E
    go_simp
    first | exact hk | simpa using hk
   ·refine AtIn.of _ rfl rfl (fun lq ac w hC hli hd hb K hK => ?_)
    have b0 : ac.tmps[0]? = some (.slice (some ⟨g, 0, none⟩) N cap) := hb 0 (by decide);have hk := hK.out w (by simpa using hC);clear hK hC hd hb HEND HNX X0E X1E X2E
    go_simp
    first | exact hk | simpa using hk
   ·refine AtIn.of _ rfl rfl (fun lq ac w hC hli hd hb K hK => ?_)
    have b2 : ac.tmps[2]? = some (.int .i64 (b : Int)) := hb 2 (by decide);have hk := hK.out w (by simpa using hC);clear hK hC hd hb HEND HNX X0E X1E X2E
    go_simp
    first | exact hk | simpa using hk
   ·refine AtIn.of _ rfl rfl (fun lq ac w hC hli hd hb K hK => ?_)
    have b10 : ac.tmps[10]? = some (.int .i64 (i : Int)) := hb 10 (by decide);have hk := hK.out w (by simpa using hC);clear hK hC hd hb HEND HNX X0E X1E X2E
    go_simp
    first | exact hk | simpa using hk
   ·refine AtIn.of _ rfl rfl (fun lq ac w hC hli hd hb K hK => ?_)
    have q21 : ac.tmps[21]? = some (.int .i64 (b : Int)) := (hd 5 (by decide)).2 21 rfl;have q22 : ac.tmps[22]? = some (.int .i64 (i : Int)) := (hd 6 (by decide)).2 22 rfl;have hk := hK.out w (by simpa using hC);clear hK hC hd hb HEND HNX X0E X1E X2E
    go_simp
    first | exact hk | simpa using hk
   ·refine AtIn.of _ rfl rfl (fun lq ac w hC hli hd hb K hK => ?_)
    have b0 : ac.tmps[0]? = some (.slice (some ⟨g, 0, none⟩) N cap) := hb 0 (by decide);have hk := hK.out w (by simpa using hC);clear hK hC hd hb HEND HNX X0E X1E X2E
    go_simp
    first | exact hk | simpa using hk
   ·refine AtIn.of _ rfl rfl (fun lq ac w hC hli hd hb K hK => ?_)
    have b2 : ac.tmps[2]? = some (.int .i64 (b : Int)) := hb 2 (by decide);have hk := hK.out w (by simpa using hC);clear hK hC hd hb HEND HNX X0E X1E X2E
    go_simp
    first | exact hk | simpa using hk
   ·refine AtIn.of _ rfl rfl (fun lq ac w hC hli hd hb K hK => ?_)
    have b10 : ac.tmps[10]? = some (.int .i64 (i : Int)) := hb 10 (by decide);have hk := hK.out w (by simpa using hC);clear hK hC hd hb HEND HNX X0E X1E X2E
    go_simp
    first | exact hk | simpa using hk
   ·refine AtIn.of _ rfl rfl (fun lq ac w hC hli hd hb K hK => ?_)
    have q25 : ac.tmps[25]? = some (.int .i64 (b : Int)) := (hd 9 (by decide)).2 25 rfl;have q26 : ac.tmps[26]? = some (.int .i64 (i : Int)) := (hd 10 (by decide)).2 26 rfl;have hk := hK.out w (by simpa using hC);clear hK hC hd hb HEND HNX X0E X1E X2E
    go_simp
    first | exact hk | simpa using hk
   ·refine AtIn.of _ rfl rfl (fun lq ac w hC hli hd hb K hK => ?_)
    have q24 : ac.tmps[24]? = some (.slice (some ⟨g, 0, none⟩) N cap) := (hd 8 (by decide)).2 24 rfl;have q27 : ac.tmps[27]? = some (.int .i64 ((b : Int) + i)) := (hd 11 (by decide)).2 27 rfl;have hk := hK.out w (by simpa using hC);clear hK hC hd hb HEND HNX X0E X1E X2E
    go_simp
    first | exact hk | simpa using hk
   ·refine AtIn.of _ rfl rfl (fun lq ac w hC hli hd hb K hK => ?_)
    have q28 : ac.tmps[28]? = some (.pointer (some ⟨g, (b + i) * 3, none⟩)) := (hd 12 (by decide)).2 28 rfl
    have h1 : lq 21 = false := by
     cases h : lq 21 with
     | false => rfl
     | true => exact absurd (hC.1.2 h).1 (by rw [hli]; decide)
    have h2 : lq 23 = false := by
     cases h : lq 23 with
     | false => rfl
     | true => exact absurd (hC.1.1 h) (by rw [h1]; decide)
    obtain rfl : w = X0 := by rw [hC.2, if_neg (by rw [h2]; decide), if_neg (by rw [h1]; decide)]
    have z := (HB).out;obtain ⟨z0, z1, z2⟩ := z;have hk := hK.out w ⟨⟨fun h => by simp [h2] at h, fun h => by simp [h1] at h⟩, by simp [h1, h2]⟩;clear hK hC hd hb HEND HNX X0E X1E X2E
    go_simp
    first | exact hk | simpa using hk
   ·refine AtIn.of _ rfl rfl (fun lq ac w hC hli hd hb K hK => ?_)
    have b0 : ac.tmps[0]? = some (.slice (some ⟨g, 0, none⟩) N cap) := hb 0 (by decide);have hk := hK.out w (by simpa using hC);clear hK hC hd hb HEND HNX X0E X1E X2E
    go_simp
    first | exact hk | simpa using hk
   ·refine AtIn.of _ rfl rfl (fun lq ac w hC hli hd hb K hK => ?_)
    have b1 : ac.tmps[1]? = some (.int .i64 (a : Int)) := hb 1 (by decide);have hk := hK.out w (by simpa using hC);clear hK hC hd hb HEND HNX X0E X1E X2E
    go_simp
    first | exact hk | simpa using hk
   ·refine AtIn.of _ rfl rfl (fun lq ac w hC hli hd hb K hK => ?_)
    have b10 : ac.tmps[10]? = some (.int .i64 (i : Int)) := hb 10 (by decide);have hk := hK.out w (by simpa using hC);clear hK hC hd hb HEND HNX X0E X1E X2E
    go_simp
    first | exact hk | simpa using hk
   ·refine AtIn.of _ rfl rfl (fun lq ac w hC hli hd hb K hK => ?_)
    have q31 : ac.tmps[31]? = some (.int .i64 (a : Int)) := (hd 15 (by decide)).2 31 rfl;have q32 : ac.tmps[32]? = some (.int .i64 (i : Int)) := (hd 16 (by decide)).2 32 rfl;have hk := hK.out w (by simpa using hC);clear hK hC hd hb HEND HNX X0E X1E X2E
    go_simp
    first | exact hk | simpa using hk
   ·refine AtIn.of _ rfl rfl (fun lq ac w hC hli hd hb K hK => ?_)
    have q30 : ac.tmps[30]? = some (.slice (some ⟨g, 0, none⟩) N cap) := (hd 14 (by decide)).2 30 rfl;have q33 : ac.tmps[33]? = some (.int .i64 ((a : Int) + i)) := (hd 17 (by decide)).2 33 rfl;have hk := hK.out w (by simpa using hC);clear hK hC hd hb HEND HNX X0E X1E X2E
    go_simp
    first | exact hk | simpa using hk
   ·refine AtIn.of _ rfl rfl (fun lq ac w hC hli hd hb K hK => ?_)
    have q34 : ac.tmps[34]? = some (.pointer (some ⟨g, (a + i) * 3, none⟩)) := (hd 18 (by decide)).2 34 rfl
    have h1 : lq 21 = false := by
     cases h : lq 21 with
     | false => rfl
     | true => exact absurd (hC.1.2 h).2 (by rw [hli]; decide)
    have h2 : lq 23 = false := by
     cases h : lq 23 with
     | false => rfl
     | true => exact absurd (hC.1.1 h) (by rw [h1]; decide)
    obtain rfl : w = X0 := by rw [hC.2, if_neg (by rw [h2]; decide), if_neg (by rw [h1]; decide)]
    have z := (HA).out;obtain ⟨z0, z1, z2⟩ := z;have hk := hK.out w ⟨⟨fun h => by simp [h2] at h, fun h => by simp [h1] at h⟩, by simp [h1, h2]⟩;clear hK hC hd hb HEND HNX X0E X1E X2E
    go_simp
    first | exact hk | simpa using hk
   ·refine AtIn.of _ rfl rfl (fun lq ac w hC hli hd hb K hK => ?_)
    have q16 : ac.tmps[16]? = some (.slice (some ⟨g, 0, none⟩) N cap) := (hd 0 (by decide)).2 16 rfl;have q19 : ac.tmps[19]? = some (.int .i64 ((a : Int) + i)) := (hd 3 (by decide)).2 19 rfl;have hk := hK.out w (by simpa using hC);clear hK hC hd hb HEND HNX X0E X1E X2E
    go_simp
    first | exact hk | simpa using hk
   ·refine AtIn.of _ rfl rfl (fun lq ac w hC hli hd hb K hK => ?_)
    have q36 : ac.tmps[36]? = some (.pointer (some ⟨g, (a + i) * 3, none⟩)) := (hd 20 (by decide)).2 36 rfl;have q29 : ac.tmps[29]? = some (.agg #[.int .i64 eb.v, .bool eb.b, .slice eb.A eb.n eb.c]) := (hd 13 (by decide)).2 29 rfl
    have h2 : lq 23 = false := by
     cases h : lq 23 with
     | false => rfl
     | true => exact absurd (hC.1.1 h) (by rw [hli]; decide)
    obtain rfl : w = X0 := by rw [hC.2, if_neg (by rw [h2]; decide), if_neg (by rw [hli]; decide)]
    obtain ⟨z0, z1, z2⟩ := HP.out;obtain ⟨f0, f1, f2⟩ := FP.out;have hk := hK.out X1 ⟨⟨fun _ => by simp, fun _ => by simp; exact ⟨(hd 13 (by decide)).1, (hd 19 (by decide)).1⟩⟩, by simp [h2]⟩;rw [X1E.out] at hk;unfold put3 at hk;clear hK hC hd hb HEND HNX X0E X1E X2E
    go_simp
    first | exact hk | simpa using hk
   ·refine AtIn.of _ rfl rfl (fun lq ac w hC hli hd hb K hK => ?_)
    have q20 : ac.tmps[20]? = some (.slice (some ⟨g, 0, none⟩) N cap) := (hd 4 (by decide)).2 20 rfl;have q23 : ac.tmps[23]? = some (.int .i64 ((b : Int) + i)) := (hd 7 (by decide)).2 23 rfl;have hk := hK.out w (by simpa using hC);clear hK hC hd hb HEND HNX X0E X1E X2E
    go_simp
    first | exact hk | simpa using hk
   ·refine AtIn.of _ rfl rfl (fun lq ac w hC hli hd hb K hK => ?_)
    have q37 : ac.tmps[37]? = some (.pointer (some ⟨g, (b + i) * 3, none⟩)) := (hd 22 (by decide)).2 37 rfl;have q35 : ac.tmps[35]? = some (.agg #[.int .i64 ea.v, .bool ea.b, .slice ea.A ea.n ea.c]) := (hd 19 (by decide)).2 35 rfl;have h1 : lq 21 = true := (hd 21 (by decide)).1
    obtain rfl : w = X1 := by rw [hC.2, if_neg (by rw [hli]; decide), if_pos h1]
    obtain ⟨z0, z1, z2⟩ := HQ.out;obtain ⟨f0, f1, f2⟩ := FQ.out;have hk := hK.out X2 ⟨⟨fun _ => by simp [h1], fun _ => by simp; exact ⟨(hd 13 (by decide)).1, (hd 19 (by decide)).1⟩⟩, by simp⟩;rw [X2E.out] at hk;unfold put3 at hk;clear hK hC hd hb HEND HNX X0E X1E X2E
    go_simp
    first | exact hk | simpa using hk
   ·rintro w ⟨-, hw⟩
    rw [if_pos rfl] at hw;simp only [fill, Act.put, if_true, List.getD_eq_getElem?_getD, List.setIfInBounds_toArray, List.set_cons_zero, List.set_cons_succ];clear HA HB HP HQ FP FQ X0E X1E X2E;rw [hw];clear hw
    go_wp2_with fail
    go_roundg j
    case measure => omega
    case rel => exact ⟨i + 1, _, by omega, by go_num, HNX, ⟨HEND.out.1⟩, ⟨HEND.out.2⟩⟩
end Go.Proofs.YthpgjgmaamcaoaaDoor.P
end
section
namespace Go.Proofs.YthpgjgmaamcaoaaDoor.P
open Go.RowKit Go.Shelf Go.Proofs.YthpgjgmaamcaoaaDoorW.PrintWords Go.Proofs.YthpgjgmaamcaoaaDoorW.PrintLast Go.Proofs.YthpgjgmaamcaoaaDoorW.PrintMore Go.Proofs.YthpgjgmaamcaoaaDoor.Nm
set_option maxRecDepth 100000
set_option linter.unusedVariables false
set_option linter.unusedSimpArgs false
set_option maxHeartbeats 1600000 in
theorem sl_rotate (g cap a m b N : Nat) (P U V Q : List El) (fv : Value) (w : World) (hO : Own3 g w (P ++ U ++ V ++ Q)) (hN : N = (P ++ U ++ V ++ Q).length) (hl : N ≤ 1000) (ha : a = P.length) (hm : m = P.length + U.length) (hb : b = P.length + U.length + V.length) (hU : 0 < U.length) (hV : 0 < V.length) :
  Calls Tryd.prog 107 #[.slice (some ⟨g, 0, none⟩) N cap, .int .i64 a, .int .i64 m, .int .i64 b, fv] w (SPost g w (fun l => l = P ++ V ++ U ++ Q)) := by
 have hN' : N = P.length + U.length + V.length + Q.length := by rw [hN]; simp; omega
 have hO := Sdq.mk hO;have hR := Sdq.mk (Srt.Rot.zero P V U Q);clear hN;generalize P ++ U ++ V ++ Q = l0 at hO hR
 obtain ⟨nU, enU⟩ : ∃ n, n = U.length := ⟨_, rfl⟩
 obtain ⟨nV, enV⟩ : ∃ n, n = V.length := ⟨_, rfl⟩
 have hUV := Sdq.mk (show 0 < nU ∧ 0 < nV by omega)
 have v0 : (m : Int) - (a : Int) = (nU : Int) := by omega
 have v1 : (b : Int) - (m : Int) = (nV : Int) := by omega
 have lU : nU ≤ 100000 := by omega
 have lV : nV ≤ 100000 := by omega
 have E := Sdq.mk (And.intro hN' (And.intro ha (And.intro hm (And.intro hb (And.intro enU enV)))));clear hN' ha hm hb enU enV hU hV;have w0 := Sdq.mk (y64 v0 lU);have w1 := Sdq.mk (y64 v1 lV);clear lU lV v0 v1;go_enter Tryd.func107, Tryd.ntmps107
 go_wp2_with fail
 go_loopg [10, 11] (nU + nV) (fun gk s10 s11 wr => ∃ (i j : Nat) (A u v B l : List El), gk = i + j ∧ s10 = .int .i64 (i : Int) ∧ s11 = .int .i64 (j : Int) ∧ 0 < i ∧ 0 < j ∧ Sdq (i = u.length ∧ j = v.length) ∧ Sdq (Srt.Rot P V U Q A u v B l) ∧ Sdq (Own3 g wr l) ∧ Sdq (Kbt w wr g none ∧ Below g w wr))
 case atStart => exact ⟨nU, nV, [], U, V, [], l0, rfl, by rw [w0.out], by rw [w1.out], hUV.out.1, hUV.out.2, ⟨E.out.2.2.2.2⟩, hR, hO, ⟨Kbt.refl _ _ _, Below.refl _ _⟩⟩
 case round =>
  clear hO hR;obtain ⟨i, j, A, u, v, B, l, hg, rfl, rfl, hi, hj, hij, hR, hO, hK⟩ := hrel;obtain ⟨hu, hv⟩ := hij.out;obtain ⟨hR1, hR2, hR3⟩ := hR.out;obtain ⟨hN', ha, hm, hb, enU, enV⟩ := E.out
  have hln : A.length + u.length + v.length + B.length = U.length + V.length := by
   have := congrArg List.length hR2
   simp at this
   omega
  obtain ⟨s, es⟩ : ∃ s, s = (P ++ A).length := ⟨_, rfl⟩
  have es' : s = P.length + A.length := by rw [es]; simp
  have vi : (m : Int) - (i : Int) = (s : Int) := by omega
  have ls : s ≤ 100000 := by omega
  rcases Nat.lt_trichotomy i j with hlt | heq | hgt
  ·obtain ⟨v1, v2, hv12, hl1, hl2⟩ := Srt.split_at_ (u := v) (j := v.length - i) (by omega)
   obtain ⟨q, eq⟩ : ∃ q, q = s + j := ⟨_, rfl⟩
   obtain ⟨k, ek⟩ : ∃ k, k = j - i := ⟨_, rfl⟩
   have hsw := sl_swapRange g cap s q i N (P ++ A) u v1 v2 (B ++ Q) fv wr (by have h := hO.out; rw [hR1, hv12] at h; simpa using h) (by simp; omega) hl es (by simp; omega) (by omega) (by omega);have hR' := Sdq.mk (show Srt.Rot P V U Q A v2 v1 (u ++ B) ((P ++ A) ++ v2 ++ v1 ++ u ++ (B ++ Q)) from ⟨by simp, by rw [hR2, hv12]; simp, by omega⟩)
   have vq : (m : Int) + (j : Int) = ((m + j : Nat) : Int) := by omega
   have vj : (m : Int) + (j : Int) - (i : Int) = (q : Int) := by omega
   have vk : (j : Int) - (i : Int) = (k : Int) := by omega
   have c1 : ((i : Int) == (j : Int)) = false := by simp; omega
   have c2 : ¬ (j : Int) < (i : Int) := by omega
   have lq : q ≤ 100000 := by omega
   have lk : k ≤ 100000 := by omega
   have lmj : m + j ≤ 100000 := by omega
   have hul := Sdq.mk (show 0 < k ∧ i + k < gk ∧ i = v2.length ∧ k = v1.length by omega);clear hR hR1 hR2 hR3 hln hv12 hl1 hl2 hO hlt hm hb ha hN' hg hu hv hij es es' eq ek enU enV;have ws := Sdq.mk (y64 vi ls);clear vi;have wq := Sdq.mk (y64 vj lq);have wk := Sdq.mk (y64 vk lk);have wmj := Sdq.mk ((y64 vq lmj).trans (Int.natCast_add m j));clear vq vj vk lq lk ls lmj;go_wp2_with (go_at_call 112; (try rw [wmj.out]); (try rw [wq.out]); rw [ws.out]; (with_reducible refine hsw.mono ?_); rintro e w2 ⟨rfl, l2, rfl, hO2, hk2, hb2⟩)
   go_roundg (i + k)
   case measure => exact hul.out.2.1
   case rel => exact ⟨i, k, A, v2, v1, u ++ B, _, rfl, rfl, by rw [wk.out], hi, hul.out.1, ⟨hul.out.2.2⟩, hR', ⟨hO2⟩, ⟨hK.out.1.trans hk2 (.inl rfl), hK.out.2.trans hb2⟩⟩
  ·have hsw := sl_swapRange g cap s m i N (P ++ A) u [] v (B ++ Q) fv wr (by have h := hO.out; rw [hR1] at h; simpa using h) (by simp; omega) hl es (by simp; omega) (by omega) (by omega)
   have hR' := Sdq.mk (show (P ++ A) ++ v ++ [] ++ u ++ (B ++ Q) = P ++ V ++ U ++ Q by
    have h := congrArg (fun t => P ++ t ++ Q) hR2
    simpa using h.symm)
   subst heq;clear hR hR1 hR2 hR3 hln hO hm hb ha hN' hg hu hv hij es es' enU enV;have ws := Sdq.mk (y64 vi ls);clear vi;clear ls;go_wp2_with (go_at_call 112; (try rw [wmj.out]); (try rw [wq.out]); rw [ws.out]; (with_reducible refine hsw.mono ?_); rintro e w2 ⟨rfl, l2, rfl, hO2, hk2, hb2⟩)
   go_end0
   exact ⟨rfl, _, hR'.out, hO2, hK.out.1.trans hk2 (.inl rfl), hK.out.2.trans hb2⟩
  ·obtain ⟨u1, u2, hu12, hl1, hl2⟩ := Srt.split_at_ (u := u) (j := j) (by omega)
   obtain ⟨k, ek⟩ : ∃ k, k = i - j := ⟨_, rfl⟩
   have hsw := sl_swapRange g cap s m j N (P ++ A) u1 u2 v (B ++ Q) fv wr (by have h := hO.out; rw [hR1, hu12] at h; simpa using h) (by simp; omega) hl es (by simp; omega) hl1 (by omega);have hR' := Sdq.mk (show Srt.Rot P V U Q (A ++ v) u2 u1 B ((P ++ A) ++ v ++ u2 ++ u1 ++ (B ++ Q)) from ⟨by simp, by rw [hR2, hu12]; simp, by simp; omega⟩)
   have vk : (i : Int) - (j : Int) = (k : Int) := by omega
   have c1 : ((i : Int) == (j : Int)) = false := by simp; omega
   have c2 : (j : Int) < (i : Int) := by omega
   have lk : k ≤ 100000 := by omega
   have hul := Sdq.mk (show 0 < k ∧ k + j < gk ∧ k = u2.length ∧ j = u1.length by omega);clear hR hR1 hR2 hR3 hln hu12 hl1 hl2 hO hgt hm hb ha hN' hg hu hv hij es es' ek enU enV;have ws := Sdq.mk (y64 vi ls);clear vi;have wk := Sdq.mk (y64 vk lk);clear lk ls vk;go_wp2_with (go_at_call 112; (try rw [wmj.out]); (try rw [wq.out]); rw [ws.out]; (with_reducible refine hsw.mono ?_); rintro e w2 ⟨rfl, l2, rfl, hO2, hk2, hb2⟩)
   go_roundg (k + j)
   case measure => exact hul.out.2.1
   case rel => exact ⟨k, j, A ++ v, u2, u1, B, _, rfl, by rw [wk.out], rfl, hul.out.1, hj, ⟨hul.out.2.2⟩, hR', ⟨hO2⟩, ⟨hK.out.1.trans hk2 (.inl rfl), hK.out.2.trans hb2⟩⟩
end Go.Proofs.YthpgjgmaamcaoaaDoor.P
end
