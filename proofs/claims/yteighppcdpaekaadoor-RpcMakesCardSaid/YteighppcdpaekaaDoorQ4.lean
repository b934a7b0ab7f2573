/- Walks and words of this session, put together by a program of this session (pack.py). Conditions: as each text says. -/
import Derived.Lib.ItoaNum
import Derived.Lib.AtoiTie
import Derived.Test.YteighppcdpaekaaDoorQ2
import Derived.Test.YteighppcdpaekaaDoorQ3
set_option linter.unusedVariables false
set_option linter.unusedSimpArgs false
section
namespace Go.Proofs.YteighppcdpaekaaDoor.P
open Go.RowKit Go.Proofs.YteighppcdpaekaaDoorW.PrintWords Go.Proofs.YteighppcdpaekaaDoorW.PrintLast Go.Proofs.YteighppcdpaekaaDoorW.PrintMore
set_option linter.unusedVariables false
set_option linter.unusedSimpArgs false
theorem q30 {O : Nat → Prop} {w : World} {v : Value} {k : ByteArray} {s : S27} {A2 A3 : Option Addr} {c2 c3 : Nat} (l2 : s.f2.length ≤ c2) (g2 : Kd.F Kd.string w O A2 s.f2.length s.f2) (l3 : s.f3.length ≤ c3) (g3 : Kd.F k27 w O A3 s.f3.length s.f3) (hv : v = .agg #[.string k, .int .i64 s.f0, .string s.f1, .slice A2 s.f2.length c2, .slice A3 s.f3.length c3]) : Kv k30 O w v ⟨k, s⟩ := ⟨_, hv, k30_mkF w O ⟨k, s⟩ l2 g2 l3 g3⟩
theorem Kv.open30 {O : Nat → Prop} {w : World} {v : Value} {p : S30} (h : Kv k30 O w v p) : ∃ A2 c2 A3 c3, v = .agg #[.string p.f0, .int .i64 p.f1.f0, .string p.f1.f1, .slice A2 p.f1.f2.length c2, .slice A3 p.f1.f3.length c3] ∧ Kd.FK k30 w O p [.string p.f0, .int .i64 p.f1.f0, .string p.f1.f1, .slice A2 p.f1.f2.length c2, .slice A3 p.f1.f3.length c3] := by
 obtain ⟨cs, rfl, hk⟩ := h;obtain ⟨A2, c2, A3, c3, rfl, _⟩ := k30_openF hk;exact ⟨A2, c2, A3, c3, rfl, hk⟩
theorem three {α : Type} {P : α → List Value → Prop} {a b c : α} {x y z : List Value} (h1 : P a x) (h2 : P b y) (h3 : P c z) : ∀ (j : Nat) (p : α) (cs : List Value), [a, b, c][j]? = some p → [x, y, z][j]? = some cs → P p cs
 | 0, p, cs, hp, hc => by cases hp; cases hc; exact h1
 | 1, p, cs, hp, hc => by cases hp; cases hc; exact h2
 | 2, p, cs, hp, hc => by cases hp; cases hc; exact h3
 | j + 3, p, cs, hp, hc => by simp at hp
theorem two {α : Type} {P : α → List Value → Prop} {a b : α} {x y : List Value} (h1 : P a x) (h2 : P b y) : ∀ (j : Nat) (p : α) (cs : List Value), [a, b][j]? = some p → [x, y][j]? = some cs → P p cs
 | 0, p, cs, hp, hc => by cases hp; cases hc; exact h1
 | 1, p, cs, hp, hc => by cases hp; cases hc; exact h2
 | j + 2, p, cs, hp, hc => by simp at hp
theorem tab50_1 : tabOf (opsOf Tryd.f50 1) = ([some 7, some 8, some 9, some 10, some 11, some 12, some 13, some 14, some 15, none], [[], [0], [], [2], [], [], [4, 5], [1, 3, 6], [7, 0], [8, 8, 0, 1, 2, 3, 4, 5, 6, 7, 8]]) := by kernel_rfl
set_option maxRecDepth 100000 in
set_option maxHeartbeats 6400000 in
theorem reply_calls (ok : Nat → Prop) (key : ByteArray) (vx vy : Value) (x y : S27) (w0 : World) (hok : ∀ k, w0.heap.size ≤ k → ok k) (hx : Kv k27 ok w0 vx x) (hy : Kv k27 ok w0 vy y) : Calls Tryd.prog 50 #[vx, .string key, vy] w0 (KPost k27 ok w0 (⟨6, ⟨#[]⟩, [⟨#[106, 115, 111, 110, 114, 112, 99]⟩, ⟨#[105, 100]⟩, key], [(⟨4, ⟨#[50, 46, 48]⟩, [], []⟩ : S27), x, y]⟩ : S27)) := by
 obtain ⟨x2, xn2, x3, xn3, rfl, xl2, xg2, xl3, xg3⟩ := (hx).open27;obtain ⟨y2, yn2, y3, yn3, rfl, yl2, yg2, yl3, yg3⟩ := (hy).open27
 obtain ⟨O, hO, hO1⟩ : ∃ O : Nat → Prop, (∀ k, O k → ok k ∧ k ≠ w0.heap.size + 2) ∧ (∀ k, ok k → k ≠ w0.heap.size + 2 → O k) := ⟨fun k => ok k ∧ k ≠ _, fun _ h => h, fun _ h h' => ⟨h, h'⟩⟩
 obtain ⟨L, hL⟩ : ∃ L : List UpP, L = [uBlk (w0.heap.size + 2) [.int .i64 0, .string ⟨#[]⟩, .slice none 0 0, .slice none 0 0] 27, uBlk (w0.heap.size + 1) [.int .i64 y.f0, .string y.f1, .slice y2 y.f2.length yn2, .slice y3 y.f3.length yn3] 27, uBlk w0.heap.size [.int .i64 x.f0, .string x.f1, .slice x2 x.f2.length xn2, .slice x3 x.f3.length xn3] 27, uK k27 O (.agg #[.int .i64 x.f0, .string x.f1, .slice x2 x.f2.length xn2, .slice x3 x.f3.length xn3]) x, uK k27 O (.agg #[.int .i64 y.f0, .string y.f1, .slice y2 y.f2.length yn2, .slice y3 y.f3.length yn3]) y, uB w0] := ⟨_, rfl⟩
 have hO2 : ∀ (w : World), Ctx L w → ∀ k, w.heap.size ≤ k → O k := fun w hC k hk => by
  subst hL;have := blk_lt hC.1;exact hO1 k (hok k (by omega)) (by omega)
 have hx := hx.bound.mono (fun k hk => hO1 k hk.1 (by omega));have hy := hy.bound.mono (fun k hk => hO1 k hk.1 (by omega))
 have C0 : Ctx L (((w0.alloc (.cells #[.int .i64 x.f0, .string x.f1, .slice x2 x.f2.length xn2, .slice x3 x.f3.length xn3] 27 (0, 0))).alloc (.cells #[.int .i64 y.f0, .string y.f1, .slice y2 y.f2.length yn2, .slice y3 y.f3.length yn3] 27 (0, 0))).alloc (.cells #[.int .i64 0, .string ⟨#[]⟩, .slice none 0 0, .slice none 0 0] 27 (0, 0))) := by
  have e := Ctx.new (cs := [.int .i64 0, .string ⟨#[]⟩, .slice none 0 0, .slice none 0 0]) (t := 27) (Ctx.new (cs := [.int .i64 y.f0, .string y.f1, .slice y2 y.f2.length yn2, .slice y3 y.f3.length yn3]) (t := 27) (Ctx.new (cs := [.int .i64 x.f0, .string x.f1, .slice x2 x.f2.length xn2, .slice x3 x.f3.length xn3]) (t := 27) (Ctx.cons (uK k27 O _ x) hx (Ctx.cons (uK k27 O _ y) hy (Ctx.cons (uB w0) (Below.refl _ _) (Ctx.nil))))));rw [hL]
  simpa using e
 clear hx hy;go_enter Tryd.func50, Tryd.ntmps50
 go_upto_region 1 with fail
 refine absW _ C0 ?_;clear C0;subst hL;intro w1 C;refine flowL (m := 9) tab50_1 rfl (Ctx _) (Rl [uKd k27 O (⟨4, ⟨#[50, 46, 48]⟩, [], []⟩ : S27), uKd k30 O ⟨⟨#[106, 115, 111, 110, 114, 112, 99]⟩, (⟨4, ⟨#[50, 46, 48]⟩, [], []⟩ : S27)⟩, uEq (.agg #[.int .i64 x.f0, .string x.f1, .slice x2 x.f2.length xn2, .slice x3 x.f3.length xn3]), uKd k30 O ⟨⟨#[105, 100]⟩, x⟩, uEq (.string key), uEq (.agg #[.int .i64 y.f0, .string y.f1, .slice y2 y.f2.length yn2, .slice y3 y.f3.length yn3]), uKd k30 O ⟨key, y⟩, uCv k30 O [(⟨⟨#[106, 115, 111, 110, 114, 112, 99]⟩, (⟨4, ⟨#[50, 46, 48]⟩, [], []⟩ : S27)⟩ : S30), (⟨⟨#[105, 100]⟩, x⟩ : S30), (⟨key, y⟩ : S30)], uKd k27 O (⟨6, ⟨#[]⟩, [⟨#[106, 115, 111, 110, 114, 112, 99]⟩, ⟨#[105, 100]⟩, key], [(⟨4, ⟨#[50, 46, 48]⟩, [], []⟩ : S27), x, y]⟩ : S27)]) rfl (by kernel_rfl) (fun _ _ h hb => h.below hb) (Rl.up _) C ⟨⟨⟨⟨⟨⟨⟨⟨⟨trivial, ?_⟩, ?_⟩, ?_⟩, ?_⟩, ?_⟩, ?_⟩, ?_⟩, ?_⟩, ?_⟩ _ rfl ?_
 ·refine At.of _ rfl (fun e a w hC hd hb K hK => ?_)
  refine goes_ Tryd.func13 (by kernel_rfl) rfl #[.string ⟨#[50, 46, 48]⟩] (by rfl) rfl rfl (by first | (simp [Act.eval]; done) | (simp [Act.eval]; rfl)) ?_;refine (textJ _ w (hO2 w hC)).mono ?_;rintro en w' ⟨v, rfl, hv, hb'⟩;exact ⟨v, rfl, hK.out v w' hb' hv⟩
 ·refine At.of _ rfl (fun e a w hC hd hb K hK => ?_)
  have q0 := (hd 0 (by decide)).2 7 rfl;obtain ⟨u2, un2, u3, un3, ue, ul2, ug2, ul3, ug3⟩ := (show Kv k27 O w (e 0) (⟨4, ⟨#[50, 46, 48]⟩, [], []⟩ : S27) from (hd 0 (by decide)).1).open27;rw [ue] at q0;refine value_ (w1 := w) (v := .agg #[.string ⟨#[106, 115, 111, 110, 114, 112, 99]⟩, .int .i64 (⟨4, ⟨#[50, 46, 48]⟩, [], []⟩ : S27).f0, .string (⟨4, ⟨#[50, 46, 48]⟩, [], []⟩ : S27).f1, .slice u2 (⟨4, ⟨#[50, 46, 48]⟩, [], []⟩ : S27).f2.length un2, .slice u3 (⟨4, ⟨#[50, 46, 48]⟩, [], []⟩ : S27).f3.length un3]) (by rfl) rfl ?_ (hK.out _ _ (Below.refl _ _) (q30 (s := (⟨4, ⟨#[50, 46, 48]⟩, [], []⟩ : S27)) ul2 ug2 ul3 ug3 rfl));clear hC hd hb hK
  first | (go_simp; done) | (go_simp; rfl)
 ·refine At.of _ rfl (fun e a w hC hd hb K hK => ?_)
  have b3 : a.tmps[3]? = some (.pointer (some ⟨w0.heap.size, 0, none⟩)) := hb 3 (by decide);have cx0 : w.cell? ⟨w0.heap.size, 0, none⟩ = some (.int .i64 x.f0) := Ctx.blk hC.2.2.1 0 rfl;have cx1 : w.cell? ⟨w0.heap.size, 1, none⟩ = some (.string x.f1) := Ctx.blk hC.2.2.1 1 rfl;have cx2 : w.cell? ⟨w0.heap.size, 2, none⟩ = some (.slice x2 x.f2.length xn2) := Ctx.blk hC.2.2.1 2 rfl;have cx3 : w.cell? ⟨w0.heap.size, 3, none⟩ = some (.slice x3 x.f3.length xn3) := Ctx.blk hC.2.2.1 3 rfl;refine value_ (w1 := w) (v := .agg #[.int .i64 x.f0, .string x.f1, .slice x2 x.f2.length xn2, .slice x3 x.f3.length xn3]) (by rfl) rfl ?_ (hK.out _ _ (Below.refl _ _) rfl);clear hC hd hb hK
  first | (go_simp; done) | (go_simp; rfl)
 ·refine At.of _ rfl (fun e a w hC hd hb K hK => ?_)
  have q2 := (hd 2 (by decide)).2 9 rfl;rw [show e 2 = _ from (hd 2 (by decide)).1] at q2;obtain ⟨_, xl2, xg2, xl3, xg3⟩ := k27_of hC.2.2.2.1;refine value_ (w1 := w) (v := .agg #[.string ⟨#[105, 100]⟩, .int .i64 x.f0, .string x.f1, .slice x2 x.f2.length xn2, .slice x3 x.f3.length xn3]) (by rfl) rfl ?_ (hK.out _ _ (Below.refl _ _) (q30 (s := x) xl2 xg2 xl3 xg3 rfl));clear hC hd hb hK
  first | (go_simp; done) | (go_simp; rfl)
 ·refine At.of _ rfl (fun e a w hC hd hb K hK => ?_)
  have b1 : a.tmps[1]? = some (.string key) := hb 1 (by decide);refine value_ (w1 := w) (v := .string key) (by rfl) rfl ?_ (hK.out _ _ (Below.refl _ _) rfl);clear hC hd hb hK
  first | (go_simp; done) | (go_simp; rfl)
 ·refine At.of _ rfl (fun e a w hC hd hb K hK => ?_)
  have b5 : a.tmps[5]? = some (.pointer (some ⟨w0.heap.size + 1, 0, none⟩)) := hb 5 (by decide);have cy0 : w.cell? ⟨w0.heap.size + 1, 0, none⟩ = some (.int .i64 y.f0) := Ctx.blk hC.2.1 0 rfl;have cy1 : w.cell? ⟨w0.heap.size + 1, 1, none⟩ = some (.string y.f1) := Ctx.blk hC.2.1 1 rfl;have cy2 : w.cell? ⟨w0.heap.size + 1, 2, none⟩ = some (.slice y2 y.f2.length yn2) := Ctx.blk hC.2.1 2 rfl;have cy3 : w.cell? ⟨w0.heap.size + 1, 3, none⟩ = some (.slice y3 y.f3.length yn3) := Ctx.blk hC.2.1 3 rfl;refine value_ (w1 := w) (v := .agg #[.int .i64 y.f0, .string y.f1, .slice y2 y.f2.length yn2, .slice y3 y.f3.length yn3]) (by rfl) rfl ?_ (hK.out _ _ (Below.refl _ _) rfl);clear hC hd hb hK
  first | (go_simp; done) | (go_simp; rfl)
 ·refine At.of _ rfl (fun e a w hC hd hb K hK => ?_)
  have q4 := (hd 4 (by decide)).2 11 rfl;rw [show e 4 = _ from (hd 4 (by decide)).1] at q4;have q5 := (hd 5 (by decide)).2 12 rfl;rw [show e 5 = _ from (hd 5 (by decide)).1] at q5;obtain ⟨_, yl2, yg2, yl3, yg3⟩ := k27_of hC.2.2.2.2.1;refine value_ (w1 := w) (v := .agg #[.string key, .int .i64 y.f0, .string y.f1, .slice y2 y.f2.length yn2, .slice y3 y.f3.length yn3]) (by rfl) rfl ?_ (hK.out _ _ (Below.refl _ _) (q30 (s := y) yl2 yg2 yl3 yg3 rfl));clear hC hd hb hK
  first | (go_simp; done) | (go_simp; rfl)
 ·refine At.of _ rfl (fun e a w hC hd hb K hK => ?_)
  have q1 := (hd 1 (by decide)).2 8 rfl;obtain ⟨u2, un2, u3, un3, ue, uk⟩ := (show Kv k30 O w (e 1) (⟨⟨#[106, 115, 111, 110, 114, 112, 99]⟩, (⟨4, ⟨#[50, 46, 48]⟩, [], []⟩ : S27)⟩ : S30) from (hd 1 (by decide)).1).open30;rw [ue] at q1;have q3 := (hd 3 (by decide)).2 10 rfl;obtain ⟨v2, vn2, v3, vn3, ve, vk⟩ := (show Kv k30 O w (e 3) (⟨⟨#[105, 100]⟩, x⟩ : S30) from (hd 3 (by decide)).1).open30;rw [ve] at q3;have q6 := (hd 6 (by decide)).2 13 rfl;obtain ⟨t2, tn2, t3, tn3, te, tk⟩ := (show Kv k30 O w (e 6) (⟨key, y⟩ : S30) from (hd 6 (by decide)).1).open30;rw [te] at q6;refine value_ (w1 := w.alloc (.cells #[.string (⟨⟨#[106, 115, 111, 110, 114, 112, 99]⟩, (⟨4, ⟨#[50, 46, 48]⟩, [], []⟩ : S27)⟩ : S30).f0, .int .i64 (⟨⟨#[106, 115, 111, 110, 114, 112, 99]⟩, (⟨4, ⟨#[50, 46, 48]⟩, [], []⟩ : S27)⟩ : S30).f1.f0, .string (⟨⟨#[106, 115, 111, 110, 114, 112, 99]⟩, (⟨4, ⟨#[50, 46, 48]⟩, [], []⟩ : S27)⟩ : S30).f1.f1, .slice u2 (⟨⟨#[106, 115, 111, 110, 114, 112, 99]⟩, (⟨4, ⟨#[50, 46, 48]⟩, [], []⟩ : S27)⟩ : S30).f1.f2.length un2, .slice u3 (⟨⟨#[106, 115, 111, 110, 114, 112, 99]⟩, (⟨4, ⟨#[50, 46, 48]⟩, [], []⟩ : S27)⟩ : S30).f1.f3.length un3, .string (⟨⟨#[105, 100]⟩, x⟩ : S30).f0, .int .i64 (⟨⟨#[105, 100]⟩, x⟩ : S30).f1.f0, .string (⟨⟨#[105, 100]⟩, x⟩ : S30).f1.f1, .slice v2 (⟨⟨#[105, 100]⟩, x⟩ : S30).f1.f2.length vn2, .slice v3 (⟨⟨#[105, 100]⟩, x⟩ : S30).f1.f3.length vn3, .string (⟨key, y⟩ : S30).f0, .int .i64 (⟨key, y⟩ : S30).f1.f0, .string (⟨key, y⟩ : S30).f1.f1, .slice t2 (⟨key, y⟩ : S30).f1.f2.length tn2, .slice t3 (⟨key, y⟩ : S30).f1.f3.length tn3] 30 (0, 0))) (v := .slice (some ⟨w.heap.size, 0, none⟩) 3 3) (by rfl) rfl ?_ (hK.out _ _ (bal (Below.refl _ _) _) ⟨_, 3, rfl, Nat.le_refl _, F_block (css := [[.string (⟨⟨#[106, 115, 111, 110, 114, 112, 99]⟩, (⟨4, ⟨#[50, 46, 48]⟩, [], []⟩ : S27)⟩ : S30).f0, .int .i64 (⟨⟨#[106, 115, 111, 110, 114, 112, 99]⟩, (⟨4, ⟨#[50, 46, 48]⟩, [], []⟩ : S27)⟩ : S30).f1.f0, .string (⟨⟨#[106, 115, 111, 110, 114, 112, 99]⟩, (⟨4, ⟨#[50, 46, 48]⟩, [], []⟩ : S27)⟩ : S30).f1.f1, .slice u2 (⟨⟨#[106, 115, 111, 110, 114, 112, 99]⟩, (⟨4, ⟨#[50, 46, 48]⟩, [], []⟩ : S27)⟩ : S30).f1.f2.length un2, .slice u3 (⟨⟨#[106, 115, 111, 110, 114, 112, 99]⟩, (⟨4, ⟨#[50, 46, 48]⟩, [], []⟩ : S27)⟩ : S30).f1.f3.length un3], [.string (⟨⟨#[105, 100]⟩, x⟩ : S30).f0, .int .i64 (⟨⟨#[105, 100]⟩, x⟩ : S30).f1.f0, .string (⟨⟨#[105, 100]⟩, x⟩ : S30).f1.f1, .slice v2 (⟨⟨#[105, 100]⟩, x⟩ : S30).f1.f2.length vn2, .slice v3 (⟨⟨#[105, 100]⟩, x⟩ : S30).f1.f3.length vn3], [.string (⟨key, y⟩ : S30).f0, .int .i64 (⟨key, y⟩ : S30).f1.f0, .string (⟨key, y⟩ : S30).f1.f1, .slice t2 (⟨key, y⟩ : S30).f1.f2.length tn2, .slice t3 (⟨key, y⟩ : S30).f1.f3.length tn3]]) (blk_new w _) (hO2 w hC _ (Nat.le_refl _)) rfl (by simp) (three (Kd.FK_below uk (bal (Below.refl _ _) _)) (Kd.FK_below vk (bal (Below.refl _ _) _)) (Kd.FK_below tk (bal (Below.refl _ _) _)))⟩);clear hC hd hb hK
  first | (go_simp; done) | (go_simp; rfl)
 ·refine At.of _ rfl (fun e a w hC hd hb K hK => ?_)
  have q7 := (hd 7 (by decide)).2 14 rfl
  obtain ⟨A, c, ae, hc, hA⟩ := (show Cv k30 O w (e 7) [(⟨⟨#[106, 115, 111, 110, 114, 112, 99]⟩, (⟨4, ⟨#[50, 46, 48]⟩, [], []⟩ : S27)⟩ : S30), (⟨⟨#[105, 100]⟩, x⟩ : S30), (⟨key, y⟩ : S30)] from (hd 7 (by decide)).1)
  rw [ae] at q7;refine goes_ Tryd.func11 (by kernel_rfl) rfl #[.slice A 3 c] (by rfl) rfl rfl (by first | (simp [Act.eval, q7]; done) | (simp [Act.eval, q7]; rfl)) ?_;refine (madeJ A c [(⟨⟨#[106, 115, 111, 110, 114, 112, 99]⟩, (⟨4, ⟨#[50, 46, 48]⟩, [], []⟩ : S27)⟩ : S30), (⟨⟨#[105, 100]⟩, x⟩ : S30), (⟨key, y⟩ : S30)] w (hO2 w hC) hc hA (by simp)).mono ?_;rintro en w' ⟨v, rfl, hv, hb'⟩;exact ⟨v, rfl, hK.out v w' hb' hv⟩
 ·intro e w hC hr a ha K hK
  have hv : Kv k27 O w (e 8) (⟨6, ⟨#[]⟩, [⟨#[106, 115, 111, 110, 114, 112, 99]⟩, ⟨#[105, 100]⟩, key], [(⟨4, ⟨#[50, 46, 48]⟩, [], []⟩ : S27), x, y]⟩ : S27) := hr.2;obtain ⟨z2, zn2, z3, zn3, ze, -⟩ := hv.open27;rw [ze] at hv;simp only [fill, Act.put, ze, Nat.reduceAdd, Nat.reduceLT, decide_true, decide_false, if_true, Bool.false_eq_true, if_false, List.setIfInBounds_toArray, List.set_cons_zero, List.set_cons_succ] at ha;subst ha;have E := end4 hC.1 hC.2.2.2.2.2.1 (by omega) hO hv _ rfl;have z0_ := Ctx.blk hC.1 0 rfl;have z1_ := Ctx.blk hC.1 1 rfl;have z2_ := Ctx.blk hC.1 2 rfl;have z3_ := Ctx.blk hC.1 3 rfl;have f0_ := Ctx.frz hC.1 0;have f1_ := Ctx.frz hC.1 1;have f2_ := Ctx.frz hC.1 2;have f3_ := Ctx.frz hC.1 3;refine skip_ (w1 := ?_) (by rfl) rfl ?_ ?_
  rotate_left
  ·go_simp
   rfl
  refine hK.out _ _ ?_;go_wp2;clear hC hK hr z0_ z1_ z2_ z3_ f0_ f1_ f2_ f3_;generalize World.setCell _ _ _ = wf at E ⊢;obtain ⟨EP, c0, c1, c2, c3⟩ := E;exact bodyPost_ret (v := .agg #[.int .i64 _, .string _, .slice z2 _ zn2, .slice z3 _ zn3]) (by simp [results, Tryd.results50, go_sem, c0, c1, c2, c3]) rfl EP
end Go.Proofs.YteighppcdpaekaaDoor.P
end
section
namespace Go.Proofs.YteighppcdpaekaaDoor.P
open Go.RowKit Go.Proofs.YteighppcdpaekaaDoorW.PrintWords Go.Proofs.YteighppcdpaekaaDoorW.PrintLast Go.Proofs.YteighppcdpaekaaDoorW.PrintMore
set_option linter.unusedVariables false
set_option linter.unusedSimpArgs false
theorem Rd4 {w : World} {g t : Nat} {a b c d : Value} {z : Nat × Nat} (h : w.heap[g]? = some (.cells #[a, b, c, d] t z)) : w.cell? ⟨g, 0, none⟩ = some a ∧ w.cell? ⟨g, 1, none⟩ = some b ∧ w.cell? ⟨g, 2, none⟩ = some c ∧ w.cell? ⟨g, 3, none⟩ = some d := by simp [World.cell?, h]
theorem Kv.openK {O : Nat → Prop} {w : World} {v : Value} {s : S44} (h : Kv k44 O w v s) : ∃ A2 c2 A3 c3, v = .agg #[.int .i64 s.f0, .string s.f1, .slice A2 s.f2.length c2, .slice A3 s.f3.length c3] ∧ Kd.FK k44 w O s [.int .i64 s.f0, .string s.f1, .slice A2 s.f2.length c2, .slice A3 s.f3.length c3] := by
 obtain ⟨A2, c2, A3, c3, rfl, l2, g2, l3, g3⟩ := h.open44;exact ⟨A2, c2, A3, c3, rfl, k44_mkF w O s l2 g2 l3 g3⟩
theorem k44_K {O : Nat → Prop} {w : World} {s : S44} {A2 A3 : Option Addr} {c2 c3 : Nat} (h : Kv k44 O w (.agg #[.int .i64 s.f0, .string s.f1, .slice A2 s.f2.length c2, .slice A3 s.f3.length c3]) s) : Kd.FK k44 w O s [.int .i64 s.f0, .string s.f1, .slice A2 s.f2.length c2, .slice A3 s.f3.length c3] := by
 obtain ⟨_, l2, g2, l3, g3⟩ := k44_of h;exact k44_mkF w O s l2 g2 l3 g3
set_option maxRecDepth 100000 in
set_option maxHeartbeats 6400000 in
theorem object44 {ok : Nat → Prop} (ks : List ByteArray) (vs : List S44) (A : Option Addr) (c : Nat) (B : Option Addr) (c' : Nat) (w : World) (hok : ∀ k, w.heap.size ≤ k → ok k) (h1 : ks.length ≤ c) (h2 : Kd.F Kd.string w ok A ks.length ks) (h3 : vs.length ≤ c') (h4 : Kd.F k44 w ok B vs.length vs) : Calls Tryd.prog 52 #[.slice A ks.length c, .slice B vs.length c'] w (KPost k44 ok w ⟨6, ⟨#[]⟩, ks, vs⟩) := by
 have hv := (Kv.mk44 (ok := ok) ⟨6, ⟨#[]⟩, ks, vs⟩ h1 h2 h3 h4).alloc (.cells #[.int .i64 6, .string ⟨#[]⟩, .slice A ks.length c, .slice B vs.length c'] 44 (0, 0));have hz := blk_new w (.cells #[.int .i64 6, .string ⟨#[]⟩, .slice A ks.length c, .slice B vs.length c'] 44 (0, 0));obtain ⟨c0, c1, c2, c3⟩ := Rd4 hz;have hv := Sdq.mk hv;have hb := Sdq.mk (bal (Below.refl w.heap.size w) (.cells #[.int .i64 6, .string ⟨#[]⟩, .slice A ks.length c, .slice B vs.length c'] 44 (0, 0)));clear hz;go_enter Tryd.func52, Tryd.ntmps52
 go_wp2_with fail
 exact bodyPost_ret (v := .agg #[.int .i64 6, .string ⟨#[]⟩, .slice A ks.length c, .slice B vs.length c']) (by simp [results, Tryd.results52, go_sem, c0, c1, c2, c3]) rfl ⟨_, rfl, hv.out, hb.out⟩
set_option maxRecDepth 100000 in
set_option maxHeartbeats 6400000 in
theorem text44 {ok : Nat → Prop} (s : ByteArray) (w : World) (hok : ∀ k, w.heap.size ≤ k → ok k) : Calls Tryd.prog 53 #[.string s] w (KPost k44 ok w ⟨4, s, [], []⟩) := by
 have hv := (Kv.mk44 (ok := ok) (w := w) ⟨4, s, [], []⟩ (A2 := none) (A3 := none) (c2 := 0) (c3 := 0) (Nat.le_refl _) (Kd.F_nil _ w _) (Nat.le_refl _) (Kd.F_nil _ w _)).alloc (.cells #[.int .i64 4, .string s, .slice none 0 0, .slice none 0 0] 44 (0, 0));have hz := blk_new w (.cells #[.int .i64 4, .string s, .slice none 0 0, .slice none 0 0] 44 (0, 0));obtain ⟨c0, c1, c2, c3⟩ := Rd4 hz;have hv := Sdq.mk hv;have hb := Sdq.mk (bal (Below.refl w.heap.size w) (.cells #[.int .i64 4, .string s, .slice none 0 0, .slice none 0 0] 44 (0, 0)));clear hz;go_enter Tryd.func53, Tryd.ntmps53
 go_wp2_with fail
 exact bodyPost_ret (v := .agg #[.int .i64 4, .string s, .slice none 0 0, .slice none 0 0]) (by simp [results, Tryd.results53, go_sem, c0, c1, c2, c3]) rfl ⟨_, rfl, hv.out, hb.out⟩
theorem tab33_1 : tabOf (opsOf Tryd.f33 1) = ([some 5, some 6, some 7, some 8, some 9, some 10, some 11, some 12, some 13, none], [[], [0], [], [2, 0], [3], [], [5], [1, 4, 6], [7, 3], [8, 8, 0, 1, 2, 3, 4, 5, 6, 7, 8]]) := by kernel_rfl
set_option maxRecDepth 100000 in
set_option maxHeartbeats 6400000 in
theorem notify_calls (ok : Nat → Prop) (m : ByteArray) (vy : Value) (y : S27) (w0 : World) (hok : ∀ k, w0.heap.size ≤ k → ok k) (hy : Kv k27 ok w0 vy y) : Calls Tryd.prog 33 #[.string m, vy] w0 (KPost k27 ok w0 (⟨6, ⟨#[]⟩, [⟨#[106, 115, 111, 110, 114, 112, 99]⟩, ⟨#[109, 101, 116, 104, 111, 100]⟩, ⟨#[112, 97, 114, 97, 109, 115]⟩], [(⟨4, ⟨#[50, 46, 48]⟩, [], []⟩ : S27), (⟨4, m, [], []⟩ : S27), y]⟩ : S27)) := by
 obtain ⟨y2, yn2, y3, yn3, rfl, yl2, yg2, yl3, yg3⟩ := (hy).open27
 obtain ⟨O, hO, hO1⟩ : ∃ O : Nat → Prop, (∀ k, O k → ok k ∧ k ≠ w0.heap.size + 1) ∧ (∀ k, ok k → k ≠ w0.heap.size + 1 → O k) := ⟨fun k => ok k ∧ k ≠ _, fun _ h => h, fun _ h h' => ⟨h, h'⟩⟩
 obtain ⟨L, hL⟩ : ∃ L : List UpP, L = [uBlk (w0.heap.size + 1) [.int .i64 0, .string ⟨#[]⟩, .slice none 0 0, .slice none 0 0] 27, uBlk w0.heap.size [.int .i64 y.f0, .string y.f1, .slice y2 y.f2.length yn2, .slice y3 y.f3.length yn3] 27, uK k27 O (.agg #[.int .i64 y.f0, .string y.f1, .slice y2 y.f2.length yn2, .slice y3 y.f3.length yn3]) y, uB w0] := ⟨_, rfl⟩
 have hO2 : ∀ (w : World), Ctx L w → ∀ k, w.heap.size ≤ k → O k := fun w hC k hk => by
  subst hL;have := blk_lt hC.1;exact hO1 k (hok k (by omega)) (by omega)
 have hy := hy.bound.mono (fun k hk => hO1 k hk.1 (by omega))
 have C0 : Ctx L ((w0.alloc (.cells #[.int .i64 y.f0, .string y.f1, .slice y2 y.f2.length yn2, .slice y3 y.f3.length yn3] 27 (0, 0))).alloc (.cells #[.int .i64 0, .string ⟨#[]⟩, .slice none 0 0, .slice none 0 0] 27 (0, 0))) := by
  have e := (Ctx.new (cs := [.int .i64 0, .string ⟨#[]⟩, .slice none 0 0, .slice none 0 0]) (t := 27) (Ctx.new (cs := [.int .i64 y.f0, .string y.f1, .slice y2 y.f2.length yn2, .slice y3 y.f3.length yn3]) (t := 27) (Ctx.cons (uK k27 O _ y) hy (Ctx.cons (uB w0) (Below.refl _ _) (Ctx.nil)))))
  rw [hL]
  simpa using e
 go_enter Tryd.func33, Tryd.ntmps33
 go_upto_region 1 with fail
 refine absW _ C0 ?_;clear C0;subst hL;intro w1 C;refine flowL (m := 9) tab33_1 rfl (Ctx _) (Rl [uKd k27 O (⟨4, ⟨#[50, 46, 48]⟩, [], []⟩ : S27), uKd k30 O ⟨⟨#[106, 115, 111, 110, 114, 112, 99]⟩, (⟨4, ⟨#[50, 46, 48]⟩, [], []⟩ : S27)⟩, uEq (.string m), uKd k27 O (⟨4, m, [], []⟩ : S27), uKd k30 O ⟨⟨#[109, 101, 116, 104, 111, 100]⟩, (⟨4, m, [], []⟩ : S27)⟩, uEq (.agg #[.int .i64 y.f0, .string y.f1, .slice y2 y.f2.length yn2, .slice y3 y.f3.length yn3]), uKd k30 O ⟨⟨#[112, 97, 114, 97, 109, 115]⟩, y⟩, uCv k30 O [(⟨⟨#[106, 115, 111, 110, 114, 112, 99]⟩, (⟨4, ⟨#[50, 46, 48]⟩, [], []⟩ : S27)⟩ : S30), (⟨⟨#[109, 101, 116, 104, 111, 100]⟩, (⟨4, m, [], []⟩ : S27)⟩ : S30), (⟨⟨#[112, 97, 114, 97, 109, 115]⟩, y⟩ : S30)], uKd k27 O (⟨6, ⟨#[]⟩, [⟨#[106, 115, 111, 110, 114, 112, 99]⟩, ⟨#[109, 101, 116, 104, 111, 100]⟩, ⟨#[112, 97, 114, 97, 109, 115]⟩], [(⟨4, ⟨#[50, 46, 48]⟩, [], []⟩ : S27), (⟨4, m, [], []⟩ : S27), y]⟩ : S27)]) rfl (by kernel_rfl) (fun _ _ h hb => h.below hb) (Rl.up _) C ⟨⟨⟨⟨⟨⟨⟨⟨⟨trivial, ?_⟩, ?_⟩, ?_⟩, ?_⟩, ?_⟩, ?_⟩, ?_⟩, ?_⟩, ?_⟩ _ rfl ?_
 ·refine At.of _ rfl (fun e a w hC hd hb K hK => ?_)
  refine goes_ Tryd.func13 (by kernel_rfl) rfl #[.string ⟨#[50, 46, 48]⟩] (by rfl) rfl rfl (by first | (simp [Act.eval]; done) | (simp [Act.eval]; rfl)) ?_;refine (textJ _ w (hO2 w hC)).mono ?_;rintro en w' ⟨v, rfl, hv, hb'⟩;exact ⟨v, rfl, hK.out v w' hb' hv⟩
 ·refine At.of _ rfl (fun e a w hC hd hb K hK => ?_)
  have q0 := (hd 0 (by decide)).2 5 rfl;obtain ⟨u2, un2, u3, un3, ue, ul2, ug2, ul3, ug3⟩ := (show Kv k27 O w (e 0) (⟨4, ⟨#[50, 46, 48]⟩, [], []⟩ : S27) from (hd 0 (by decide)).1).open27;rw [ue] at q0;refine value_ (w1 := w) (v := .agg #[.string ⟨#[106, 115, 111, 110, 114, 112, 99]⟩, .int .i64 (⟨4, ⟨#[50, 46, 48]⟩, [], []⟩ : S27).f0, .string (⟨4, ⟨#[50, 46, 48]⟩, [], []⟩ : S27).f1, .slice u2 (⟨4, ⟨#[50, 46, 48]⟩, [], []⟩ : S27).f2.length un2, .slice u3 (⟨4, ⟨#[50, 46, 48]⟩, [], []⟩ : S27).f3.length un3]) (by rfl) rfl ?_ (hK.out _ _ (Below.refl _ _) (q30 (s := (⟨4, ⟨#[50, 46, 48]⟩, [], []⟩ : S27)) ul2 ug2 ul3 ug3 rfl));clear hC hd hb hK
  first | (go_simp; done) | (go_simp; rfl)
 ·refine At.of _ rfl (fun e a w hC hd hb K hK => ?_)
  have b0 : a.tmps[0]? = some (.string m) := hb 0 (by decide);refine value_ (w1 := w) (v := .string m) (by rfl) rfl ?_ (hK.out _ _ (Below.refl _ _) rfl);clear hC hd hb hK
  first | (go_simp; done) | (go_simp; rfl)
 ·refine At.of _ rfl (fun e a w hC hd hb K hK => ?_)
  have q2 := (hd 2 (by decide)).2 7 rfl;rw [show e 2 = _ from (hd 2 (by decide)).1] at q2;refine goes_ Tryd.func13 (by kernel_rfl) rfl #[.string m] (by rfl) rfl rfl (by first | (simp [Act.eval, q2]; done) | (simp [Act.eval, q2]; rfl)) ?_;refine (textJ _ w (hO2 w hC)).mono ?_;rintro en w' ⟨v, rfl, hv, hb'⟩;exact ⟨v, rfl, hK.out v w' hb' hv⟩
 ·refine At.of _ rfl (fun e a w hC hd hb K hK => ?_)
  have q3 := (hd 3 (by decide)).2 8 rfl;obtain ⟨u2, un2, u3, un3, ue, ul2, ug2, ul3, ug3⟩ := (show Kv k27 O w (e 3) (⟨4, m, [], []⟩ : S27) from (hd 3 (by decide)).1).open27;rw [ue] at q3;refine value_ (w1 := w) (v := .agg #[.string ⟨#[109, 101, 116, 104, 111, 100]⟩, .int .i64 (⟨4, m, [], []⟩ : S27).f0, .string (⟨4, m, [], []⟩ : S27).f1, .slice u2 (⟨4, m, [], []⟩ : S27).f2.length un2, .slice u3 (⟨4, m, [], []⟩ : S27).f3.length un3]) (by rfl) rfl ?_ (hK.out _ _ (Below.refl _ _) (q30 (s := (⟨4, m, [], []⟩ : S27)) ul2 ug2 ul3 ug3 rfl));clear hC hd hb hK
  first | (go_simp; done) | (go_simp; rfl)
 ·refine At.of _ rfl (fun e a w hC hd hb K hK => ?_)
  have b3 : a.tmps[3]? = some (.pointer (some ⟨w0.heap.size, 0, none⟩)) := hb 3 (by decide);have cy0 : w.cell? ⟨w0.heap.size, 0, none⟩ = some (.int .i64 y.f0) := Ctx.blk hC.2.1 0 rfl;have cy1 : w.cell? ⟨w0.heap.size, 1, none⟩ = some (.string y.f1) := Ctx.blk hC.2.1 1 rfl;have cy2 : w.cell? ⟨w0.heap.size, 2, none⟩ = some (.slice y2 y.f2.length yn2) := Ctx.blk hC.2.1 2 rfl;have cy3 : w.cell? ⟨w0.heap.size, 3, none⟩ = some (.slice y3 y.f3.length yn3) := Ctx.blk hC.2.1 3 rfl;refine value_ (w1 := w) (v := .agg #[.int .i64 y.f0, .string y.f1, .slice y2 y.f2.length yn2, .slice y3 y.f3.length yn3]) (by rfl) rfl ?_ (hK.out _ _ (Below.refl _ _) rfl);clear hC hd hb hK
  first | (go_simp; done) | (go_simp; rfl)
 ·refine At.of _ rfl (fun e a w hC hd hb K hK => ?_)
  have q5 := (hd 5 (by decide)).2 10 rfl;rw [show e 5 = _ from (hd 5 (by decide)).1] at q5;obtain ⟨_, ul2, ug2, ul3, ug3⟩ := k27_of hC.2.2.1;refine value_ (w1 := w) (v := .agg #[.string ⟨#[112, 97, 114, 97, 109, 115]⟩, .int .i64 y.f0, .string y.f1, .slice y2 y.f2.length yn2, .slice y3 y.f3.length yn3]) (by rfl) rfl ?_ (hK.out _ _ (Below.refl _ _) (q30 (s := y) ul2 ug2 ul3 ug3 rfl));clear hC hd hb hK
  first | (go_simp; done) | (go_simp; rfl)
 ·refine At.of _ rfl (fun e a w hC hd hb K hK => ?_)
  have q1 := (hd 1 (by decide)).2 6 rfl;obtain ⟨u2, un2, u3, un3, ue, uk⟩ := (show Kv k30 O w (e 1) (⟨⟨#[106, 115, 111, 110, 114, 112, 99]⟩, (⟨4, ⟨#[50, 46, 48]⟩, [], []⟩ : S27)⟩ : S30) from (hd 1 (by decide)).1).open30;rw [ue] at q1;have q4 := (hd 4 (by decide)).2 9 rfl;obtain ⟨v2, vn2, v3, vn3, ve, vk⟩ := (show Kv k30 O w (e 4) (⟨⟨#[109, 101, 116, 104, 111, 100]⟩, (⟨4, m, [], []⟩ : S27)⟩ : S30) from (hd 4 (by decide)).1).open30;rw [ve] at q4;have q6 := (hd 6 (by decide)).2 11 rfl;obtain ⟨t2, tn2, t3, tn3, te, tk⟩ := (show Kv k30 O w (e 6) (⟨⟨#[112, 97, 114, 97, 109, 115]⟩, y⟩ : S30) from (hd 6 (by decide)).1).open30;rw [te] at q6;refine value_ (w1 := w.alloc (.cells #[.string (⟨⟨#[106, 115, 111, 110, 114, 112, 99]⟩, (⟨4, ⟨#[50, 46, 48]⟩, [], []⟩ : S27)⟩ : S30).f0, .int .i64 (⟨⟨#[106, 115, 111, 110, 114, 112, 99]⟩, (⟨4, ⟨#[50, 46, 48]⟩, [], []⟩ : S27)⟩ : S30).f1.f0, .string (⟨⟨#[106, 115, 111, 110, 114, 112, 99]⟩, (⟨4, ⟨#[50, 46, 48]⟩, [], []⟩ : S27)⟩ : S30).f1.f1, .slice u2 (⟨⟨#[106, 115, 111, 110, 114, 112, 99]⟩, (⟨4, ⟨#[50, 46, 48]⟩, [], []⟩ : S27)⟩ : S30).f1.f2.length un2, .slice u3 (⟨⟨#[106, 115, 111, 110, 114, 112, 99]⟩, (⟨4, ⟨#[50, 46, 48]⟩, [], []⟩ : S27)⟩ : S30).f1.f3.length un3, .string (⟨⟨#[109, 101, 116, 104, 111, 100]⟩, (⟨4, m, [], []⟩ : S27)⟩ : S30).f0, .int .i64 (⟨⟨#[109, 101, 116, 104, 111, 100]⟩, (⟨4, m, [], []⟩ : S27)⟩ : S30).f1.f0, .string (⟨⟨#[109, 101, 116, 104, 111, 100]⟩, (⟨4, m, [], []⟩ : S27)⟩ : S30).f1.f1, .slice v2 (⟨⟨#[109, 101, 116, 104, 111, 100]⟩, (⟨4, m, [], []⟩ : S27)⟩ : S30).f1.f2.length vn2, .slice v3 (⟨⟨#[109, 101, 116, 104, 111, 100]⟩, (⟨4, m, [], []⟩ : S27)⟩ : S30).f1.f3.length vn3, .string (⟨⟨#[112, 97, 114, 97, 109, 115]⟩, y⟩ : S30).f0, .int .i64 (⟨⟨#[112, 97, 114, 97, 109, 115]⟩, y⟩ : S30).f1.f0, .string (⟨⟨#[112, 97, 114, 97, 109, 115]⟩, y⟩ : S30).f1.f1, .slice t2 (⟨⟨#[112, 97, 114, 97, 109, 115]⟩, y⟩ : S30).f1.f2.length tn2, .slice t3 (⟨⟨#[112, 97, 114, 97, 109, 115]⟩, y⟩ : S30).f1.f3.length tn3] 30 (0, 0))) (v := .slice (some ⟨w.heap.size, 0, none⟩) 3 3) (by rfl) rfl ?_ (hK.out _ _ (bal (Below.refl _ _) _) ⟨_, 3, rfl, Nat.le_refl _, F_block (css := [[.string (⟨⟨#[106, 115, 111, 110, 114, 112, 99]⟩, (⟨4, ⟨#[50, 46, 48]⟩, [], []⟩ : S27)⟩ : S30).f0, .int .i64 (⟨⟨#[106, 115, 111, 110, 114, 112, 99]⟩, (⟨4, ⟨#[50, 46, 48]⟩, [], []⟩ : S27)⟩ : S30).f1.f0, .string (⟨⟨#[106, 115, 111, 110, 114, 112, 99]⟩, (⟨4, ⟨#[50, 46, 48]⟩, [], []⟩ : S27)⟩ : S30).f1.f1, .slice u2 (⟨⟨#[106, 115, 111, 110, 114, 112, 99]⟩, (⟨4, ⟨#[50, 46, 48]⟩, [], []⟩ : S27)⟩ : S30).f1.f2.length un2, .slice u3 (⟨⟨#[106, 115, 111, 110, 114, 112, 99]⟩, (⟨4, ⟨#[50, 46, 48]⟩, [], []⟩ : S27)⟩ : S30).f1.f3.length un3], [.string (⟨⟨#[109, 101, 116, 104, 111, 100]⟩, (⟨4, m, [], []⟩ : S27)⟩ : S30).f0, .int .i64 (⟨⟨#[109, 101, 116, 104, 111, 100]⟩, (⟨4, m, [], []⟩ : S27)⟩ : S30).f1.f0, .string (⟨⟨#[109, 101, 116, 104, 111, 100]⟩, (⟨4, m, [], []⟩ : S27)⟩ : S30).f1.f1, .slice v2 (⟨⟨#[109, 101, 116, 104, 111, 100]⟩, (⟨4, m, [], []⟩ : S27)⟩ : S30).f1.f2.length vn2, .slice v3 (⟨⟨#[109, 101, 116, 104, 111, 100]⟩, (⟨4, m, [], []⟩ : S27)⟩ : S30).f1.f3.length vn3], [.string (⟨⟨#[112, 97, 114, 97, 109, 115]⟩, y⟩ : S30).f0, .int .i64 (⟨⟨#[112, 97, 114, 97, 109, 115]⟩, y⟩ : S30).f1.f0, .string (⟨⟨#[112, 97, 114, 97, 109, 115]⟩, y⟩ : S30).f1.f1, .slice t2 (⟨⟨#[112, 97, 114, 97, 109, 115]⟩, y⟩ : S30).f1.f2.length tn2, .slice t3 (⟨⟨#[112, 97, 114, 97, 109, 115]⟩, y⟩ : S30).f1.f3.length tn3]]) (blk_new w _) (hO2 w hC _ (Nat.le_refl _)) rfl (by simp) (three (Kd.FK_below uk (bal (Below.refl _ _) _)) (Kd.FK_below vk (bal (Below.refl _ _) _)) (Kd.FK_below tk (bal (Below.refl _ _) _)))⟩)
  clear hC hd hb hK
  first | (go_simp; done) | (go_simp; rfl)
 ·refine At.of _ rfl (fun e a w hC hd hb K hK => ?_)
  have q7 := (hd 7 (by decide)).2 12 rfl
  obtain ⟨A, c, ae, hc, hA⟩ := (show Cv k30 O w (e 7) [(⟨⟨#[106, 115, 111, 110, 114, 112, 99]⟩, (⟨4, ⟨#[50, 46, 48]⟩, [], []⟩ : S27)⟩ : S30), (⟨⟨#[109, 101, 116, 104, 111, 100]⟩, (⟨4, m, [], []⟩ : S27)⟩ : S30), (⟨⟨#[112, 97, 114, 97, 109, 115]⟩, y⟩ : S30)] from (hd 7 (by decide)).1)
  rw [ae] at q7;refine goes_ Tryd.func11 (by kernel_rfl) rfl #[.slice A 3 c] (by rfl) rfl rfl (by first | (simp [Act.eval, q7]; done) | (simp [Act.eval, q7]; rfl)) ?_;refine (madeJ A c [(⟨⟨#[106, 115, 111, 110, 114, 112, 99]⟩, (⟨4, ⟨#[50, 46, 48]⟩, [], []⟩ : S27)⟩ : S30), (⟨⟨#[109, 101, 116, 104, 111, 100]⟩, (⟨4, m, [], []⟩ : S27)⟩ : S30), (⟨⟨#[112, 97, 114, 97, 109, 115]⟩, y⟩ : S30)] w (hO2 w hC) hc hA (by simp)).mono ?_;rintro en w' ⟨v, rfl, hv, hb'⟩;exact ⟨v, rfl, hK.out v w' hb' hv⟩
 ·intro e w hC hr a ha K hK
  have hv : Kv k27 O w (e 8) (⟨6, ⟨#[]⟩, [⟨#[106, 115, 111, 110, 114, 112, 99]⟩, ⟨#[109, 101, 116, 104, 111, 100]⟩, ⟨#[112, 97, 114, 97, 109, 115]⟩], [(⟨4, ⟨#[50, 46, 48]⟩, [], []⟩ : S27), (⟨4, m, [], []⟩ : S27), y]⟩ : S27) := hr.2;obtain ⟨z2, zn2, z3, zn3, ze, -⟩ := hv.open27;rw [ze] at hv;simp only [fill, Act.put, ze, Nat.reduceAdd, Nat.reduceLT, decide_true, decide_false, if_true, Bool.false_eq_true, if_false, List.setIfInBounds_toArray, List.set_cons_zero, List.set_cons_succ] at ha;subst ha;have E := end4 hC.1 hC.2.2.2.1 (by omega) hO hv _ rfl;have z0_ := Ctx.blk hC.1 0 rfl;have z1_ := Ctx.blk hC.1 1 rfl;have z2_ := Ctx.blk hC.1 2 rfl;have z3_ := Ctx.blk hC.1 3 rfl;have f0_ := Ctx.frz hC.1 0;have f1_ := Ctx.frz hC.1 1;have f2_ := Ctx.frz hC.1 2;have f3_ := Ctx.frz hC.1 3;refine skip_ (w1 := ?_) (by rfl) rfl ?_ ?_
  rotate_left
  ·go_simp
   rfl
  refine hK.out _ _ ?_;go_wp2;clear hC hK hr z0_ z1_ z2_ z3_ f0_ f1_ f2_ f3_;generalize World.setCell _ _ _ = wf at E ⊢;obtain ⟨EP, c0, c1, c2, c3⟩ := E;exact bodyPost_ret (v := .agg #[.int .i64 _, .string _, .slice z2 _ zn2, .slice z3 _ zn3]) (by simp [results, Tryd.results33, go_sem, c0, c1, c2, c3]) rfl EP
theorem tab34_1 : tabOf (opsOf Tryd.f34 1) = ([some 7, some 8, some 9, some 10, some 11, some 12, some 13, none], [[], [0], [], [], [], [2, 3, 4], [1, 5, 2], [6, 6, 0, 1, 2, 3, 4, 5, 6]]) := by kernel_rfl
set_option maxRecDepth 100000 in
set_option maxHeartbeats 6400000 in
theorem reply44_calls (ok : Nat → Prop) (key : ByteArray) (vx vy : Value) (x y : S44) (w0 : World) (hok : ∀ k, w0.heap.size ≤ k → ok k) (hx : Kv k44 ok w0 vx x) (hy : Kv k44 ok w0 vy y) : Calls Tryd.prog 34 #[vx, .string key, vy] w0 (KPost k44 ok w0 (⟨6, ⟨#[]⟩, [⟨#[106, 115, 111, 110, 114, 112, 99]⟩, ⟨#[105, 100]⟩, key], [(⟨4, ⟨#[50, 46, 48]⟩, [], []⟩ : S44), x, y]⟩ : S44)) := by
 obtain ⟨x2, xn2, x3, xn3, rfl, xl2, xg2, xl3, xg3⟩ := (hx).open44;obtain ⟨y2, yn2, y3, yn3, rfl, yl2, yg2, yl3, yg3⟩ := (hy).open44
 obtain ⟨O, hO, hO1⟩ : ∃ O : Nat → Prop, (∀ k, O k → ok k ∧ k ≠ w0.heap.size + 2) ∧ (∀ k, ok k → k ≠ w0.heap.size + 2 → O k) := ⟨fun k => ok k ∧ k ≠ _, fun _ h => h, fun _ h h' => ⟨h, h'⟩⟩
 obtain ⟨L, hL⟩ : ∃ L : List UpP, L = [uBlk (w0.heap.size + 2) [.int .i64 0, .string ⟨#[]⟩, .slice none 0 0, .slice none 0 0] 44, uBlk (w0.heap.size + 1) [.int .i64 y.f0, .string y.f1, .slice y2 y.f2.length yn2, .slice y3 y.f3.length yn3] 44, uBlk w0.heap.size [.int .i64 x.f0, .string x.f1, .slice x2 x.f2.length xn2, .slice x3 x.f3.length xn3] 44, uK k44 O (.agg #[.int .i64 x.f0, .string x.f1, .slice x2 x.f2.length xn2, .slice x3 x.f3.length xn3]) x, uK k44 O (.agg #[.int .i64 y.f0, .string y.f1, .slice y2 y.f2.length yn2, .slice y3 y.f3.length yn3]) y, uB w0] := ⟨_, rfl⟩
 have hO2 : ∀ (w : World), Ctx L w → ∀ k, w.heap.size ≤ k → O k := fun w hC k hk => by
  subst hL;have := blk_lt hC.1;exact hO1 k (hok k (by omega)) (by omega)
 have hx := hx.bound.mono (fun k hk => hO1 k hk.1 (by omega));have hy := hy.bound.mono (fun k hk => hO1 k hk.1 (by omega))
 have C0 : Ctx L (((w0.alloc (.cells #[.int .i64 x.f0, .string x.f1, .slice x2 x.f2.length xn2, .slice x3 x.f3.length xn3] 44 (0, 0))).alloc (.cells #[.int .i64 y.f0, .string y.f1, .slice y2 y.f2.length yn2, .slice y3 y.f3.length yn3] 44 (0, 0))).alloc (.cells #[.int .i64 0, .string ⟨#[]⟩, .slice none 0 0, .slice none 0 0] 44 (0, 0))) := by
  have e := (Ctx.new (cs := [.int .i64 0, .string ⟨#[]⟩, .slice none 0 0, .slice none 0 0]) (t := 44) (Ctx.new (cs := [.int .i64 y.f0, .string y.f1, .slice y2 y.f2.length yn2, .slice y3 y.f3.length yn3]) (t := 44) (Ctx.new (cs := [.int .i64 x.f0, .string x.f1, .slice x2 x.f2.length xn2, .slice x3 x.f3.length xn3]) (t := 44) (Ctx.cons (uK k44 O _ x) hx (Ctx.cons (uK k44 O _ y) hy (Ctx.cons (uB w0) (Below.refl _ _) (Ctx.nil)))))))
  rw [hL]
  simpa using e
 go_enter Tryd.func34, Tryd.ntmps34
 go_upto_region 1 with fail
 refine absW _ C0 ?_;clear C0;subst hL;intro w1 C;refine flowL (m := 7) tab34_1 rfl (Ctx _) (Rl [uEq (.string key), uCv Kd.string O [⟨#[106, 115, 111, 110, 114, 112, 99]⟩, ⟨#[105, 100]⟩, key], uKd k44 O (⟨4, ⟨#[50, 46, 48]⟩, [], []⟩ : S44), uEq (.agg #[.int .i64 x.f0, .string x.f1, .slice x2 x.f2.length xn2, .slice x3 x.f3.length xn3]), uEq (.agg #[.int .i64 y.f0, .string y.f1, .slice y2 y.f2.length yn2, .slice y3 y.f3.length yn3]), uCv k44 O [(⟨4, ⟨#[50, 46, 48]⟩, [], []⟩ : S44), x, y], uKd k44 O (⟨6, ⟨#[]⟩, [⟨#[106, 115, 111, 110, 114, 112, 99]⟩, ⟨#[105, 100]⟩, key], [(⟨4, ⟨#[50, 46, 48]⟩, [], []⟩ : S44), x, y]⟩ : S44)]) rfl (by kernel_rfl) (fun _ _ h hb => h.below hb) (Rl.up _) C ⟨⟨⟨⟨⟨⟨⟨trivial, ?_⟩, ?_⟩, ?_⟩, ?_⟩, ?_⟩, ?_⟩, ?_⟩ _ rfl ?_
 ·refine At.of _ rfl (fun e a w hC hd hb K hK => ?_)
  have b1 : a.tmps[1]? = some (.string key) := hb 1 (by decide);refine value_ (w1 := w) (v := .string key) (by rfl) rfl ?_ (hK.out _ _ (Below.refl _ _) rfl);clear hC hd hb hK
  first | (go_simp; done) | (go_simp; rfl)
 ·refine At.of _ rfl (fun e a w hC hd hb K hK => ?_)
  have q0 := (hd 0 (by decide)).2 7 rfl;rw [show e 0 = _ from (hd 0 (by decide)).1] at q0;refine value_ (w1 := w.alloc (.cells #[.string ⟨#[106, 115, 111, 110, 114, 112, 99]⟩, .string ⟨#[105, 100]⟩, .string key] 9 (0, 0))) (v := .slice (some ⟨w.heap.size, 0, none⟩) 3 3) (by rfl) rfl ?_ (hK.out _ _ (bal (Below.refl _ _) _) ⟨_, 3, rfl, Nat.le_refl _, F_block (css := [[.string ⟨#[106, 115, 111, 110, 114, 112, 99]⟩], [.string ⟨#[105, 100]⟩], [.string key]]) (blk_new w _) (hO2 w hC _ (Nat.le_refl _)) rfl (by simp) (three (fun _ _ => rfl) (fun _ _ => rfl) (fun _ _ => rfl))⟩);clear hC hd hb hK
  first | (go_simp; done) | (go_simp; rfl)
 ·refine At.of _ rfl (fun e a w hC hd hb K hK => ?_)
  refine goes_ Tryd.func53 (by kernel_rfl) rfl #[.string ⟨#[50, 46, 48]⟩] (by rfl) rfl rfl (by first | (simp [Act.eval]; done) | (simp [Act.eval]; rfl)) ?_;refine (text44 _ w (hO2 w hC)).mono ?_;rintro en w' ⟨v, rfl, hv, hb'⟩;exact ⟨v, rfl, hK.out v w' hb' hv⟩
 ·refine At.of _ rfl (fun e a w hC hd hb K hK => ?_)
  have b3 : a.tmps[3]? = some (.pointer (some ⟨w0.heap.size, 0, none⟩)) := hb 3 (by decide);have cx0 : w.cell? ⟨w0.heap.size, 0, none⟩ = some (.int .i64 x.f0) := Ctx.blk hC.2.2.1 0 rfl;have cx1 : w.cell? ⟨w0.heap.size, 1, none⟩ = some (.string x.f1) := Ctx.blk hC.2.2.1 1 rfl;have cx2 : w.cell? ⟨w0.heap.size, 2, none⟩ = some (.slice x2 x.f2.length xn2) := Ctx.blk hC.2.2.1 2 rfl;have cx3 : w.cell? ⟨w0.heap.size, 3, none⟩ = some (.slice x3 x.f3.length xn3) := Ctx.blk hC.2.2.1 3 rfl;refine value_ (w1 := w) (v := .agg #[.int .i64 x.f0, .string x.f1, .slice x2 x.f2.length xn2, .slice x3 x.f3.length xn3]) (by rfl) rfl ?_ (hK.out _ _ (Below.refl _ _) rfl);clear hC hd hb hK
  first | (go_simp; done) | (go_simp; rfl)
 ·refine At.of _ rfl (fun e a w hC hd hb K hK => ?_)
  have b5 : a.tmps[5]? = some (.pointer (some ⟨w0.heap.size + 1, 0, none⟩)) := hb 5 (by decide);have cy0 : w.cell? ⟨w0.heap.size + 1, 0, none⟩ = some (.int .i64 y.f0) := Ctx.blk hC.2.1 0 rfl;have cy1 : w.cell? ⟨w0.heap.size + 1, 1, none⟩ = some (.string y.f1) := Ctx.blk hC.2.1 1 rfl;have cy2 : w.cell? ⟨w0.heap.size + 1, 2, none⟩ = some (.slice y2 y.f2.length yn2) := Ctx.blk hC.2.1 2 rfl;have cy3 : w.cell? ⟨w0.heap.size + 1, 3, none⟩ = some (.slice y3 y.f3.length yn3) := Ctx.blk hC.2.1 3 rfl;refine value_ (w1 := w) (v := .agg #[.int .i64 y.f0, .string y.f1, .slice y2 y.f2.length yn2, .slice y3 y.f3.length yn3]) (by rfl) rfl ?_ (hK.out _ _ (Below.refl _ _) rfl);clear hC hd hb hK
  first | (go_simp; done) | (go_simp; rfl)
 ·refine At.of _ rfl (fun e a w hC hd hb K hK => ?_)
  have q2 := (hd 2 (by decide)).2 9 rfl;obtain ⟨u2, un2, u3, un3, ue, uk⟩ := (show Kv k44 O w (e 2) (⟨4, ⟨#[50, 46, 48]⟩, [], []⟩ : S44) from (hd 2 (by decide)).1).openK;rw [ue] at q2;have q3 := (hd 3 (by decide)).2 10 rfl;rw [show e 3 = _ from (hd 3 (by decide)).1] at q3;have vk := k44_K hC.2.2.2.1;have q4 := (hd 4 (by decide)).2 11 rfl;rw [show e 4 = _ from (hd 4 (by decide)).1] at q4;have tk := k44_K hC.2.2.2.2.1;refine value_ (w1 := w.alloc (.cells #[.int .i64 (⟨4, ⟨#[50, 46, 48]⟩, [], []⟩ : S44).f0, .string (⟨4, ⟨#[50, 46, 48]⟩, [], []⟩ : S44).f1, .slice u2 (⟨4, ⟨#[50, 46, 48]⟩, [], []⟩ : S44).f2.length un2, .slice u3 (⟨4, ⟨#[50, 46, 48]⟩, [], []⟩ : S44).f3.length un3, .int .i64 x.f0, .string x.f1, .slice x2 x.f2.length xn2, .slice x3 x.f3.length xn3, .int .i64 y.f0, .string y.f1, .slice y2 y.f2.length yn2, .slice y3 y.f3.length yn3] 44 (0, 0))) (v := .slice (some ⟨w.heap.size, 0, none⟩) 3 3) (by rfl) rfl ?_ (hK.out _ _ (bal (Below.refl _ _) _) ⟨_, 3, rfl, Nat.le_refl _, F_block (css := [[.int .i64 (⟨4, ⟨#[50, 46, 48]⟩, [], []⟩ : S44).f0, .string (⟨4, ⟨#[50, 46, 48]⟩, [], []⟩ : S44).f1, .slice u2 (⟨4, ⟨#[50, 46, 48]⟩, [], []⟩ : S44).f2.length un2, .slice u3 (⟨4, ⟨#[50, 46, 48]⟩, [], []⟩ : S44).f3.length un3], [.int .i64 x.f0, .string x.f1, .slice x2 x.f2.length xn2, .slice x3 x.f3.length xn3], [.int .i64 y.f0, .string y.f1, .slice y2 y.f2.length yn2, .slice y3 y.f3.length yn3]]) (blk_new w _) (hO2 w hC _ (Nat.le_refl _)) rfl (by simp) (three (Kd.FK_below uk (bal (Below.refl _ _) _)) (Kd.FK_below vk (bal (Below.refl _ _) _)) (Kd.FK_below tk (bal (Below.refl _ _) _)))⟩);clear hC hd hb hK
  first | (go_simp; done) | (go_simp; rfl)
 ·refine At.of _ rfl (fun e a w hC hd hb K hK => ?_)
  have q1 := (hd 1 (by decide)).2 8 rfl
  obtain ⟨A, Ac, Ae, Ah, AF⟩ := (show Cv Kd.string O w (e 1) [⟨#[106, 115, 111, 110, 114, 112, 99]⟩, ⟨#[105, 100]⟩, key] from (hd 1 (by decide)).1)
  rw [Ae] at q1;have q5 := (hd 5 (by decide)).2 12 rfl
  obtain ⟨B, Bc, Be, Bh, BF⟩ := (show Cv k44 O w (e 5) [(⟨4, ⟨#[50, 46, 48]⟩, [], []⟩ : S44), x, y] from (hd 5 (by decide)).1)
  rw [Be] at q5;refine goes_ Tryd.func52 (by kernel_rfl) rfl #[.slice A 3 Ac, .slice B 3 Bc] (by rfl) rfl rfl (by first | (simp [Act.eval, q1, q5]; done) | (simp [Act.eval, q1, q5]; rfl)) ?_;refine (object44 [⟨#[106, 115, 111, 110, 114, 112, 99]⟩, ⟨#[105, 100]⟩, key] [(⟨4, ⟨#[50, 46, 48]⟩, [], []⟩ : S44), x, y] A Ac B Bc w (hO2 w hC) Ah AF Bh BF).mono ?_;rintro en w' ⟨v, rfl, hv, hb'⟩;exact ⟨v, rfl, hK.out v w' hb' hv⟩
 ·intro e w hC hr a ha K hK
  have hv : Kv k44 O w (e 6) (⟨6, ⟨#[]⟩, [⟨#[106, 115, 111, 110, 114, 112, 99]⟩, ⟨#[105, 100]⟩, key], [(⟨4, ⟨#[50, 46, 48]⟩, [], []⟩ : S44), x, y]⟩ : S44) := hr.2;obtain ⟨z2, zn2, z3, zn3, ze, -⟩ := hv.open44;rw [ze] at hv;simp only [fill, Act.put, ze, Nat.reduceAdd, Nat.reduceLT, decide_true, decide_false, if_true, Bool.false_eq_true, if_false, List.setIfInBounds_toArray, List.set_cons_zero, List.set_cons_succ] at ha;subst ha;have E := end4 hC.1 hC.2.2.2.2.2.1 (by omega) hO hv _ rfl;have z0_ := Ctx.blk hC.1 0 rfl;have z1_ := Ctx.blk hC.1 1 rfl;have z2_ := Ctx.blk hC.1 2 rfl;have z3_ := Ctx.blk hC.1 3 rfl;have f0_ := Ctx.frz hC.1 0;have f1_ := Ctx.frz hC.1 1;have f2_ := Ctx.frz hC.1 2;have f3_ := Ctx.frz hC.1 3;refine skip_ (w1 := ?_) (by rfl) rfl ?_ ?_
  rotate_left
  ·go_simp
   rfl
  refine hK.out _ _ ?_;go_wp2;clear hC hK hr z0_ z1_ z2_ z3_ f0_ f1_ f2_ f3_;generalize World.setCell _ _ _ = wf at E ⊢;obtain ⟨EP, c0, c1, c2, c3⟩ := E;exact bodyPost_ret (v := .agg #[.int .i64 _, .string _, .slice z2 _ zn2, .slice z3 _ zn3]) (by simp [results, Tryd.results34, go_sem, c0, c1, c2, c3]) rfl EP
theorem tab36_1 : tabOf (opsOf Tryd.f36 1) = ([some 5, some 6, some 7, some 8, some 9, some 10, some 11, none], [[], [], [], [2, 1], [], [1, 3, 4], [0, 5, 3], [6, 6, 0, 1, 2, 3, 4, 5, 6]]) := by kernel_rfl
set_option maxRecDepth 100000 in
set_option maxHeartbeats 6400000 in
theorem notify44_calls (ok : Nat → Prop) (m : ByteArray) (vy : Value) (y : S44) (w0 : World) (hok : ∀ k, w0.heap.size ≤ k → ok k) (hy : Kv k44 ok w0 vy y) : Calls Tryd.prog 36 #[.string m, vy] w0 (KPost k44 ok w0 (⟨6, ⟨#[]⟩, [⟨#[106, 115, 111, 110, 114, 112, 99]⟩, ⟨#[109, 101, 116, 104, 111, 100]⟩, ⟨#[112, 97, 114, 97, 109, 115]⟩], [(⟨4, ⟨#[50, 46, 48]⟩, [], []⟩ : S44), (⟨4, m, [], []⟩ : S44), y]⟩ : S44)) := by
 obtain ⟨y2, yn2, y3, yn3, rfl, yl2, yg2, yl3, yg3⟩ := (hy).open44
 obtain ⟨O, hO, hO1⟩ : ∃ O : Nat → Prop, (∀ k, O k → ok k ∧ k ≠ w0.heap.size + 1) ∧ (∀ k, ok k → k ≠ w0.heap.size + 1 → O k) := ⟨fun k => ok k ∧ k ≠ _, fun _ h => h, fun _ h h' => ⟨h, h'⟩⟩
 obtain ⟨L, hL⟩ : ∃ L : List UpP, L = [uBlk (w0.heap.size + 1) [.int .i64 0, .string ⟨#[]⟩, .slice none 0 0, .slice none 0 0] 44, uBlk w0.heap.size [.int .i64 y.f0, .string y.f1, .slice y2 y.f2.length yn2, .slice y3 y.f3.length yn3] 44, uK k44 O (.agg #[.int .i64 y.f0, .string y.f1, .slice y2 y.f2.length yn2, .slice y3 y.f3.length yn3]) y, uB w0] := ⟨_, rfl⟩
 have hO2 : ∀ (w : World), Ctx L w → ∀ k, w.heap.size ≤ k → O k := fun w hC k hk => by
  subst hL;have := blk_lt hC.1;exact hO1 k (hok k (by omega)) (by omega)
 have hy := hy.bound.mono (fun k hk => hO1 k hk.1 (by omega))
 have C0 : Ctx L ((w0.alloc (.cells #[.int .i64 y.f0, .string y.f1, .slice y2 y.f2.length yn2, .slice y3 y.f3.length yn3] 44 (0, 0))).alloc (.cells #[.int .i64 0, .string ⟨#[]⟩, .slice none 0 0, .slice none 0 0] 44 (0, 0))) := by
  have e := (Ctx.new (cs := [.int .i64 0, .string ⟨#[]⟩, .slice none 0 0, .slice none 0 0]) (t := 44) (Ctx.new (cs := [.int .i64 y.f0, .string y.f1, .slice y2 y.f2.length yn2, .slice y3 y.f3.length yn3]) (t := 44) (Ctx.cons (uK k44 O _ y) hy (Ctx.cons (uB w0) (Below.refl _ _) (Ctx.nil)))))
  rw [hL]
  simpa using e
 go_enter Tryd.func36, Tryd.ntmps36
 go_upto_region 1 with fail
 refine absW _ C0 ?_;clear C0;subst hL;intro w1 C;refine flowL (m := 7) tab36_1 rfl (Ctx _) (Rl [uCv Kd.string O [⟨#[106, 115, 111, 110, 114, 112, 99]⟩, ⟨#[109, 101, 116, 104, 111, 100]⟩, ⟨#[112, 97, 114, 97, 109, 115]⟩], uKd k44 O (⟨4, ⟨#[50, 46, 48]⟩, [], []⟩ : S44), uEq (.string m), uKd k44 O (⟨4, m, [], []⟩ : S44), uEq (.agg #[.int .i64 y.f0, .string y.f1, .slice y2 y.f2.length yn2, .slice y3 y.f3.length yn3]), uCv k44 O [(⟨4, ⟨#[50, 46, 48]⟩, [], []⟩ : S44), (⟨4, m, [], []⟩ : S44), y], uKd k44 O (⟨6, ⟨#[]⟩, [⟨#[106, 115, 111, 110, 114, 112, 99]⟩, ⟨#[109, 101, 116, 104, 111, 100]⟩, ⟨#[112, 97, 114, 97, 109, 115]⟩], [(⟨4, ⟨#[50, 46, 48]⟩, [], []⟩ : S44), (⟨4, m, [], []⟩ : S44), y]⟩ : S44)]) rfl (by kernel_rfl) (fun _ _ h hb => h.below hb) (Rl.up _) C ⟨⟨⟨⟨⟨⟨⟨trivial, ?_⟩, ?_⟩, ?_⟩, ?_⟩, ?_⟩, ?_⟩, ?_⟩ _ rfl ?_
 ·refine At.of _ rfl (fun e a w hC hd hb K hK => ?_)
  refine value_ (w1 := w.alloc (.cells #[.string ⟨#[106, 115, 111, 110, 114, 112, 99]⟩, .string ⟨#[109, 101, 116, 104, 111, 100]⟩, .string ⟨#[112, 97, 114, 97, 109, 115]⟩] 9 (0, 0))) (v := .slice (some ⟨w.heap.size, 0, none⟩) 3 3) (by rfl) rfl ?_ (hK.out _ _ (bal (Below.refl _ _) _) ⟨_, 3, rfl, Nat.le_refl _, F_block (css := [[.string ⟨#[106, 115, 111, 110, 114, 112, 99]⟩], [.string ⟨#[109, 101, 116, 104, 111, 100]⟩], [.string ⟨#[112, 97, 114, 97, 109, 115]⟩]]) (blk_new w _) (hO2 w hC _ (Nat.le_refl _)) rfl (by simp) (three (fun _ _ => rfl) (fun _ _ => rfl) (fun _ _ => rfl))⟩);clear hC hd hb hK
  first | (go_simp; done) | (go_simp; rfl)
 ·refine At.of _ rfl (fun e a w hC hd hb K hK => ?_)
  refine goes_ Tryd.func53 (by kernel_rfl) rfl #[.string ⟨#[50, 46, 48]⟩] (by rfl) rfl rfl (by first | (simp [Act.eval]; done) | (simp [Act.eval]; rfl)) ?_;refine (text44 _ w (hO2 w hC)).mono ?_;rintro en w' ⟨v, rfl, hv, hb'⟩;exact ⟨v, rfl, hK.out v w' hb' hv⟩
 ·refine At.of _ rfl (fun e a w hC hd hb K hK => ?_)
  have b0 : a.tmps[0]? = some (.string m) := hb 0 (by decide);refine value_ (w1 := w) (v := .string m) (by rfl) rfl ?_ (hK.out _ _ (Below.refl _ _) rfl);clear hC hd hb hK
  first | (go_simp; done) | (go_simp; rfl)
 ·refine At.of _ rfl (fun e a w hC hd hb K hK => ?_)
  have q2 := (hd 2 (by decide)).2 7 rfl;rw [show e 2 = _ from (hd 2 (by decide)).1] at q2;refine goes_ Tryd.func53 (by kernel_rfl) rfl #[.string m] (by rfl) rfl rfl (by first | (simp [Act.eval, q2]; done) | (simp [Act.eval, q2]; rfl)) ?_;refine (text44 _ w (hO2 w hC)).mono ?_;rintro en w' ⟨v, rfl, hv, hb'⟩;exact ⟨v, rfl, hK.out v w' hb' hv⟩
 ·refine At.of _ rfl (fun e a w hC hd hb K hK => ?_)
  have b3 : a.tmps[3]? = some (.pointer (some ⟨w0.heap.size, 0, none⟩)) := hb 3 (by decide);have cy0 : w.cell? ⟨w0.heap.size, 0, none⟩ = some (.int .i64 y.f0) := Ctx.blk hC.2.1 0 rfl;have cy1 : w.cell? ⟨w0.heap.size, 1, none⟩ = some (.string y.f1) := Ctx.blk hC.2.1 1 rfl;have cy2 : w.cell? ⟨w0.heap.size, 2, none⟩ = some (.slice y2 y.f2.length yn2) := Ctx.blk hC.2.1 2 rfl;have cy3 : w.cell? ⟨w0.heap.size, 3, none⟩ = some (.slice y3 y.f3.length yn3) := Ctx.blk hC.2.1 3 rfl;refine value_ (w1 := w) (v := .agg #[.int .i64 y.f0, .string y.f1, .slice y2 y.f2.length yn2, .slice y3 y.f3.length yn3]) (by rfl) rfl ?_ (hK.out _ _ (Below.refl _ _) rfl);clear hC hd hb hK
  first | (go_simp; done) | (go_simp; rfl)
 ·refine At.of _ rfl (fun e a w hC hd hb K hK => ?_)
  have q1 := (hd 1 (by decide)).2 6 rfl;obtain ⟨u2, un2, u3, un3, ue, uk⟩ := (show Kv k44 O w (e 1) (⟨4, ⟨#[50, 46, 48]⟩, [], []⟩ : S44) from (hd 1 (by decide)).1).openK;rw [ue] at q1;have q3 := (hd 3 (by decide)).2 8 rfl;obtain ⟨v2, vn2, v3, vn3, ve, vk⟩ := (show Kv k44 O w (e 3) (⟨4, m, [], []⟩ : S44) from (hd 3 (by decide)).1).openK;rw [ve] at q3;have q4 := (hd 4 (by decide)).2 9 rfl;rw [show e 4 = _ from (hd 4 (by decide)).1] at q4;have tk := k44_K hC.2.2.1;refine value_ (w1 := w.alloc (.cells #[.int .i64 (⟨4, ⟨#[50, 46, 48]⟩, [], []⟩ : S44).f0, .string (⟨4, ⟨#[50, 46, 48]⟩, [], []⟩ : S44).f1, .slice u2 (⟨4, ⟨#[50, 46, 48]⟩, [], []⟩ : S44).f2.length un2, .slice u3 (⟨4, ⟨#[50, 46, 48]⟩, [], []⟩ : S44).f3.length un3, .int .i64 (⟨4, m, [], []⟩ : S44).f0, .string (⟨4, m, [], []⟩ : S44).f1, .slice v2 (⟨4, m, [], []⟩ : S44).f2.length vn2, .slice v3 (⟨4, m, [], []⟩ : S44).f3.length vn3, .int .i64 y.f0, .string y.f1, .slice y2 y.f2.length yn2, .slice y3 y.f3.length yn3] 44 (0, 0))) (v := .slice (some ⟨w.heap.size, 0, none⟩) 3 3) (by rfl) rfl ?_ (hK.out _ _ (bal (Below.refl _ _) _) ⟨_, 3, rfl, Nat.le_refl _, F_block (css := [[.int .i64 (⟨4, ⟨#[50, 46, 48]⟩, [], []⟩ : S44).f0, .string (⟨4, ⟨#[50, 46, 48]⟩, [], []⟩ : S44).f1, .slice u2 (⟨4, ⟨#[50, 46, 48]⟩, [], []⟩ : S44).f2.length un2, .slice u3 (⟨4, ⟨#[50, 46, 48]⟩, [], []⟩ : S44).f3.length un3], [.int .i64 (⟨4, m, [], []⟩ : S44).f0, .string (⟨4, m, [], []⟩ : S44).f1, .slice v2 (⟨4, m, [], []⟩ : S44).f2.length vn2, .slice v3 (⟨4, m, [], []⟩ : S44).f3.length vn3], [.int .i64 y.f0, .string y.f1, .slice y2 y.f2.length yn2, .slice y3 y.f3.length yn3]]) (blk_new w _) (hO2 w hC _ (Nat.le_refl _)) rfl (by simp) (three (Kd.FK_below uk (bal (Below.refl _ _) _)) (Kd.FK_below vk (bal (Below.refl _ _) _)) (Kd.FK_below tk (bal (Below.refl _ _) _)))⟩);clear hC hd hb hK
  first | (go_simp; done) | (go_simp; rfl)
 ·refine At.of _ rfl (fun e a w hC hd hb K hK => ?_)
  have q0 := (hd 0 (by decide)).2 5 rfl
  obtain ⟨A, Ac, Ae, Ah, AF⟩ := (show Cv Kd.string O w (e 0) [⟨#[106, 115, 111, 110, 114, 112, 99]⟩, ⟨#[109, 101, 116, 104, 111, 100]⟩, ⟨#[112, 97, 114, 97, 109, 115]⟩] from (hd 0 (by decide)).1)
  rw [Ae] at q0;have q5 := (hd 5 (by decide)).2 10 rfl
  obtain ⟨B, Bc, Be, Bh, BF⟩ := (show Cv k44 O w (e 5) [(⟨4, ⟨#[50, 46, 48]⟩, [], []⟩ : S44), (⟨4, m, [], []⟩ : S44), y] from (hd 5 (by decide)).1)
  rw [Be] at q5;refine goes_ Tryd.func52 (by kernel_rfl) rfl #[.slice A 3 Ac, .slice B 3 Bc] (by rfl) rfl rfl (by first | (simp [Act.eval, q0, q5]; done) | (simp [Act.eval, q0, q5]; rfl)) ?_;refine (object44 [⟨#[106, 115, 111, 110, 114, 112, 99]⟩, ⟨#[109, 101, 116, 104, 111, 100]⟩, ⟨#[112, 97, 114, 97, 109, 115]⟩] [(⟨4, ⟨#[50, 46, 48]⟩, [], []⟩ : S44), (⟨4, m, [], []⟩ : S44), y] A Ac B Bc w (hO2 w hC) Ah AF Bh BF).mono ?_;rintro en w' ⟨v, rfl, hv, hb'⟩;exact ⟨v, rfl, hK.out v w' hb' hv⟩
 ·intro e w hC hr a ha K hK
  have hv : Kv k44 O w (e 6) (⟨6, ⟨#[]⟩, [⟨#[106, 115, 111, 110, 114, 112, 99]⟩, ⟨#[109, 101, 116, 104, 111, 100]⟩, ⟨#[112, 97, 114, 97, 109, 115]⟩], [(⟨4, ⟨#[50, 46, 48]⟩, [], []⟩ : S44), (⟨4, m, [], []⟩ : S44), y]⟩ : S44) := hr.2;obtain ⟨z2, zn2, z3, zn3, ze, -⟩ := hv.open44;rw [ze] at hv;simp only [fill, Act.put, ze, Nat.reduceAdd, Nat.reduceLT, decide_true, decide_false, if_true, Bool.false_eq_true, if_false, List.setIfInBounds_toArray, List.set_cons_zero, List.set_cons_succ] at ha;subst ha;have E := end4 hC.1 hC.2.2.2.1 (by omega) hO hv _ rfl;have z0_ := Ctx.blk hC.1 0 rfl;have z1_ := Ctx.blk hC.1 1 rfl;have z2_ := Ctx.blk hC.1 2 rfl;have z3_ := Ctx.blk hC.1 3 rfl;have f0_ := Ctx.frz hC.1 0;have f1_ := Ctx.frz hC.1 1;have f2_ := Ctx.frz hC.1 2;have f3_ := Ctx.frz hC.1 3;refine skip_ (w1 := ?_) (by rfl) rfl ?_ ?_
  rotate_left
  ·go_simp
   rfl
  refine hK.out _ _ ?_;go_wp2;clear hC hK hr z0_ z1_ z2_ z3_ f0_ f1_ f2_ f3_;generalize World.setCell _ _ _ = wf at E ⊢;obtain ⟨EP, c0, c1, c2, c3⟩ := E;exact bodyPost_ret (v := .agg #[.int .i64 _, .string _, .slice z2 _ zn2, .slice z3 _ zn3]) (by simp [results, Tryd.results36, go_sem, c0, c1, c2, c3]) rfl EP
end Go.Proofs.YteighppcdpaekaaDoor.P
end
section
namespace Go.Proofs.YteighppcdpaekaaDoor.P
open Go.RowKit Go.Proofs.YteighppcdpaekaaDoorW.PrintWords Go.Proofs.YteighppcdpaekaaDoorW.PrintLast Go.Proofs.YteighppcdpaekaaDoorW.PrintMore
attribute [local go_sem] max2_int min2_int max_two min_two max_three min_three max_four min_four
set_option linter.unusedVariables false
set_option linter.unusedSimpArgs false
def rpc_message.f (a0 : Int) : Option (ByteArray) := if a0 = (-32700) then (some (⟨#[112, 97, 114, 115, 101, 32, 101, 114, 114, 111, 114]⟩ : ByteArray)) else (if a0 = (-32600) then (some (⟨#[105, 110, 118, 97, 108, 105, 100, 32, 114, 101, 113, 117, 101, 115, 116]⟩ : ByteArray)) else (if a0 = (-32601) then (some (⟨#[117, 110, 107, 110, 111, 119, 110, 32, 109, 101, 116, 104, 111, 100]⟩ : ByteArray)) else (if a0 = (-32602) then (some (⟨#[105, 110, 118, 97, 108, 105, 100, 32, 112, 97, 114, 97, 109, 101, 116, 101, 114, 115]⟩ : ByteArray)) else (if a0 = (-32002) then (some (⟨#[110, 111, 116, 32, 105, 110, 105, 116, 105, 97, 108, 105, 122, 101, 100]⟩ : ByteArray)) else (some (⟨#[101, 114, 114, 111, 114]⟩ : ByteArray))))))
set_option maxHeartbeats 8000000 in
set_option maxRecDepth 100000 in
theorem rpc_message.calls (a0 : Int) (r : ByteArray) (w : World) (h : rpc_message.f a0 = some r) :
  Calls Tryd.prog 51 #[.int .i64 a0] w fun e w' => e = .returned (.string r) ∧ Drawn0 w w' := by
 have H : (if a0 = (-32700) then (some (⟨#[112, 97, 114, 115, 101, 32, 101, 114, 114, 111, 114]⟩ : ByteArray)) else (if a0 = (-32600) then (some (⟨#[105, 110, 118, 97, 108, 105, 100, 32, 114, 101, 113, 117, 101, 115, 116]⟩ : ByteArray)) else (if a0 = (-32601) then (some (⟨#[117, 110, 107, 110, 111, 119, 110, 32, 109, 101, 116, 104, 111, 100]⟩ : ByteArray)) else (if a0 = (-32602) then (some (⟨#[105, 110, 118, 97, 108, 105, 100, 32, 112, 97, 114, 97, 109, 101, 116, 101, 114, 115]⟩ : ByteArray)) else (if a0 = (-32002) then (some (⟨#[110, 111, 116, 32, 105, 110, 105, 116, 105, 97, 108, 105, 122, 101, 100]⟩ : ByteArray)) else (some (⟨#[101, 114, 114, 111, 114]⟩ : ByteArray))))))) = some r := h;clear h
 by_cases c2 : a0 = (-32700)
 ·rw [if_pos c2] at H
  have c2b0 : (a0 == (-32700)) = true := beq_iff_eq.mpr c2;have c2b1 : (a0 != (-32700)) = false := bne_eq_false_iff_eq.mpr c2;clear c2;obtain rfl := Option.some.inj H;go_enter Tryd.func51, Tryd.ntmps51;go_wp2;go_ret;exact ⟨by first | rfl | (simp; done) | (simp [*]; done), by repeat (first | exact Drawn0.refl _ | apply Drawn0.step)⟩
 ·rw [if_neg c2] at H
  have c2b0 : (a0 == (-32700)) = false := beq_eq_false_iff_ne.mpr c2;have c2b1 : (a0 != (-32700)) = true := bne_iff_ne.mpr c2
  by_cases c3 : a0 = (-32600)
  ·rw [if_pos c3] at H
   have c3b0 : (a0 == (-32600)) = true := beq_iff_eq.mpr c3;have c3b1 : (a0 != (-32600)) = false := bne_eq_false_iff_eq.mpr c3;clear c3;obtain rfl := Option.some.inj H;go_enter Tryd.func51, Tryd.ntmps51;go_wp2;go_ret;exact ⟨by first | rfl | (simp; done) | (simp [*]; done), by repeat (first | exact Drawn0.refl _ | apply Drawn0.step)⟩
  ·rw [if_neg c3] at H
   have c3b0 : (a0 == (-32600)) = false := beq_eq_false_iff_ne.mpr c3;have c3b1 : (a0 != (-32600)) = true := bne_iff_ne.mpr c3
   by_cases c4 : a0 = (-32601)
   ·rw [if_pos c4] at H
    have c4b0 : (a0 == (-32601)) = true := beq_iff_eq.mpr c4;have c4b1 : (a0 != (-32601)) = false := bne_eq_false_iff_eq.mpr c4;clear c4;obtain rfl := Option.some.inj H;go_enter Tryd.func51, Tryd.ntmps51;go_wp2;go_ret;exact ⟨by first | rfl | (simp; done) | (simp [*]; done), by repeat (first | exact Drawn0.refl _ | apply Drawn0.step)⟩
   ·rw [if_neg c4] at H
    have c4b0 : (a0 == (-32601)) = false := beq_eq_false_iff_ne.mpr c4;have c4b1 : (a0 != (-32601)) = true := bne_iff_ne.mpr c4
    by_cases c5 : a0 = (-32602)
    ·rw [if_pos c5] at H
     have c5b0 : (a0 == (-32602)) = true := beq_iff_eq.mpr c5;have c5b1 : (a0 != (-32602)) = false := bne_eq_false_iff_eq.mpr c5;clear c5;obtain rfl := Option.some.inj H;go_enter Tryd.func51, Tryd.ntmps51;go_wp2;go_ret;exact ⟨by first | rfl | (simp; done) | (simp [*]; done), by repeat (first | exact Drawn0.refl _ | apply Drawn0.step)⟩
    ·rw [if_neg c5] at H
     have c5b0 : (a0 == (-32602)) = false := beq_eq_false_iff_ne.mpr c5;have c5b1 : (a0 != (-32602)) = true := bne_iff_ne.mpr c5
     by_cases c6 : a0 = (-32002)
     ·rw [if_pos c6] at H
      have c6b0 : (a0 == (-32002)) = true := beq_iff_eq.mpr c6;have c6b1 : (a0 != (-32002)) = false := bne_eq_false_iff_eq.mpr c6;clear c6;obtain rfl := Option.some.inj H;go_enter Tryd.func51, Tryd.ntmps51;go_wp2;go_ret;exact ⟨by first | rfl | (simp; done) | (simp [*]; done), by repeat (first | exact Drawn0.refl _ | apply Drawn0.step)⟩
     ·rw [if_neg c6] at H
      have c6b0 : (a0 == (-32002)) = false := beq_eq_false_iff_ne.mpr c6;have c6b1 : (a0 != (-32002)) = true := bne_iff_ne.mpr c6;obtain rfl := Option.some.inj H;go_enter Tryd.func51, Tryd.ntmps51;go_wp2;go_ret;exact ⟨by first | rfl | (simp; done) | (simp [*]; done), by repeat (first | exact Drawn0.refl _ | apply Drawn0.step)⟩
end Go.Proofs.YteighppcdpaekaaDoor.P
end
section
namespace Go.Proofs.YteighppcdpaekaaDoor.P
open Go.RowKit Go.Proofs.YteighppcdpaekaaDoorW.PrintWords Go.Proofs.YteighppcdpaekaaDoorW.PrintLast Go.Proofs.YteighppcdpaekaaDoorW.PrintMore
attribute [local go_sem] max2_int min2_int max_two min_two max_three min_three max_four min_four
set_option linter.unusedVariables false
set_option linter.unusedSimpArgs false
mutual
def R6q_Number.l0 : Nat → Int → ByteArray → Int → Option (Int × ByteArray × List ByteArray × (List (S44)))
 | 0, _, _, _ => none
 | k + 1, x0, x3, x4 => if x4 = 0 then (R6q_Number.j1 k x0 x3 x4 (x3.toList == ([] : List UInt8))) else (R6q_Number.j1 k x0 x3 x4 true)
def R6q_Number.j1 : Nat → Int → ByteArray → Int → Bool → Option (Int × ByteArray × List ByteArray × (List (S44)))
 | 0, _, _, _, _ => none
 | k + 1, x0, x3, x4, x12 => if x12 = true then (if (Int.tmod x4 10) < 0 then ((some (([(wrap64 (48 + (wrap64 (-(Int.tmod x4 10))))) % 256] : List Int) : List Int)).bind fun y907 => (if (strOfNums y907).size + x3.size ≤ 9223372036854775807 then (R6q_Number.l0 k x0 ((strOfNums y907) ++ x3) (wrap64 (Int.tdiv x4 10))) else (none))) else ((some (([(wrap64 (48 + (Int.tmod x4 10))) % 256] : List Int) : List Int)).bind fun y910 => (if (strOfNums y910).size + x3.size ≤ 9223372036854775807 then (R6q_Number.l0 k x0 ((strOfNums y910) ++ x3) (wrap64 (Int.tdiv x4 10))) else (none)))) else (if x0 < 0 then (if 1 + x3.size ≤ 9223372036854775807 then (some (3, (⟨#[45]⟩ : ByteArray) ++ x3, ([] : List ByteArray), ([] : List (S44)))) else (none)) else (some (3, x3, ([] : List ByteArray), ([] : List (S44)))))
end
def R6q_Number.f (k : Nat) (a0 : Int) : Option (Int × ByteArray × List ByteArray × (List (S44))) := R6q_Number.l0 k a0 (⟨#[]⟩ : ByteArray) a0
set_option maxHeartbeats 8000000 in
set_option maxRecDepth 100000 in
theorem R6q_Number.calls (k : Nat) (a0 : Int) (r1 : Int) (r2 : ByteArray) (r3 : List ByteArray) (r4 : List (S44)) (w : World) (h : R6q_Number.f k a0 = some (r1, r2, r3, r4)) :
  Calls Tryd.prog 54 #[.int .i64 a0] w fun e w' => ∃ v2_ v3_ : Value, e = .returned (.agg #[.int .i64 r1, .string r2, v2_, v3_]) ∧ Kd.R Kd.string 9 w' w.heap.size (fun _ => True) v2_ r3 ∧ Kd.R k44 44 w' w.heap.size (fun k_ => some k_ ≠ (v2_ : Value).ownBlock) v3_ r4 ∧ Below w.heap.size w w' := by
 have hu44 := Tryd.underlying44;have HB := Sdq.mk (Below.refl w.heap.size w);have H : (R6q_Number.l0 k a0 (⟨#[]⟩ : ByteArray) a0) = some (r1, r2, r3, r4) := h;clear h;have H' := Sdq.mk H;clear H;go_enter Tryd.func54, Tryd.ntmps54;go_wp2_with (first | ((with_reducible refine gate_dst (N := 2) rfl ?_); refine box_event ?hg (N := 2) ?hd (cs := #[.int .i64 0, .string (⟨#[]⟩ : ByteArray), .slice none 0 0, .slice none 0 0]) (t := 44) ?hr ?_; (case hd => rfl); (case hg => rfl); (case hr => first | (go_simp; done) | (go_simp; rfl)); intro gb906 hg w2 hbox hb; have n0_ := Sdq.mk (below_step (by repeat (first | (with_reducible first | exact HB.out | apply bal | apply pbdN | apply bdr1) | exact HB.out)) hb); have n1_ := Sdq.mk (hbox); have n2_ := Sdq.mk ((by rw [hg]; exact (below_size (by repeat (first | (with_reducible first | exact HB.out | apply bal | apply pbdN | apply bdr1) | exact HB.out))) : w.heap.size ≤ gb906)); have n3_ := Sdq.mk ((by rw [hg]; exact (below_size (by repeat (first | (with_reducible first | exact HB.out | apply bal | apply pbdN | apply bdr1) | exact HB.out))) : w.heap.size ≤ gb906)); clear HB; have HB := n0_; have BK906 := n1_; have GW906 := n2_; have GE906 := n3_; clear n0_ n1_ n2_ n3_; clear hb hbox hg))
 go_loopg [3, 4] k (fun kq v3 v4 w' => ∃ (x3_1 : ByteArray) (x4_1 : Int), v3 = .string x3_1 ∧ v4 = .int .i64 x4_1 ∧ Sdq (R6q_Number.l0 kq a0 x3_1 x4_1 = some (r1, r2, r3, r4)) ∧ Sdq (kq ≤ k) ∧ Sdq (w'.heap[gb906]? = some (.cells #[.int .i64 0, .string (⟨#[]⟩ : ByteArray), (.slice none 0 0), (.slice none 0 0)] 44 (0, 0))) ∧ Sdq (Below w.heap.size w w'))
 case atStart => exact ⟨((⟨#[]⟩ : ByteArray)), (a0), (by first | rfl | (simp; done) | (simp [*]; done)), (by first | rfl | (simp; done) | (simp [*]; done)), H', ⟨Nat.le_refl _⟩, ⟨by (with_reducible repeat (first | refine blk_drewN ?_ _ | refine blk_drew ?_ | refine blk_alloc ?_ _)); exact BK906.out⟩, ⟨by repeat (first | (with_reducible first | exact HB.out | apply bal | apply pbdN | apply bdr1 | refine bstq ?_ GE906.out) | exact HB.out)⟩⟩
 case round =>
  clear H'
  try clear p2
  obtain ⟨x3_1, x4_1, rfl, rfl, HA, HK1, BK906, HB⟩ := hrel
  cases gk with
  | zero => exact absurd HA.out (by simp [R6q_Number.l0])
  | succ k1 =>
   have H := HA.out;clear HA;simp only [R6q_Number.l0] at H;have HC3 := Sdq.mk H;clear H
   go_upto_region 3 with (fail)
   go_cut [12] (fun v12 wc => ∃ (kq : Nat) (x12_2 : Bool), v12 = .bool x12_2 ∧ Sdq (R6q_Number.j1 kq a0 x3_1 x4_1 x12_2 = some (r1, r2, r3, r4)) ∧ Sdq (kq ≤ k1) ∧ Sdq (wc.heap[gb906]? = some (.cells #[.int .i64 0, .string (⟨#[]⟩ : ByteArray), (.slice none 0 0), (.slice none 0 0)] 44 (0, 0))) ∧ Sdq (Below w.heap.size w wc))
   case first =>
    have H := HC3.out;clear HC3;by_cases c4 : x4_1 = 0
    ·rw [if_pos c4] at H
     have c4b0 : (x4_1 == 0) = true := beq_iff_eq.mpr c4;have c4b1 : (x4_1 != 0) = false := bne_eq_false_iff_eq.mpr c4;clear c4
     (first | rw [c4b0] | (simp only [i64_w, i32_w]; rw [c4b0]) | skip)
     have H' := Sdq.mk H;clear H;go_wp2
     go_meet
     case rel => exact ⟨_, ((x3_1.toList == ([] : List UInt8))), (by first | rfl | (simp; done) | (simp [*]; done)), H', ⟨by have := HK1.out; first | omega | exact Nat.le_refl _⟩, ⟨by (with_reducible repeat (first | refine blk_drewN ?_ _ | refine blk_drew ?_ | refine blk_alloc ?_ _)); exact BK906.out⟩, ⟨by repeat (first | (with_reducible first | exact HB.out | apply bal | apply pbdN | apply bdr1 | refine bstq ?_ GE906.out) | exact HB.out)⟩⟩
    ·rw [if_neg c4] at H
     have c4b0 : (x4_1 == 0) = false := beq_eq_false_iff_ne.mpr c4;have c4b1 : (x4_1 != 0) = true := bne_iff_ne.mpr c4
     (first | rw [c4b0] | (simp only [i64_w, i32_w]; rw [c4b0]) | skip)
     have H' := Sdq.mk H;clear H;go_wp2
     go_meet
     case rel => exact ⟨_, (true), (by first | rfl | (simp; done) | (simp [*]; done)), H', ⟨by have := HK1.out; first | omega | exact Nat.le_refl _⟩, ⟨by (with_reducible repeat (first | refine blk_drewN ?_ _ | refine blk_drew ?_ | refine blk_alloc ?_ _)); exact BK906.out⟩, ⟨by repeat (first | (with_reducible first | exact HB.out | apply bal | apply pbdN | apply bdr1 | refine bstq ?_ GE906.out) | exact HB.out)⟩⟩
   case rest =>
    clear HC3
    try clear p2; try clear c4; try clear c4b0; try clear c4b1; try clear p2
    obtain ⟨kq, x12_2, rfl, HA, HJ2, BK906, HB⟩ := hcut
    cases kq with
    | zero => exact absurd HA.out (by simp [R6q_Number.j1])
    | succ kj2 =>
     have H := HA.out;clear HA;simp only [R6q_Number.j1] at H;by_cases c5 : x12_2 = true
     ·subst c5
      have H1 : (if (Int.tmod x4_1 10) < 0 then ((some (([(wrap64 (48 + (wrap64 (-(Int.tmod x4_1 10))))) % 256] : List Int) : List Int)).bind fun y907 => (if (strOfNums y907).size + x3_1.size ≤ 9223372036854775807 then (R6q_Number.l0 kj2 a0 ((strOfNums y907) ++ x3_1) (wrap64 (Int.tdiv x4_1 10))) else (none))) else ((some (([(wrap64 (48 + (Int.tmod x4_1 10))) % 256] : List Int) : List Int)).bind fun y910 => (if (strOfNums y910).size + x3_1.size ≤ 9223372036854775807 then (R6q_Number.l0 kj2 a0 ((strOfNums y910) ++ x3_1) (wrap64 (Int.tdiv x4_1 10))) else (none)))) = some (r1, r2, r3, r4) := by rw [if_pos rfl] at H; exact H
      clear H;have H := H1;clear H1;by_cases c6 : (Int.tmod x4_1 10) < 0
      ·rw [if_pos c6] at H
       have c6b0 : decide ((Int.tmod x4_1 10) < 0) = true := decide_eq_true c6;clear c6
       obtain ⟨y907, hy907⟩ : ∃ y_ : List Int, y_ = (([(wrap64 (48 + (wrap64 (-(Int.tmod x4_1 10))))) % 256] : List Int)) := ⟨_, rfl⟩
       replace H : (if (strOfNums y907).size + x3_1.size ≤ 9223372036854775807 then (R6q_Number.l0 kj2 a0 ((strOfNums y907) ++ x3_1) (wrap64 (Int.tdiv x4_1 10))) else (none)) = some (r1, r2, r3, r4) := by first | (rw [hy907]; with_reducible exact H) | (have H2_ := (Option.bind_some _ _).symm.trans H; rw [hy907]; with_reducible exact H2_) | (have H2_ := (Option.bind_some _ _).symm.trans H; with_reducible exact H2_) | with_reducible exact H | (rw [hy907]; exact H) | exact H
       have Ny907 := Sdq.mk hy907;clear hy907;by_cases c7 : (strOfNums y907).size + x3_1.size ≤ 9223372036854775807
       ·rw [if_pos c7] at H
        have c7b0 := eq_true c7;have c7b1 : decide ((strOfNums y907).size + x3_1.size ≤ 9223372036854775807) = true := decide_eq_true c7
        try have c7b2 : (9223372036854775807 < (strOfNums y907).size + x3_1.size) = False := eq_false (Nat.not_lt.2 c7)
        have H' := Sdq.mk H;clear H;go_wp2_with (first | ((with_reducible refine gate_dst (N := 22) rfl ?_); refine Kd.R_lit (Kd.int .u8) _ 5 ?hg (N := 22) ?hd (xs := ([(wrap64 (48 + (wrap64 (-(Int.tmod x4_1 10))))) % 256] : List Int)) (inner := [.int .u8 ((wrap64 (48 + (wrap64 (-(Int.tmod x4_1 10))))) % 256)]) (ok := fun _ => True) (okp := fun _ => True) ?hr ?hp (fun _ hk => hk) trivial (Below.refl _ _) (Nat.le_refl _) (by simp) ?_; (case hd => rfl); (case hg => rfl); (case hr => first | (go_simp; done) | (go_simp; rfl)); (case hp => exact (Reps.one (show Kd.M (Kd.int .u8) _ _ _ ((wrap64 (48 + (wrap64 (-(Int.tmod x4_1 10))))) % 256) [.int .u8 ((wrap64 (48 + (wrap64 (-(Int.tmod x4_1 10))))) % 256)] from rfl) (Reps.none _ _))); intro v908 w8 ho9 hb hg_ hnew_; clear hg_ hnew_; (first | rw [← Ny907.out] at ho9 | (simp only [Int.reduceToNat] at ho9; rw [← Ny907.out] at ho9)); have n0_ := Sdq.mk (Kd.R_lower ho9 (below_size (by repeat (first | (with_reducible first | exact HB.out | apply bal | apply pbdN | apply bdr1 | refine bstq ?_ GE906.out) | exact HB.out)))); have n1_ := Sdq.mk (blk_below (g := gb906) (o := .cells #[.int .i64 0, .string (⟨#[]⟩ : ByteArray), .slice none 0 0, .slice none 0 0] 44 (0, 0)) (by (with_reducible repeat (first | refine blk_drewN ?_ _ | refine blk_drew ?_ | refine blk_alloc ?_ _)); exact BK906.out) hb); have n2_ := Sdq.mk (below_step (by repeat (first | (with_reducible first | exact HB.out | apply bal | apply pbdN | apply bdr1 | refine bstq ?_ GE906.out) | exact HB.out)) hb); clear BK906; clear HB; have HO909 := n0_; have BK906 := n1_; have HB := n2_; clear n0_ n1_ n2_; clear hb ho9; have hcv10 := own_string (P := Tryd.prog) Tryd.underlying35 Tryd.underlying5 Tryd.underlying9 (Kd.own_of_R HO909.out)))
        go_roundg kj2
        case measure => have := HK1.out; have := HJ2.out; omega
        case rel => exact ⟨((strOfNums y907) ++ x3_1), (wrap64 (Int.tdiv x4_1 10)), (by first | rfl | (simp; done) | (simp [*]; done)), (by first | rfl | (simp; done) | (simp [*]; done)), H', ⟨by have := HK1.out; have := HJ2.out; omega⟩, ⟨by (with_reducible repeat (first | refine blk_drewN ?_ _ | refine blk_drew ?_ | refine blk_alloc ?_ _)); exact BK906.out⟩, ⟨by repeat (first | (with_reducible first | exact HB.out | apply bal | apply pbdN | apply bdr1 | refine bstq ?_ GE906.out) | exact HB.out)⟩⟩
       ·rw [if_neg c7] at H
        exact absurd H (by simp)
      ·rw [if_neg c6] at H
       have c6b0 : decide ((Int.tmod x4_1 10) < 0) = false := decide_eq_false c6;clear c6
       obtain ⟨y910, hy910⟩ : ∃ y_ : List Int, y_ = (([(wrap64 (48 + (Int.tmod x4_1 10))) % 256] : List Int)) := ⟨_, rfl⟩
       replace H : (if (strOfNums y910).size + x3_1.size ≤ 9223372036854775807 then (R6q_Number.l0 kj2 a0 ((strOfNums y910) ++ x3_1) (wrap64 (Int.tdiv x4_1 10))) else (none)) = some (r1, r2, r3, r4) := by first | (rw [hy910]; with_reducible exact H) | (have H2_ := (Option.bind_some _ _).symm.trans H; rw [hy910]; with_reducible exact H2_) | (have H2_ := (Option.bind_some _ _).symm.trans H; with_reducible exact H2_) | with_reducible exact H | (rw [hy910]; exact H) | exact H
       have Ny910 := Sdq.mk hy910;clear hy910;by_cases c11 : (strOfNums y910).size + x3_1.size ≤ 9223372036854775807
       ·rw [if_pos c11] at H
        have c11b0 := eq_true c11;have c11b1 : decide ((strOfNums y910).size + x3_1.size ≤ 9223372036854775807) = true := decide_eq_true c11
        try have c11b2 : (9223372036854775807 < (strOfNums y910).size + x3_1.size) = False := eq_false (Nat.not_lt.2 c11)
        have H' := Sdq.mk H;clear H;go_wp2_with (first | ((with_reducible refine gate_dst (N := 22) rfl ?_); refine Kd.R_lit (Kd.int .u8) _ 5 ?hg (N := 22) ?hd (xs := ([(wrap64 (48 + (Int.tmod x4_1 10))) % 256] : List Int)) (inner := [.int .u8 ((wrap64 (48 + (Int.tmod x4_1 10))) % 256)]) (ok := fun _ => True) (okp := fun _ => True) ?hr ?hp (fun _ hk => hk) trivial (Below.refl _ _) (Nat.le_refl _) (by simp) ?_; (case hd => rfl); (case hg => rfl); (case hr => first | (go_simp; done) | (go_simp; rfl)); (case hp => exact (Reps.one (show Kd.M (Kd.int .u8) _ _ _ ((wrap64 (48 + (Int.tmod x4_1 10))) % 256) [.int .u8 ((wrap64 (48 + (Int.tmod x4_1 10))) % 256)] from rfl) (Reps.none _ _))); intro v911 w12 ho13 hb hg_ hnew_; clear hg_ hnew_; (first | rw [← Ny910.out] at ho13 | (simp only [Int.reduceToNat] at ho13; rw [← Ny910.out] at ho13)); have n0_ := Sdq.mk (Kd.R_lower ho13 (below_size (by repeat (first | (with_reducible first | exact HB.out | apply bal | apply pbdN | apply bdr1 | refine bstq ?_ GE906.out) | exact HB.out)))); have n1_ := Sdq.mk (blk_below (g := gb906) (o := .cells #[.int .i64 0, .string (⟨#[]⟩ : ByteArray), .slice none 0 0, .slice none 0 0] 44 (0, 0)) (by (with_reducible repeat (first | refine blk_drewN ?_ _ | refine blk_drew ?_ | refine blk_alloc ?_ _)); exact BK906.out) hb); have n2_ := Sdq.mk (below_step (by repeat (first | (with_reducible first | exact HB.out | apply bal | apply pbdN | apply bdr1 | refine bstq ?_ GE906.out) | exact HB.out)) hb); clear BK906; clear HB; have HO912 := n0_; have BK906 := n1_; have HB := n2_; clear n0_ n1_ n2_; clear hb ho13; have hcv14 := own_string (P := Tryd.prog) Tryd.underlying35 Tryd.underlying5 Tryd.underlying9 (Kd.own_of_R HO912.out)))
        go_roundg kj2
        case measure => have := HK1.out; have := HJ2.out; omega
        case rel => exact ⟨((strOfNums y910) ++ x3_1), (wrap64 (Int.tdiv x4_1 10)), (by first | rfl | (simp; done) | (simp [*]; done)), (by first | rfl | (simp; done) | (simp [*]; done)), H', ⟨by have := HK1.out; have := HJ2.out; omega⟩, ⟨by (with_reducible repeat (first | refine blk_drewN ?_ _ | refine blk_drew ?_ | refine blk_alloc ?_ _)); exact BK906.out⟩, ⟨by repeat (first | (with_reducible first | exact HB.out | apply bal | apply pbdN | apply bdr1 | refine bstq ?_ GE906.out) | exact HB.out)⟩⟩
       ·rw [if_neg c11] at H
        exact absurd H (by simp)
     ·replace c5 := Bool.eq_false_iff.mpr c5
      subst c5
      have H1 : (if a0 < 0 then (if 1 + x3_1.size ≤ 9223372036854775807 then (some (3, (⟨#[45]⟩ : ByteArray) ++ x3_1, ([] : List ByteArray), ([] : List (S44)))) else (none)) else (some (3, x3_1, ([] : List ByteArray), ([] : List (S44))))) = some (r1, r2, r3, r4) := by rw [if_neg (show ¬ (false = true) by decide)] at H; exact H
      clear H;have H := H1;clear H1;by_cases c15 : a0 < 0
      ·rw [if_pos c15] at H
       have c15b0 : decide (a0 < 0) = true := decide_eq_true c15;clear c15;by_cases c16 : 1 + x3_1.size ≤ 9223372036854775807
       ·rw [if_pos c16] at H
        have c16b0 := eq_true c16;have c16b1 : decide (1 + x3_1.size ≤ 9223372036854775807) = true := decide_eq_true c16
        try have c16b2 : (9223372036854775807 < 1 + x3_1.size) = False := eq_false (Nat.not_lt.2 c16)
        simp only [Option.some.injEq, Prod.mk.injEq] at H;obtain ⟨rfl, rfl, rfl, rfl⟩ := H;have hcz17_0 : wc.cell? ⟨gb906, 0, none⟩ = some (.int .i64 0) := (bceq BK906.out 0).trans rfl;have hcz17_1 : wc.cell? ⟨gb906, 1, none⟩ = some (.string (⟨#[]⟩ : ByteArray)) := (bceq BK906.out 1).trans rfl;have hcz17_2 : wc.cell? ⟨gb906, 2, none⟩ = some (.slice none 0 0) := (bceq BK906.out 2).trans rfl;have hcz17_3 : wc.cell? ⟨gb906, 3, none⟩ = some (.slice none 0 0) := (bceq BK906.out 3).trans rfl;have hfz17_0 := bfz BK906.out 0;have hfz17_1 := bfz BK906.out 1;have hfz17_2 := bfz BK906.out 2;have hfz17_3 := bfz BK906.out 3;go_wp2;refine bodyPost_ret (results_cell_row rfl _ _ gb906 44 #[.int .i64 3, .string ((⟨#[45]⟩ : ByteArray) ++ x3_1), .slice none 0 0, .slice none 0 0] (0, 0) _ rfl (by (with_reducible repeat (first | refine blk_drewN ?_ _ | refine blk_drew ?_ | refine blk_alloc ?_ _)); refine blk_put (cs := #[.int .i64 3, .string ((⟨#[45]⟩ : ByteArray) ++ x3_1), .slice none 0 0, .slice none 0 0]) ?_ 3 _ rfl; (with_reducible repeat (first | refine blk_drewN ?_ _ | refine blk_drew ?_ | refine blk_alloc ?_ _)); refine blk_put (cs := #[.int .i64 3, .string ((⟨#[45]⟩ : ByteArray) ++ x3_1), .slice none 0 0, .slice none 0 0]) ?_ 2 _ rfl; (with_reducible repeat (first | refine blk_drewN ?_ _ | refine blk_drew ?_ | refine blk_alloc ?_ _)); refine blk_put (cs := #[.int .i64 3, .string (⟨#[]⟩ : ByteArray), .slice none 0 0, .slice none 0 0]) ?_ 1 _ rfl; (with_reducible repeat (first | refine blk_drewN ?_ _ | refine blk_drew ?_ | refine blk_alloc ?_ _)); refine blk_put (cs := #[.int .i64 0, .string (⟨#[]⟩ : ByteArray), .slice none 0 0, .slice none 0 0]) ?_ 0 _ rfl; (with_reducible repeat (first | refine blk_drewN ?_ _ | refine blk_drew ?_ | refine blk_alloc ?_ _)); exact BK906.out) Tryd.underlying44 rfl (by kernel_rfl)) rfl ?_;exact ⟨_, _, by first | rfl | (simp [errW_none, errW_some] <;> rfl) | (simp [*, errW_none, errW_some] <;> rfl), by first | exact Kd.R_nil _ _ _ _ _ | exact Kd.N_nil _ _ _ _ _ | exact Kd.V_nil _ _ _ _ _ | exact Kd.Q_nil _ _ _ _ _ | exact Kd.S_nil _ _ _ _ _, by first | exact Kd.R_nil _ _ _ _ _ | exact Kd.N_nil _ _ _ _ _ | exact Kd.V_nil _ _ _ _ _ | exact Kd.Q_nil _ _ _ _ _ | exact Kd.S_nil _ _ _ _ _, by repeat (first | (with_reducible first | exact HB.out | apply bal | apply pbdN | apply bdr1 | refine bstq ?_ GE906.out) | exact HB.out)⟩
       ·rw [if_neg c16] at H
        exact absurd H (by simp)
      ·rw [if_neg c15] at H
       have c15b0 : decide (a0 < 0) = false := decide_eq_false c15;clear c15;simp only [Option.some.injEq, Prod.mk.injEq] at H;obtain ⟨rfl, rfl, rfl, rfl⟩ := H;have hcz18_0 : wc.cell? ⟨gb906, 0, none⟩ = some (.int .i64 0) := (bceq BK906.out 0).trans rfl;have hcz18_1 : wc.cell? ⟨gb906, 1, none⟩ = some (.string (⟨#[]⟩ : ByteArray)) := (bceq BK906.out 1).trans rfl;have hcz18_2 : wc.cell? ⟨gb906, 2, none⟩ = some (.slice none 0 0) := (bceq BK906.out 2).trans rfl;have hcz18_3 : wc.cell? ⟨gb906, 3, none⟩ = some (.slice none 0 0) := (bceq BK906.out 3).trans rfl;have hfz18_0 := bfz BK906.out 0;have hfz18_1 := bfz BK906.out 1;have hfz18_2 := bfz BK906.out 2;have hfz18_3 := bfz BK906.out 3;go_wp2;refine bodyPost_ret (results_cell_row rfl _ _ gb906 44 #[.int .i64 3, .string x3_1, .slice none 0 0, .slice none 0 0] (0, 0) _ rfl (by (with_reducible repeat (first | refine blk_drewN ?_ _ | refine blk_drew ?_ | refine blk_alloc ?_ _)); refine blk_put (cs := #[.int .i64 3, .string x3_1, .slice none 0 0, .slice none 0 0]) ?_ 3 _ rfl; (with_reducible repeat (first | refine blk_drewN ?_ _ | refine blk_drew ?_ | refine blk_alloc ?_ _)); refine blk_put (cs := #[.int .i64 3, .string x3_1, .slice none 0 0, .slice none 0 0]) ?_ 2 _ rfl; (with_reducible repeat (first | refine blk_drewN ?_ _ | refine blk_drew ?_ | refine blk_alloc ?_ _)); refine blk_put (cs := #[.int .i64 3, .string (⟨#[]⟩ : ByteArray), .slice none 0 0, .slice none 0 0]) ?_ 1 _ rfl; (with_reducible repeat (first | refine blk_drewN ?_ _ | refine blk_drew ?_ | refine blk_alloc ?_ _)); refine blk_put (cs := #[.int .i64 0, .string (⟨#[]⟩ : ByteArray), .slice none 0 0, .slice none 0 0]) ?_ 0 _ rfl; (with_reducible repeat (first | refine blk_drewN ?_ _ | refine blk_drew ?_ | refine blk_alloc ?_ _)); exact BK906.out) Tryd.underlying44 rfl (by kernel_rfl)) rfl ?_;exact ⟨_, _, by first | rfl | (simp [errW_none, errW_some] <;> rfl) | (simp [*, errW_none, errW_some] <;> rfl), by first | exact Kd.R_nil _ _ _ _ _ | exact Kd.N_nil _ _ _ _ _ | exact Kd.V_nil _ _ _ _ _ | exact Kd.Q_nil _ _ _ _ _ | exact Kd.S_nil _ _ _ _ _, by first | exact Kd.R_nil _ _ _ _ _ | exact Kd.N_nil _ _ _ _ _ | exact Kd.V_nil _ _ _ _ _ | exact Kd.Q_nil _ _ _ _ _ | exact Kd.S_nil _ _ _ _ _, by repeat (first | (with_reducible first | exact HB.out | apply bal | apply pbdN | apply bdr1 | refine bstq ?_ GE906.out) | exact HB.out)⟩
def R6q_Message.f (a0 : Int) : Option (ByteArray) := if a0 = (-32700) then (some (⟨#[112, 97, 114, 115, 101, 32, 101, 114, 114, 111, 114]⟩ : ByteArray)) else (if a0 = (-32600) then (some (⟨#[105, 110, 118, 97, 108, 105, 100, 32, 114, 101, 113, 117, 101, 115, 116]⟩ : ByteArray)) else (if a0 = (-32601) then (some (⟨#[117, 110, 107, 110, 111, 119, 110, 32, 109, 101, 116, 104, 111, 100]⟩ : ByteArray)) else (if a0 = (-32602) then (some (⟨#[105, 110, 118, 97, 108, 105, 100, 32, 112, 97, 114, 97, 109, 101, 116, 101, 114, 115]⟩ : ByteArray)) else (if a0 = (-32002) then (some (⟨#[110, 111, 116, 32, 105, 110, 105, 116, 105, 97, 108, 105, 122, 101, 100]⟩ : ByteArray)) else (some (⟨#[101, 114, 114, 111, 114]⟩ : ByteArray))))))
set_option maxHeartbeats 8000000 in
set_option maxRecDepth 100000 in
theorem R6q_Message.calls (a0 : Int) (r : ByteArray) (w : World) (h : R6q_Message.f a0 = some r) :
  Calls Tryd.prog 55 #[.int .i64 a0] w fun e w' => e = .returned (.string r) ∧ Drawn0 w w' := by
 have H : (if a0 = (-32700) then (some (⟨#[112, 97, 114, 115, 101, 32, 101, 114, 114, 111, 114]⟩ : ByteArray)) else (if a0 = (-32600) then (some (⟨#[105, 110, 118, 97, 108, 105, 100, 32, 114, 101, 113, 117, 101, 115, 116]⟩ : ByteArray)) else (if a0 = (-32601) then (some (⟨#[117, 110, 107, 110, 111, 119, 110, 32, 109, 101, 116, 104, 111, 100]⟩ : ByteArray)) else (if a0 = (-32602) then (some (⟨#[105, 110, 118, 97, 108, 105, 100, 32, 112, 97, 114, 97, 109, 101, 116, 101, 114, 115]⟩ : ByteArray)) else (if a0 = (-32002) then (some (⟨#[110, 111, 116, 32, 105, 110, 105, 116, 105, 97, 108, 105, 122, 101, 100]⟩ : ByteArray)) else (some (⟨#[101, 114, 114, 111, 114]⟩ : ByteArray))))))) = some r := h;clear h
 by_cases c2 : a0 = (-32700)
 ·rw [if_pos c2] at H
  have c2b0 : (a0 == (-32700)) = true := beq_iff_eq.mpr c2;have c2b1 : (a0 != (-32700)) = false := bne_eq_false_iff_eq.mpr c2;clear c2;obtain rfl := Option.some.inj H;go_enter Tryd.func55, Tryd.ntmps55;go_wp2;go_ret;exact ⟨by first | rfl | (simp; done) | (simp [*]; done), by repeat (first | exact Drawn0.refl _ | apply Drawn0.step)⟩
 ·rw [if_neg c2] at H
  have c2b0 : (a0 == (-32700)) = false := beq_eq_false_iff_ne.mpr c2;have c2b1 : (a0 != (-32700)) = true := bne_iff_ne.mpr c2
  by_cases c3 : a0 = (-32600)
  ·rw [if_pos c3] at H
   have c3b0 : (a0 == (-32600)) = true := beq_iff_eq.mpr c3;have c3b1 : (a0 != (-32600)) = false := bne_eq_false_iff_eq.mpr c3;clear c3;obtain rfl := Option.some.inj H;go_enter Tryd.func55, Tryd.ntmps55;go_wp2;go_ret;exact ⟨by first | rfl | (simp; done) | (simp [*]; done), by repeat (first | exact Drawn0.refl _ | apply Drawn0.step)⟩
  ·rw [if_neg c3] at H
   have c3b0 : (a0 == (-32600)) = false := beq_eq_false_iff_ne.mpr c3;have c3b1 : (a0 != (-32600)) = true := bne_iff_ne.mpr c3
   by_cases c4 : a0 = (-32601)
   ·rw [if_pos c4] at H
    have c4b0 : (a0 == (-32601)) = true := beq_iff_eq.mpr c4;have c4b1 : (a0 != (-32601)) = false := bne_eq_false_iff_eq.mpr c4;clear c4;obtain rfl := Option.some.inj H;go_enter Tryd.func55, Tryd.ntmps55;go_wp2;go_ret;exact ⟨by first | rfl | (simp; done) | (simp [*]; done), by repeat (first | exact Drawn0.refl _ | apply Drawn0.step)⟩
   ·rw [if_neg c4] at H
    have c4b0 : (a0 == (-32601)) = false := beq_eq_false_iff_ne.mpr c4;have c4b1 : (a0 != (-32601)) = true := bne_iff_ne.mpr c4
    by_cases c5 : a0 = (-32602)
    ·rw [if_pos c5] at H
     have c5b0 : (a0 == (-32602)) = true := beq_iff_eq.mpr c5;have c5b1 : (a0 != (-32602)) = false := bne_eq_false_iff_eq.mpr c5;clear c5;obtain rfl := Option.some.inj H;go_enter Tryd.func55, Tryd.ntmps55;go_wp2;go_ret;exact ⟨by first | rfl | (simp; done) | (simp [*]; done), by repeat (first | exact Drawn0.refl _ | apply Drawn0.step)⟩
    ·rw [if_neg c5] at H
     have c5b0 : (a0 == (-32602)) = false := beq_eq_false_iff_ne.mpr c5;have c5b1 : (a0 != (-32602)) = true := bne_iff_ne.mpr c5
     by_cases c6 : a0 = (-32002)
     ·rw [if_pos c6] at H
      have c6b0 : (a0 == (-32002)) = true := beq_iff_eq.mpr c6;have c6b1 : (a0 != (-32002)) = false := bne_eq_false_iff_eq.mpr c6;clear c6;obtain rfl := Option.some.inj H;go_enter Tryd.func55, Tryd.ntmps55;go_wp2;go_ret;exact ⟨by first | rfl | (simp; done) | (simp [*]; done), by repeat (first | exact Drawn0.refl _ | apply Drawn0.step)⟩
     ·rw [if_neg c6] at H
      have c6b0 : (a0 == (-32002)) = false := beq_eq_false_iff_ne.mpr c6;have c6b1 : (a0 != (-32002)) = true := bne_iff_ne.mpr c6;obtain rfl := Option.some.inj H;go_enter Tryd.func55, Tryd.ntmps55;go_wp2;go_ret;exact ⟨by first | rfl | (simp; done) | (simp [*]; done), by repeat (first | exact Drawn0.refl _ | apply Drawn0.step)⟩
end Go.Proofs.YteighppcdpaekaaDoor.P
end
section
namespace Go.Proofs.YteighppcdpaekaaDoor.Num
open Go.Lib Go.Proofs.YteighppcdpaekaaDoor.P
def sgn (m : Bool) (n : Nat) : Int := match m with | true => -(n : Int) | false => (n : Int)
theorem nd_le : ∀ (k u : Nat), u < 10 ^ (k + 1) → nDigits u ≤ k + 1
 | 0, u, h => by rw [nDigits_small (by simpa using h)]; exact Nat.le_refl _
 | k + 1, u, h => by
  by_cases hu : u < 10
  ·rw [nDigits_small hu]; omega
  ·rw [nDigits_big hu]
   have := nd_le k (u / 10) (by rw [Nat.pow_succ] at h; omega)
   omega
end Go.Proofs.YteighppcdpaekaaDoor.Num
end
section
namespace Go.Proofs.YteighppcdpaekaaDoor.P
open Go.RowKit Go.Proofs.YteighppcdpaekaaDoorW.PrintWords Go.Proofs.YteighppcdpaekaaDoorW.PrintLast Go.Proofs.YteighppcdpaekaaDoorW.PrintMore
theorem rows27 {ok : Nat → Prop} {w w' : World} {v2 v3 : Value} {t : Int} {s : ByteArray} {A B : Nat → Prop} (h2 : Kd.R Kd.string 9 w' w.heap.size A v2 []) (h3 : Kd.R k27 27 w' w.heap.size B v3 []) (hok : ∀ k, w.heap.size ≤ k → ok k) : Kv k27 ok w' (.agg #[.int .i64 t, .string s, v2, v3]) ⟨t, s, [], []⟩ := by
 replace h2 := Kd.V_mono (ok' := ok) (Kd.R_V (base' := 0) (Kd.R_bound h2)) (fun k hk => hok k hk.2.1);replace h3 := Kd.V_mono (ok' := ok) (Kd.R_V (base' := 0) (Kd.R_bound h3)) (fun k hk => hok k hk.2.1);obtain ⟨A2, c2, rfl⟩ := Kd.V_slice h2;obtain ⟨A3, c3, rfl⟩ := Kd.V_slice h3;exact Kv.mk27 ⟨t, s, [], []⟩ (Kd.V_reads' h2).2.1 (Kd.V_F h2) (Kd.V_reads' h3).2.1 (Kd.V_F h3)
theorem rows44 {ok : Nat → Prop} {w w' : World} {v2 v3 : Value} {t : Int} {s : ByteArray} {A B : Nat → Prop} (h2 : Kd.R Kd.string 9 w' w.heap.size A v2 []) (h3 : Kd.R k44 44 w' w.heap.size B v3 []) (hok : ∀ k, w.heap.size ≤ k → ok k) : Kv k44 ok w' (.agg #[.int .i64 t, .string s, v2, v3]) ⟨t, s, [], []⟩ := by
 replace h2 := Kd.V_mono (ok' := ok) (Kd.R_V (base' := 0) (Kd.R_bound h2)) (fun k hk => hok k hk.2.1);replace h3 := Kd.V_mono (ok' := ok) (Kd.R_V (base' := 0) (Kd.R_bound h3)) (fun k hk => hok k hk.2.1);obtain ⟨A2, c2, rfl⟩ := Kd.V_slice h2;obtain ⟨A3, c3, rfl⟩ := Kd.V_slice h3;exact Kv.mk44 ⟨t, s, [], []⟩ (Kd.V_reads' h2).2.1 (Kd.V_F h2) (Kd.V_reads' h3).2.1 (Kd.V_F h3)
def numS (n : Int) : ByteArray := ⟨(Lib.itoa n).toArray⟩
theorem ofNumJ {ok : Nat → Prop} (n : Int) (w : World) (hn : -9223372036854775808 ≤ n ∧ n ≤ 9223372036854775807) (hT : TabOk w) (hok : ∀ k, w.heap.size ≤ k → ok k) : Calls Tryd.prog 10 #[.int .i64 n] w (KPost k27 ok w ⟨3, numS n, [], []⟩) :=
 (json_Of.calls n 3 (numS n) [] [] w (by unfold json_Of.f; rw [if_pos hn]; rfl) hT).mono fun e w' h => by
  obtain ⟨v2, v3, rfl, h2, h3, hb⟩ := h;exact ⟨_, rfl, rows27 h2 h3 hok, hb⟩
def msgS (n : Int) : ByteArray := (rpc_message.f n).getD ⟨#[]⟩
theorem msg_eq (n : Int) : rpc_message.f n = some (msgS n) := by
 unfold msgS rpc_message.f
 repeat' (first | rfl | split)
def EPost (x : Value) (w : World) (e : Ending) (w' : World) : Prop := ∃ v, e = .returned v ∧ v = x ∧ Below w.heap.size w w'
theorem messageJ (n : Int) (w : World) : Calls Tryd.prog 51 #[.int .i64 n] w (EPost (.string (msgS n)) w) :=
 (rpc_message.calls n (msgS n) w (msg_eq n)).mono fun _ _ h => ⟨_, h.1, rfl, h.2.below⟩
theorem messageR (n : Int) (w : World) : Calls Tryd.prog 55 #[.int .i64 n] w (EPost (.string (msgS n)) w) :=
 (R6q_Message.calls n (msgS n) w (msg_eq n)).mono fun _ _ h => ⟨_, h.1, rfl, h.2.below⟩
def Made10 (u : Nat) (S D : List UInt8) : Prop := (u = 0 ∧ S ≠ [] ∧ S = D) ∨ ((u ≠ 0 ∨ S = []) ∧ Lib.decDigits u ++ S = D)
theorem made10_step {u : Nat} {S D : List UInt8} (h : Lib.decDigits u ++ S = D) : Made10 (u / 10) (UInt8.ofNat (48 + u % 10) :: S) D := by
 rw [Lib.decDigits] at h
 split at h
 ·rename_i hu
  refine .inl ⟨by omega, by simp, ?_⟩;rw [show u % 10 = u by omega]
  simpa using h
 ·refine .inr ⟨.inl (by omega), ?_⟩
  rw [← h]
  simp
theorem u8_of (d : Nat) (hd : d < 10) : strOfNums [((48 + (d : Int)) % 256)] = ⟨#[UInt8.ofNat (48 + d)]⟩ := by
 apply ByteArray.ext
 apply Array.toList_inj.1
 rw [strOfNums_data];simp only [List.map_cons, List.map_nil]
 congr 2
 omega
theorem app_of (c : UInt8) (S : List UInt8) : (⟨#[c]⟩ : ByteArray) ++ ⟨S.toArray⟩ = ⟨(c :: S).toArray⟩ := by
 apply ByteArray.ext
 apply Array.toList_inj.1
 rw [ByteArray.data_append, Array.toList_append]
 simp
theorem num_l0 (x0 : Int) (D : List UInt8) (hD : D.length ≤ 1000) : ∀ (u : Nat) (m : Int) (S : List UInt8), m.natAbs = u → u ≤ 9223372036854775808 → Made10 u S D →
  Ev (fun k => R6q_Number.l0 k x0 ⟨S.toArray⟩ m) (3, (if x0 < 0 then ⟨(45 :: D).toArray⟩ else ⟨D.toArray⟩), [], []) := by
 intro u
 induction u using Nat.strongRecOn with
 | _ u ih =>
 intro m S hu hle hM
 have done_ : ∀ k, S = D → R6q_Number.j1 (k + 1) x0 ⟨S.toArray⟩ m false = some (3, (if x0 < 0 then ⟨(45 :: D).toArray⟩ else ⟨D.toArray⟩), [], []) := fun k hS => by
  subst hS;simp only [R6q_Number.j1, Bool.false_eq_true, if_false]
  split
  ·rw [if_pos (by show 1 + S.toArray.size ≤ _; simp; omega), app_of]
  ·rfl
 rcases hM with ⟨h0, h1, h2⟩ | ⟨h1, h2⟩
 ·refine ⟨2, fun k hk => ?_⟩
  obtain ⟨k, rfl⟩ : ∃ j, k = j + 2 := ⟨k - 2, by omega⟩
  simp only [R6q_Number.l0];rw [if_pos (by omega)]
  have : ((⟨S.toArray⟩ : ByteArray).toList == ([] : List UInt8)) = false := by
   rw [ByteArray.toList_eq]
   cases S with
   | nil => exact absurd rfl h1
   | cons => rfl
  rw [this];exact done_ k h2
 ·have hlen : S.length ≤ D.length := by rw [← h2]; simp
  have hd : u % 10 < 10 := by omega
  have next : Ev (fun k => R6q_Number.l0 k x0 ⟨(UInt8.ofNat (48 + u % 10) :: S).toArray⟩ (Int.tdiv m 10)) (3, (if x0 < 0 then ⟨(45 :: D).toArray⟩ else ⟨D.toArray⟩), [], []) := by
   by_cases hu0 : u = 0
   ·
    obtain rfl : S = [] := h1.resolve_left (fun h => h hu0);have hm := made10_step h2;subst hu0
    obtain rfl : m = 0 := by omega
    rw [show Int.tdiv 0 10 = 0 from rfl]
    obtain ⟨_, _, h3⟩ | ⟨h3, _⟩ := hm
    ·refine ⟨2, fun k hk => ?_⟩
     obtain ⟨k, rfl⟩ : ∃ j, k = j + 2 := ⟨k - 2, by omega⟩
     simp only [R6q_Number.l0, if_true];rw [show ((⟨(UInt8.ofNat (48 + 0 % 10) :: ([] : List UInt8)).toArray⟩ : ByteArray).toList == ([] : List UInt8)) = false by rw [ByteArray.toList_eq]; rfl];simp only [R6q_Number.j1, Bool.false_eq_true, if_false];rw [h3]
     split
     ·rw [if_pos (by show 1 + D.toArray.size ≤ _; simp; omega), app_of]
     ·rfl
    ·simp at h3
   ·exact ih (u / 10) (by omega) (Int.tdiv m 10) _ (by rw [Int.natAbs_tdiv, hu]; rfl) (by omega) (made10_step h2)
  obtain ⟨K, hK⟩ := next;refine ⟨K + 2, fun k hk => ?_⟩
  obtain ⟨k, rfl⟩ : ∃ j, k = j + 2 := ⟨k - 2, by omega⟩
  have hj : R6q_Number.j1 (k + 1) x0 ⟨S.toArray⟩ m true = some (3, (if x0 < 0 then ⟨(45 :: D).toArray⟩ else ⟨D.toArray⟩), [], []) := by
   have ht : (Int.tmod m 10).natAbs = u % 10 := by rw [Int.natAbs_tmod, hu]; rfl
   have hw : wrap64 (Int.tdiv m 10) = Int.tdiv m 10 := by
    have : (Int.tdiv m 10).natAbs = u / 10 := by rw [Int.natAbs_tdiv, hu]; rfl
    unfold wrap64
    omega
   have hsz : (⟨#[UInt8.ofNat (48 + u % 10)]⟩ : ByteArray).size + (⟨S.toArray⟩ : ByteArray).size ≤ 9223372036854775807 := by
    show 1 + S.toArray.size ≤ _
    simp
    omega
   simp only [R6q_Number.j1, if_true, Option.bind_some]
   have e1 : ∀ x : Int, x = ((u % 10 : Nat) : Int) → strOfNums [(wrap64 (48 + x)) % 256] = ⟨#[UInt8.ofNat (48 + u % 10)]⟩ := fun x hx => by
    rw [← u8_of _ hd, hx, show wrap64 (48 + ((u % 10 : Nat) : Int)) = 48 + ((u % 10 : Nat) : Int) by unfold wrap64; omega]
   split
   ·rename_i hneg
    rw [e1 _ (by unfold wrap64; omega), if_pos hsz, app_of, hw];exact hK k (by omega)
   ·rename_i hneg
    rw [e1 _ (by omega), if_pos hsz, app_of, hw];exact hK k (by omega)
  show R6q_Number.l0 (k + 2) x0 ⟨S.toArray⟩ m = _
  simp only [R6q_Number.l0]
  split
  ·rename_i hm0
   have hS : S = [] := h1.resolve_left (fun h => h (by omega));rw [show ((⟨S.toArray⟩ : ByteArray).toList == ([] : List UInt8)) = true by rw [hS, ByteArray.toList_eq]; rfl];exact hj
  ·exact hj
theorem number_ev (n : Int) (hn : -9223372036854775808 ≤ n ∧ n ≤ 9223372036854775807) : Ev (fun k => R6q_Number.f k n) (3, numS n, [], []) := by
 have hlen : (Lib.decDigits n.natAbs).length ≤ 1000 := by
  rw [Lib.decDigits_length];have := Num.nd_le 19 n.natAbs (Nat.lt_of_le_of_lt (show n.natAbs ≤ 9223372036854775808 by omega) (by decide))
  omega
 have := num_l0 n (Lib.decDigits n.natAbs) hlen n.natAbs n [] rfl (by omega) (.inr ⟨.inr rfl, by simp⟩)
 have e : (if n < 0 then (⟨(45 :: Lib.decDigits n.natAbs).toArray⟩ : ByteArray) else ⟨(Lib.decDigits n.natAbs).toArray⟩) = numS n := by
  unfold numS Lib.itoa
  split
  ·rfl
  ·rw [show n.natAbs = n.toNat by omega]
 rw [e] at this;exact this
theorem numberR {ok : Nat → Prop} (n : Int) (w : World) (hn : -9223372036854775808 ≤ n ∧ n ≤ 9223372036854775807) (hok : ∀ k, w.heap.size ≤ k → ok k) : Calls Tryd.prog 54 #[.int .i64 n] w (KPost k44 ok w ⟨3, numS n, [], []⟩) := by
 obtain ⟨K, hK⟩ := number_ev n hn
 refine (R6q_Number.calls K n 3 (numS n) [] [] w (hK K (Nat.le_refl _))).mono fun e w' h => ?_
 obtain ⟨v2, v3, rfl, h2, h3, hb⟩ := h;exact ⟨_, rfl, rows44 h2 h3 hok, hb⟩
end Go.Proofs.YteighppcdpaekaaDoor.P
end
section
namespace Go.Proofs.YteighppcdpaekaaDoor.P
open Go.RowKit Go.Proofs.YteighppcdpaekaaDoorW.PrintWords Go.Proofs.YteighppcdpaekaaDoorW.PrintLast Go.Proofs.YteighppcdpaekaaDoorW.PrintMore
set_option linter.unusedVariables false
set_option linter.unusedSimpArgs false
def getT {S : Type} (key : ByteArray) : List ByteArray → List S → Option S
 | k :: ks, x :: xs => if k.toList = key.toList then some x else getT key ks xs
 | _, _ => none
theorem key_at0 {W : World} {A : Option Addr} {n : Nat} {ks : List ByteArray} (h : Kd.string.C W A n ks) {i : Nat} (hi : i < ks.length) : ∃ ad, A = some ad ∧ W.cell? (ad.add i) = some (.string ks[i]) := by
 obtain ⟨ad, c, e, _, hK, hc⟩ := Kd.C_get h ⟨#[]⟩ (i : Int) (by omega) (by have := h.1; omega);obtain rfl : c = [.string (ks.getD i ⟨#[]⟩)] := hK;refine ⟨ad, e, ?_⟩;have := hc 0 _ rfl;rw [Int.toNat_natCast, show ks.getD i ⟨#[]⟩ = ks[i] by simp [hi]] at this
 simpa [Kd.string, Kd.scalar] using this
def json_Get.o (a0 : Int) (l2 : List ByteArray) (l3 : List S27) (key : ByteArray) : Option S27 := if a0 = 6 ∧ l2.length = l3.length then getT key l2 l3 else none
def json_Get.f (_ : Nat) (a0 : Int) (_ : ByteArray) (l2 : List ByteArray) (l3 : List S27) (key : ByteArray) : Option (Int × ByteArray × List ByteArray × List S27 × Bool) :=
 some (match json_Get.o a0 l2 l3 key with | some x => (x.f0, x.f1, x.f2, x.f3, true) | none => (0, ⟨#[]⟩, [], [], false))
theorem json_Get.fin {w W : World} {a0 a1 a2 a3 : Value} {B2 B3 : Option Addr} {m2 m3 : Nat} {t2 : List ByteArray} {t3 : List S27} {P : Nat → Prop} (h : Ctx [uBlk (w.heap.size + 1) [.int .i64 0, .string ⟨#[]⟩, .slice none 0 0, .slice none 0 0] 27, uBlk w.heap.size [a0, a1, a2, a3] 27, uB w] W) (z0 : Int) (z1 : ByteArray)
  (h2 : Kd.V Kd.string 9 W 0 (fun k => P k ∧ k < w.heap.size) (.slice B2 t2.length m2) t2) (h3 : Kd.V k27 27 W 0 (fun k => P k ∧ k < w.heap.size) (.slice B3 t3.length m3) t3) (wf : World) (hw : wf = (((W.setCell ⟨w.heap.size + 1, 0, none⟩ (.int .i64 z0)).setCell ⟨w.heap.size + 1, 1, none⟩ (.string z1)).setCell ⟨w.heap.size + 1, 2, none⟩ (.slice B2 t2.length m2)).setCell ⟨w.heap.size + 1, 3, none⟩ (.slice B3 t3.length m3)) :
  (Kd.V Kd.string 9 wf w.heap.size (fun k => P k ∨ w.heap.size ≤ k) (.slice B2 t2.length m2) t2 ∧ Kd.V k27 27 wf w.heap.size (fun k => P k ∨ w.heap.size ≤ k) (.slice B3 t3.length m3) t3 ∧ Below w.heap.size w wf) ∧
  wf.cell? ⟨w.heap.size + 1, 0, none⟩ = some (.int .i64 z0) ∧ wf.cell? ⟨w.heap.size + 1, 1, none⟩ = some (.string z1) ∧ wf.cell? ⟨w.heap.size + 1, 2, none⟩ = some (.slice B2 t2.length m2) ∧ wf.cell? ⟨w.heap.size + 1, 3, none⟩ = some (.slice B3 t3.length m3) := by
 subst hw;obtain ⟨b2, b1, hB, _⟩ := h;have hp := Ctx.put (Ctx.put (Ctx.put (Ctx.put b2 0 (.int .i64 z0)) 1 (.string z1)) 2 (.slice B2 t2.length m2)) 3 (.slice B3 t3.length m3);have hg := Nat.le_succ w.heap.size
 have hne : ∀ k, P k ∧ k < w.heap.size → k ≠ w.heap.size + 1 := fun k hk => by omega
 refine ⟨⟨?_, ?_, bstq (bstq (bstq (bstq hB hg) hg) hg) hg⟩, Ctx.blk hp 0 rfl, Ctx.blk hp 1 rfl, Ctx.blk hp 2 rfl, Ctx.blk hp 3 rfl⟩
 ·exact Kd.V_mono (Kd.V_far (p := ⟨w.heap.size + 1, 3, none⟩) (Kd.V_far (p := ⟨w.heap.size + 1, 2, none⟩) (Kd.V_far (p := ⟨w.heap.size + 1, 1, none⟩) (Kd.V_far (p := ⟨w.heap.size + 1, 0, none⟩) h2 hne _) hne _) hne _) hne _) (fun k hk => .inl hk.1)
 ·exact Kd.V_mono (Kd.V_far (p := ⟨w.heap.size + 1, 3, none⟩) (Kd.V_far (p := ⟨w.heap.size + 1, 2, none⟩) (Kd.V_far (p := ⟨w.heap.size + 1, 1, none⟩) (Kd.V_far (p := ⟨w.heap.size + 1, 0, none⟩) h3 hne _) hne _) hne _) hne _) (fun k hk => .inl hk.1)
set_option maxRecDepth 100000 in
set_option maxHeartbeats 6400000 in
theorem json_Get.calls (k : Nat) (a0 : Int) (a1 : ByteArray) (A2 : Option Addr) (c2 : Nat) (l2 : List ByteArray) (P : Nat → Prop) (A3 : Option Addr) (c3 : Nat) (l3 : List S27) (key : ByteArray) (r1 : Int) (r2 : ByteArray) (r3 : List ByteArray) (r4 : List S27) (r5 : Bool) (w : World) (h2 : Kd.C Kd.string w A2 l2.length l2) (_ : l2.length ≤ c2) (h3 : Kd.V k27 27 w w.heap.size (fun k => P k) (.slice A3 l3.length c3) l3) (h : json_Get.f k a0 a1 l2 l3 key = some (r1, r2, r3, r4, r5)) :
  Calls Tryd.prog 26 #[.agg #[.int .i64 a0, .string a1, .slice A2 l2.length c2, .slice A3 l3.length c3], .string key] w fun e w' => ∃ v2 v3 : Value, e = .returned (.tuple #[.agg #[.int .i64 r1, .string r2, v2, v3], .bool r5]) ∧ Kd.V Kd.string 9 w' w.heap.size (fun k => P k ∨ w.heap.size ≤ k) v2 r3 ∧ Kd.V k27 27 w' w.heap.size (fun k => P k ∨ w.heap.size ≤ k) v3 r4 ∧ Below w.heap.size w w' := by
 have H := Sdq.mk (Option.some.inj h);have H2 := Sdq.mk h2;have H3 := Sdq.mk (show Kd.V k27 27 w 0 (fun k => P k ∧ k < w.heap.size) _ _ from Kd.V_bound h3);have N2 : Sdq (l2.length ≤ 9223372036854775807) := Sdq.mk h2.2.1
 have hl3 : (l3.length : Int) ≤ 9223372036854775807 := by have := (Kd.V_reads' h3).2.2.2.1; omega
 have K := Sdq.mk (show Ctx [uBlk (w.heap.size + 1) [.int .i64 0, .string ⟨#[]⟩, .slice none 0 0, .slice none 0 0] 27, uBlk w.heap.size [.int .i64 a0, .string a1, .slice A2 l2.length c2, .slice A3 l3.length c3] 27, uB w] ((w.alloc (.cells #[.int .i64 a0, .string a1, .slice A2 l2.length c2, .slice A3 l3.length c3] 27 (0, 0))).alloc (.cells #[.int .i64 0, .string ⟨#[]⟩, .slice none 0 0, .slice none 0 0] 27 (0, 0))) from by
  have e := Ctx.new (cs := [.int .i64 0, .string ⟨#[]⟩, .slice none 0 0, .slice none 0 0]) (t := 27) (Ctx.new (cs := [.int .i64 a0, .string a1, .slice A2 l2.length c2, .slice A3 l3.length c3]) (t := 27) (Ctx.cons (uB w) (Below.refl _ _) (Ctx.nil)))
  simpa using e)
 clear h h2 h3;go_enter Tryd.func26, Tryd.ntmps26
 go_upto_region 1 with fail
 refine absW _ K.out ?_;clear K;intro w1 K;have K := Sdq.mk K
 obtain ⟨y0, y1, y2, y3⟩ : w1.cell? ⟨w.heap.size + 1, 0, none⟩ = some (.int .i64 0) ∧ w1.cell? ⟨w.heap.size + 1, 1, none⟩ = some (.string ⟨#[]⟩) ∧ w1.cell? ⟨w.heap.size + 1, 2, none⟩ = some (.slice none 0 0) ∧ w1.cell? ⟨w.heap.size + 1, 3, none⟩ = some (.slice none 0 0) := ⟨Ctx.blk K.out.1 0 rfl, Ctx.blk K.out.1 1 rfl, Ctx.blk K.out.1 2 rfl, Ctx.blk K.out.1 3 rfl⟩
 obtain ⟨x0, x2, x3⟩ : w1.cell? ⟨w.heap.size, 0, none⟩ = some (.int .i64 a0) ∧ w1.cell? ⟨w.heap.size, 2, none⟩ = some (.slice A2 l2.length c2) ∧ w1.cell? ⟨w.heap.size, 3, none⟩ = some (.slice A3 l3.length c3) := ⟨Ctx.blk K.out.2.1 0 rfl, Ctx.blk K.out.2.1 2 rfl, Ctx.blk K.out.2.1 3 rfl⟩
 have f0 := Ctx.frz K.out.1 0;have f1 := Ctx.frz K.out.1 1;have f2 := Ctx.frz K.out.1 2;have f3 := Ctx.frz K.out.1 3;have H2 := Sdq.mk (Kd.C_below H2.out K.out.2.2.1);have H3 := Sdq.mk (Kd.V_below H3.out K.out.2.2.1);have NO := json_Get.fin (t2 := []) (t3 := []) (B2 := none) (B3 := none) (m2 := 0) (m3 := 0) (P := P) K.out 0 ⟨#[]⟩ (Kd.V_nil _ _ _ _ _) (Kd.V_nil _ _ _ _ _) _ rfl;simp only [List.length_nil] at NO;have NO := Sdq.mk NO
 have none_ : ∀ (hg : json_Get.o a0 l2 l3 key = none), Sdq ((0, ⟨#[]⟩, [], [], false) = (r1, r2, r3, r4, r5)) := fun hg => by
  have := H.out;rw [hg] at this;exact ⟨this⟩
 by_cases h6 : a0 = 6
 case neg =>
  have no := none_ (by unfold json_Get.o; rw [if_neg (fun h => h6 h.1)]);clear none_ H
  go_wp2_with fail
  have F := NO.out;clear NO x0 x2 x3 y0 y1 y2 y3 f0 f1 f2 f3 K H2 H3;generalize World.setCell _ _ _ = wf at F ⊢;obtain ⟨⟨V2, V3, fb⟩, e0, e1, e2, e3⟩ := F
  obtain ⟨rfl, rfl, rfl, rfl, rfl⟩ := (by simpa using no.out : 0 = r1 ∧ ⟨#[]⟩ = r2 ∧ [] = r3 ∧ [] = r4 ∧ false = r5)
  exact bodyPost_ret (v := .tuple #[.agg #[.int .i64 0, .string ⟨#[]⟩, .slice none 0 0, .slice none 0 0], .bool false]) (by simp [results, Tryd.results26, go_sem, e0, e1, e2, e3]) rfl ⟨_, _, rfl, V2, V3, fb⟩
 subst h6;by_cases hll : l2.length = l3.length
 case neg =>
  have no := none_ (by unfold json_Get.o; rw [if_neg (fun h => hll h.2)]);clear none_ H
  have hll' : ¬ (l2.length : Int) = (l3.length : Int) := by omega
  go_wp2_with fail
  have F := NO.out;clear NO x0 x2 x3 y0 y1 y2 y3 f0 f1 f2 f3 K H2 H3;generalize World.setCell _ _ _ = wf at F ⊢;obtain ⟨⟨V2, V3, fb⟩, e0, e1, e2, e3⟩ := F
  obtain ⟨rfl, rfl, rfl, rfl, rfl⟩ := (by simpa using no.out : 0 = r1 ∧ ⟨#[]⟩ = r2 ∧ [] = r3 ∧ [] = r4 ∧ false = r5)
  exact bodyPost_ret (v := .tuple #[.agg #[.int .i64 0, .string ⟨#[]⟩, .slice none 0 0, .slice none 0 0], .bool false]) (by simp [results, Tryd.results26, go_sem, e0, e1, e2, e3]) rfl ⟨_, _, rfl, V2, V3, fb⟩
 have hll' : (l2.length : Int) = (l3.length : Int) := by omega
 have none_ : ∀ (hg : getT key l2 l3 = none), Sdq ((0, ⟨#[]⟩, [], [], false) = (r1, r2, r3, r4, r5)) := fun hg => none_ (by unfold json_Get.o; rw [if_pos ⟨rfl, hll⟩]; exact hg)
 have some_ : ∀ x (hg : getT key l2 l3 = some x), Sdq ((x.f0, x.f1, x.f2, x.f3, true) = (r1, r2, r3, r4, r5)) := fun x hg => by
  have := H.out;rw [show json_Get.o 6 l2 l3 key = some x by unfold json_Get.o; rw [if_pos ⟨rfl, hll⟩]; exact hg] at this;exact ⟨this⟩
 have none_ := Sdq.mk none_;have some_ := Sdq.mk some_;clear H;have HL := Sdq.mk hll;clear hll
 go_wp2_with fail
 go_loopg [23] l2.length (fun kq s4 wc => ∃ i : Nat, s4 = .int .i64 (i : Int) ∧ kq + i = l2.length ∧ Sdq (getT key l2 l3 = getT key (l2.drop i) (l3.drop i)) ∧ wc = w1)
 case atStart => exact ⟨0, rfl, by omega, ⟨rfl⟩, rfl⟩
 case round =>
  obtain ⟨i, rfl, hi, HG, rfl⟩ := hrel
  cases gk with
  | zero =>
   have hg := HG.out;rw [show l2.drop i = [] from List.drop_eq_nil_of_le (by omega)] at hg;have no := none_.out hg;clear none_ some_ hg HG
   go_wp2_with fail
   have F := NO.out;clear NO x0 x2 x3 y0 y1 y2 y3 f0 f1 f2 f3 K H2 H3;generalize World.setCell _ _ _ = wf at F ⊢;obtain ⟨⟨V2, V3, fb⟩, e0, e1, e2, e3⟩ := F
   obtain ⟨rfl, rfl, rfl, rfl, rfl⟩ := (by simpa using no.out : 0 = r1 ∧ ⟨#[]⟩ = r2 ∧ [] = r3 ∧ [] = r4 ∧ false = r5)
   exact bodyPost_ret (v := .tuple #[.agg #[.int .i64 0, .string ⟨#[]⟩, .slice none 0 0, .slice none 0 0], .bool false]) (by simp [results, Tryd.results26, go_sem, e0, e1, e2, e3]) rfl ⟨_, _, rfl, V2, V3, fb⟩
  | succ gk =>
   have hlt : i < l2.length := by omega
   have hlt3 : i < l3.length := by have := HL.out; omega
   have hiz : (i : Int) < (l2.length : Int) := by omega
   have hiz3 : (i : Int) < (l3.length : Int) := by omega
   have hw1 : wrap64 ((i : Int) + 1) = ((i + 1 : Nat) : Int) := by have := N2.out; unfold wrap64; omega
   obtain ⟨ad, hA, hkey⟩ := key_at0 H2.out hlt;subst hA;have hg := HG.out;clear HG;rw [List.drop_eq_getElem_cons hlt, List.drop_eq_getElem_cons hlt3, getT] at hg;by_cases hc : (l2[i]).toList = key.toList
   ·rw [if_pos hc] at hg
    have hcb : ((l2[i]).toList == key.toList) = true := beq_iff_eq.2 hc;have yes := some_.out _ hg;clear none_ some_ hg
    have q0 : (0 : Int) ≤ (i : Int) := by omega
    obtain ⟨ad3, B2, d2, B3, d3, rfl, g0, g1, g2, g3, -, -, -, -⟩ := at_T27 (Kd.V_reads' H3.out).2.2 (i : Int) q0 hiz3;obtain ⟨ce, -, hF, hcc⟩ := Kd.V_get H3.out z27 (i : Int) q0 hiz3;obtain ⟨C2, e2, C3, e3, rfl, k2, F2, k3, F3⟩ := k27_openF hF;have j2 := hcc 2 _ rfl;have j3 := hcc 3 _ rfl;rw [add_field _ _ 2 (by omega)] at j2;rw [add_field _ _ 3 (by omega)] at j3
    injection Option.some.inj (j2.symm.trans g2) with p1 _ p2
    injection Option.some.inj (j3.symm.trans g3) with p3 _ p4
    subst p1 p2 p3 p4;clear hcc j2 j3 hF
    have hx : rd_T27 l3 (i : Int) = l3[i] := by simp [rd_T27, hlt3]
    rw [show l3.getD (i : Int).toNat z27 = l3[i] by simp [hlt3]] at k2 F2 k3 F3;rw [hx, Int.toNat_natCast] at g0 g1 g2 g3;have FIN := Sdq.mk (json_Get.fin K.out (l3[i]).f0 (l3[i]).f1 (Kd.V_mk k2 F2) (Kd.V_mk k3 F3) _ rfl);generalize l3[i] = x at yes k2 F2 k3 F3 g0 g1 g2 g3 FIN;clear hx k2 F2 k3 F3 hw1 NO
    go_wp2_with fail
    have F := FIN.out;clear FIN x0 x2 x3 y0 y1 y2 y3 f0 f1 f2 f3 g0 g1 g2 g3 K H2 H3 hkey;generalize World.setCell _ _ _ = wf at F ⊢;obtain ⟨⟨V2, V3, fb⟩, e0, e1, e2, e3⟩ := F
    obtain ⟨rfl, rfl, rfl, rfl, rfl⟩ := (by simpa using yes.out : x.f0 = r1 ∧ x.f1 = r2 ∧ x.f2 = r3 ∧ x.f3 = r4 ∧ true = r5)
    exact bodyPost_ret (v := .tuple #[.agg #[.int .i64 x.f0, .string x.f1, .slice _ x.f2.length _, .slice _ x.f3.length _], .bool true]) (by simp [results, Tryd.results26, go_sem, e0, e1, e2, e3]) rfl ⟨_, _, rfl, V2, V3, fb⟩
   ·rw [if_neg hc] at hg
    have hcb : ((l2[i]).toList == key.toList) = false := beq_eq_false_iff_ne.2 hc;have HG := Sdq.mk hg;clear hg
    go_wp2_with fail
    go_roundg gk
    case measure => omega
    exact ⟨i + 1, by simp, by omega, HG, rfl⟩
def R4q_Get.o (a0 : Int) (l2 : List ByteArray) (l3 : List S44) (key : ByteArray) : Option S44 := if a0 = 6 ∧ l2.length = l3.length then getT key l2 l3 else none
def R4q_Get.f (_ : Nat) (a0 : Int) (_ : ByteArray) (l2 : List ByteArray) (l3 : List S44) (key : ByteArray) : Option (Int × ByteArray × List ByteArray × List S44 × Bool) :=
 some (match R4q_Get.o a0 l2 l3 key with | some x => (x.f0, x.f1, x.f2, x.f3, true) | none => (0, ⟨#[]⟩, [], [], false))
theorem R4q_Get.fin {w W : World} {a0 a1 a2 a3 : Value} {B2 B3 : Option Addr} {m2 m3 : Nat} {t2 : List ByteArray} {t3 : List S44} {P : Nat → Prop} (h : Ctx [uBlk (w.heap.size + 1) [.int .i64 0, .string ⟨#[]⟩, .slice none 0 0, .slice none 0 0] 44, uBlk w.heap.size [a0, a1, a2, a3] 44, uB w] W) (z0 : Int) (z1 : ByteArray)
  (h2 : Kd.V Kd.string 9 W 0 (fun k => P k ∧ k < w.heap.size) (.slice B2 t2.length m2) t2) (h3 : Kd.V k44 44 W 0 (fun k => P k ∧ k < w.heap.size) (.slice B3 t3.length m3) t3) (wf : World) (hw : wf = (((W.setCell ⟨w.heap.size + 1, 0, none⟩ (.int .i64 z0)).setCell ⟨w.heap.size + 1, 1, none⟩ (.string z1)).setCell ⟨w.heap.size + 1, 2, none⟩ (.slice B2 t2.length m2)).setCell ⟨w.heap.size + 1, 3, none⟩ (.slice B3 t3.length m3)) :
  (Kd.V Kd.string 9 wf w.heap.size (fun k => P k ∨ w.heap.size ≤ k) (.slice B2 t2.length m2) t2 ∧ Kd.V k44 44 wf w.heap.size (fun k => P k ∨ w.heap.size ≤ k) (.slice B3 t3.length m3) t3 ∧ Below w.heap.size w wf) ∧
  wf.cell? ⟨w.heap.size + 1, 0, none⟩ = some (.int .i64 z0) ∧ wf.cell? ⟨w.heap.size + 1, 1, none⟩ = some (.string z1) ∧ wf.cell? ⟨w.heap.size + 1, 2, none⟩ = some (.slice B2 t2.length m2) ∧ wf.cell? ⟨w.heap.size + 1, 3, none⟩ = some (.slice B3 t3.length m3) := by
 subst hw;obtain ⟨b2, b1, hB, _⟩ := h;have hp := Ctx.put (Ctx.put (Ctx.put (Ctx.put b2 0 (.int .i64 z0)) 1 (.string z1)) 2 (.slice B2 t2.length m2)) 3 (.slice B3 t3.length m3);have hg := Nat.le_succ w.heap.size
 have hne : ∀ k, P k ∧ k < w.heap.size → k ≠ w.heap.size + 1 := fun k hk => by omega
 refine ⟨⟨?_, ?_, bstq (bstq (bstq (bstq hB hg) hg) hg) hg⟩, Ctx.blk hp 0 rfl, Ctx.blk hp 1 rfl, Ctx.blk hp 2 rfl, Ctx.blk hp 3 rfl⟩
 ·exact Kd.V_mono (Kd.V_far (p := ⟨w.heap.size + 1, 3, none⟩) (Kd.V_far (p := ⟨w.heap.size + 1, 2, none⟩) (Kd.V_far (p := ⟨w.heap.size + 1, 1, none⟩) (Kd.V_far (p := ⟨w.heap.size + 1, 0, none⟩) h2 hne _) hne _) hne _) hne _) (fun k hk => .inl hk.1)
 ·exact Kd.V_mono (Kd.V_far (p := ⟨w.heap.size + 1, 3, none⟩) (Kd.V_far (p := ⟨w.heap.size + 1, 2, none⟩) (Kd.V_far (p := ⟨w.heap.size + 1, 1, none⟩) (Kd.V_far (p := ⟨w.heap.size + 1, 0, none⟩) h3 hne _) hne _) hne _) hne _) (fun k hk => .inl hk.1)
set_option maxRecDepth 100000 in
set_option maxHeartbeats 6400000 in
theorem R4q_Get.calls (k : Nat) (a0 : Int) (a1 : ByteArray) (A2 : Option Addr) (c2 : Nat) (l2 : List ByteArray) (P : Nat → Prop) (A3 : Option Addr) (c3 : Nat) (l3 : List S44) (key : ByteArray) (r1 : Int) (r2 : ByteArray) (r3 : List ByteArray) (r4 : List S44) (r5 : Bool) (w : World) (h2 : Kd.C Kd.string w A2 l2.length l2) (_ : l2.length ≤ c2) (h3 : Kd.V k44 44 w w.heap.size (fun k => P k) (.slice A3 l3.length c3) l3) (h : R4q_Get.f k a0 a1 l2 l3 key = some (r1, r2, r3, r4, r5)) :
  Calls Tryd.prog 27 #[.agg #[.int .i64 a0, .string a1, .slice A2 l2.length c2, .slice A3 l3.length c3], .string key] w fun e w' => ∃ v2 v3 : Value, e = .returned (.tuple #[.agg #[.int .i64 r1, .string r2, v2, v3], .bool r5]) ∧ Kd.V Kd.string 9 w' w.heap.size (fun k => P k ∨ w.heap.size ≤ k) v2 r3 ∧ Kd.V k44 44 w' w.heap.size (fun k => P k ∨ w.heap.size ≤ k) v3 r4 ∧ Below w.heap.size w w' := by
 have H := Sdq.mk (Option.some.inj h);have H2 := Sdq.mk h2;have H3 := Sdq.mk (show Kd.V k44 44 w 0 (fun k => P k ∧ k < w.heap.size) _ _ from Kd.V_bound h3);have N2 : Sdq (l2.length ≤ 9223372036854775807) := Sdq.mk h2.2.1
 have hl3 : (l3.length : Int) ≤ 9223372036854775807 := by have := (Kd.V_reads' h3).2.2.2.1; omega
 have K := Sdq.mk (show Ctx [uBlk (w.heap.size + 1) [.int .i64 0, .string ⟨#[]⟩, .slice none 0 0, .slice none 0 0] 44, uBlk w.heap.size [.int .i64 a0, .string a1, .slice A2 l2.length c2, .slice A3 l3.length c3] 44, uB w] ((w.alloc (.cells #[.int .i64 a0, .string a1, .slice A2 l2.length c2, .slice A3 l3.length c3] 44 (0, 0))).alloc (.cells #[.int .i64 0, .string ⟨#[]⟩, .slice none 0 0, .slice none 0 0] 44 (0, 0))) from by
  have e := Ctx.new (cs := [.int .i64 0, .string ⟨#[]⟩, .slice none 0 0, .slice none 0 0]) (t := 44) (Ctx.new (cs := [.int .i64 a0, .string a1, .slice A2 l2.length c2, .slice A3 l3.length c3]) (t := 44) (Ctx.cons (uB w) (Below.refl _ _) (Ctx.nil)))
  simpa using e)
 clear h h2 h3;go_enter Tryd.func27, Tryd.ntmps27
 go_upto_region 1 with fail
 refine absW _ K.out ?_;clear K;intro w1 K;have K := Sdq.mk K
 obtain ⟨y0, y1, y2, y3⟩ : w1.cell? ⟨w.heap.size + 1, 0, none⟩ = some (.int .i64 0) ∧ w1.cell? ⟨w.heap.size + 1, 1, none⟩ = some (.string ⟨#[]⟩) ∧ w1.cell? ⟨w.heap.size + 1, 2, none⟩ = some (.slice none 0 0) ∧ w1.cell? ⟨w.heap.size + 1, 3, none⟩ = some (.slice none 0 0) := ⟨Ctx.blk K.out.1 0 rfl, Ctx.blk K.out.1 1 rfl, Ctx.blk K.out.1 2 rfl, Ctx.blk K.out.1 3 rfl⟩
 obtain ⟨x0, x2, x3⟩ : w1.cell? ⟨w.heap.size, 0, none⟩ = some (.int .i64 a0) ∧ w1.cell? ⟨w.heap.size, 2, none⟩ = some (.slice A2 l2.length c2) ∧ w1.cell? ⟨w.heap.size, 3, none⟩ = some (.slice A3 l3.length c3) := ⟨Ctx.blk K.out.2.1 0 rfl, Ctx.blk K.out.2.1 2 rfl, Ctx.blk K.out.2.1 3 rfl⟩
 have f0 := Ctx.frz K.out.1 0;have f1 := Ctx.frz K.out.1 1;have f2 := Ctx.frz K.out.1 2;have f3 := Ctx.frz K.out.1 3;have H2 := Sdq.mk (Kd.C_below H2.out K.out.2.2.1);have H3 := Sdq.mk (Kd.V_below H3.out K.out.2.2.1);have NO := R4q_Get.fin (t2 := []) (t3 := []) (B2 := none) (B3 := none) (m2 := 0) (m3 := 0) (P := P) K.out 0 ⟨#[]⟩ (Kd.V_nil _ _ _ _ _) (Kd.V_nil _ _ _ _ _) _ rfl;simp only [List.length_nil] at NO;have NO := Sdq.mk NO
 have none_ : ∀ (hg : R4q_Get.o a0 l2 l3 key = none), Sdq ((0, ⟨#[]⟩, [], [], false) = (r1, r2, r3, r4, r5)) := fun hg => by
  have := H.out;rw [hg] at this;exact ⟨this⟩
 by_cases h6 : a0 = 6
 case neg =>
  have no := none_ (by unfold R4q_Get.o; rw [if_neg (fun h => h6 h.1)]);clear none_ H
  go_wp2_with fail
  have F := NO.out;clear NO x0 x2 x3 y0 y1 y2 y3 f0 f1 f2 f3 K H2 H3;generalize World.setCell _ _ _ = wf at F ⊢;obtain ⟨⟨V2, V3, fb⟩, e0, e1, e2, e3⟩ := F
  obtain ⟨rfl, rfl, rfl, rfl, rfl⟩ := (by simpa using no.out : 0 = r1 ∧ ⟨#[]⟩ = r2 ∧ [] = r3 ∧ [] = r4 ∧ false = r5)
  exact bodyPost_ret (v := .tuple #[.agg #[.int .i64 0, .string ⟨#[]⟩, .slice none 0 0, .slice none 0 0], .bool false]) (by simp [results, Tryd.results27, go_sem, e0, e1, e2, e3]) rfl ⟨_, _, rfl, V2, V3, fb⟩
 subst h6;by_cases hll : l2.length = l3.length
 case neg =>
  have no := none_ (by unfold R4q_Get.o; rw [if_neg (fun h => hll h.2)]);clear none_ H
  have hll' : ¬ (l2.length : Int) = (l3.length : Int) := by omega
  go_wp2_with fail
  have F := NO.out;clear NO x0 x2 x3 y0 y1 y2 y3 f0 f1 f2 f3 K H2 H3;generalize World.setCell _ _ _ = wf at F ⊢;obtain ⟨⟨V2, V3, fb⟩, e0, e1, e2, e3⟩ := F
  obtain ⟨rfl, rfl, rfl, rfl, rfl⟩ := (by simpa using no.out : 0 = r1 ∧ ⟨#[]⟩ = r2 ∧ [] = r3 ∧ [] = r4 ∧ false = r5)
  exact bodyPost_ret (v := .tuple #[.agg #[.int .i64 0, .string ⟨#[]⟩, .slice none 0 0, .slice none 0 0], .bool false]) (by simp [results, Tryd.results27, go_sem, e0, e1, e2, e3]) rfl ⟨_, _, rfl, V2, V3, fb⟩
 have hll' : (l2.length : Int) = (l3.length : Int) := by omega
 have none_ : ∀ (hg : getT key l2 l3 = none), Sdq ((0, ⟨#[]⟩, [], [], false) = (r1, r2, r3, r4, r5)) := fun hg => none_ (by unfold R4q_Get.o; rw [if_pos ⟨rfl, hll⟩]; exact hg)
 have some_ : ∀ x (hg : getT key l2 l3 = some x), Sdq ((x.f0, x.f1, x.f2, x.f3, true) = (r1, r2, r3, r4, r5)) := fun x hg => by
  have := H.out;rw [show R4q_Get.o 6 l2 l3 key = some x by unfold R4q_Get.o; rw [if_pos ⟨rfl, hll⟩]; exact hg] at this;exact ⟨this⟩
 have none_ := Sdq.mk none_;have some_ := Sdq.mk some_;clear H;have HL := Sdq.mk hll;clear hll
 go_wp2_with fail
 go_loopg [6] l2.length (fun kq s4 wc => ∃ i : Nat, s4 = .int .i64 (i : Int) ∧ kq + i = l2.length ∧ Sdq (getT key l2 l3 = getT key (l2.drop i) (l3.drop i)) ∧ wc = w1)
 case atStart => exact ⟨0, rfl, by omega, ⟨rfl⟩, rfl⟩
 case round =>
  obtain ⟨i, rfl, hi, HG, rfl⟩ := hrel
  cases gk with
  | zero =>
   have hg := HG.out;rw [show l2.drop i = [] from List.drop_eq_nil_of_le (by omega)] at hg;have no := none_.out hg;clear none_ some_ hg HG
   go_wp2_with fail
   have F := NO.out;clear NO x0 x2 x3 y0 y1 y2 y3 f0 f1 f2 f3 K H2 H3;generalize World.setCell _ _ _ = wf at F ⊢;obtain ⟨⟨V2, V3, fb⟩, e0, e1, e2, e3⟩ := F
   obtain ⟨rfl, rfl, rfl, rfl, rfl⟩ := (by simpa using no.out : 0 = r1 ∧ ⟨#[]⟩ = r2 ∧ [] = r3 ∧ [] = r4 ∧ false = r5)
   exact bodyPost_ret (v := .tuple #[.agg #[.int .i64 0, .string ⟨#[]⟩, .slice none 0 0, .slice none 0 0], .bool false]) (by simp [results, Tryd.results27, go_sem, e0, e1, e2, e3]) rfl ⟨_, _, rfl, V2, V3, fb⟩
  | succ gk =>
   have hlt : i < l2.length := by omega
   have hlt3 : i < l3.length := by have := HL.out; omega
   have hiz : (i : Int) < (l2.length : Int) := by omega
   have hiz3 : (i : Int) < (l3.length : Int) := by omega
   have hw1 : wrap64 ((i : Int) + 1) = ((i + 1 : Nat) : Int) := by have := N2.out; unfold wrap64; omega
   obtain ⟨ad, hA, hkey⟩ := key_at0 H2.out hlt;subst hA;have hg := HG.out;clear HG;rw [List.drop_eq_getElem_cons hlt, List.drop_eq_getElem_cons hlt3, getT] at hg;by_cases hc : (l2[i]).toList = key.toList
   ·rw [if_pos hc] at hg
    have hcb : ((l2[i]).toList == key.toList) = true := beq_iff_eq.2 hc;have yes := some_.out _ hg;clear none_ some_ hg
    have q0 : (0 : Int) ≤ (i : Int) := by omega
    obtain ⟨ad3, B2, d2, B3, d3, rfl, g0, g1, g2, g3, -, -, -, -⟩ := at_T44 (Kd.V_reads' H3.out).2.2 (i : Int) q0 hiz3;obtain ⟨ce, -, hF, hcc⟩ := Kd.V_get H3.out z44 (i : Int) q0 hiz3;obtain ⟨C2, e2, C3, e3, rfl, k2, F2, k3, F3⟩ := k44_openF hF;have j2 := hcc 2 _ rfl;have j3 := hcc 3 _ rfl;rw [add_field _ _ 2 (by omega)] at j2;rw [add_field _ _ 3 (by omega)] at j3
    injection Option.some.inj (j2.symm.trans g2) with p1 _ p2
    injection Option.some.inj (j3.symm.trans g3) with p3 _ p4
    subst p1 p2 p3 p4;clear hcc j2 j3 hF
    have hx : rd_T44 l3 (i : Int) = l3[i] := by simp [rd_T44, hlt3]
    rw [show l3.getD (i : Int).toNat z44 = l3[i] by simp [hlt3]] at k2 F2 k3 F3;rw [hx, Int.toNat_natCast] at g0 g1 g2 g3;have FIN := Sdq.mk (R4q_Get.fin K.out (l3[i]).f0 (l3[i]).f1 (Kd.V_mk k2 F2) (Kd.V_mk k3 F3) _ rfl);generalize l3[i] = x at yes k2 F2 k3 F3 g0 g1 g2 g3 FIN;clear hx k2 F2 k3 F3 hw1 NO
    go_wp2_with fail
    have F := FIN.out;clear FIN x0 x2 x3 y0 y1 y2 y3 f0 f1 f2 f3 g0 g1 g2 g3 K H2 H3 hkey;generalize World.setCell _ _ _ = wf at F ⊢;obtain ⟨⟨V2, V3, fb⟩, e0, e1, e2, e3⟩ := F
    obtain ⟨rfl, rfl, rfl, rfl, rfl⟩ := (by simpa using yes.out : x.f0 = r1 ∧ x.f1 = r2 ∧ x.f2 = r3 ∧ x.f3 = r4 ∧ true = r5)
    exact bodyPost_ret (v := .tuple #[.agg #[.int .i64 x.f0, .string x.f1, .slice _ x.f2.length _, .slice _ x.f3.length _], .bool true]) (by simp [results, Tryd.results27, go_sem, e0, e1, e2, e3]) rfl ⟨_, _, rfl, V2, V3, fb⟩
   ·rw [if_neg hc] at hg
    have hcb : ((l2[i]).toList == key.toList) = false := beq_eq_false_iff_ne.2 hc;have HG := Sdq.mk hg;clear hg
    go_wp2_with fail
    go_roundg gk
    case measure => omega
    exact ⟨i + 1, by simp, by omega, HG, rfl⟩
end Go.Proofs.YteighppcdpaekaaDoor.P
end
