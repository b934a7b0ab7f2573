/- Walks and words of this session, put together by a program of this session (pack.py). Conditions: as each text says. -/
import Derived.Test.YteighppcdpaekaaDoorQ2
import Derived.Test.YteighppcdpaekaaDoorQ3
import Derived.Test.YteighppcdpaekaaDoorQ4
import Derived.Test.YteighppcdpaekaaDoorQ7
import Derived.Test.YteighppcdpaekaaDoorQ8
import Derived.Test.YteighppcdpaekaaDoorQ10
import Derived.Test.YteighppcdpaekaaDoorQ11
set_option linter.unusedVariables false
set_option linter.unusedSimpArgs false
section
namespace Go.Proofs.YteighppcdpaekaaDoor.P
open Go.RowKit Go.Proofs.YteighppcdpaekaaDoor.Rf Go.Proofs.YteighppcdpaekaaDoorW.PrintWords Go.Proofs.YteighppcdpaekaaDoorW.PrintLast Go.Proofs.YteighppcdpaekaaDoorW.PrintMore
set_option linter.unusedVariables false
set_option linter.unusedSimpArgs false
def T1 : Nat → Prop := fun _ => True
theorem tab7_8 : tabOf (opsOf Tryd.f7 8) = ([some 52, some 53, some 54, some 55, some 56, some 13, none], [[], [0], [], [2, 1], [1, 3, 3], [], [5, 4, 4, 0, 1, 2, 3, 4, 5]]) := by kernel_rfl
theorem tab7_11 : tabOf (opsOf Tryd.f7 11) = ([some 66, some 67, some 68, some 69, some 70, some 71, some 72, some 73, some 74, some 75, some 76, some 77, some 78, some 79, some 80, some 81, some 82, some 83, some 84, some 85, some 86, some 87, some 88, some 89, some 90, some 91, some 2], [[], [0, 0], [1], [2, 1, 1], [1], [1], [4, 5, 3, 1], [3, 6, 6, 1], [1, 7], [8, 7], [9], [10, 9, 9], [9], [9], [12, 13, 9], [14, 11, 9], [11, 15, 15, 9], [9, 16], [17, 16], [18], [19, 18, 18], [18], [18], [21, 22, 20, 18], [20, 23, 23, 18], [18, 24], [25, 24, 0, 1, 2, 3, 4, 5, 6, 7, 8, 9, 10, 11, 12, 13, 14, 15, 16, 17, 18, 19, 20, 21, 22, 23, 24, 25]]) := by kernel_rfl
set_option maxRecDepth 100000 in
set_option maxHeartbeats 6400000 in
theorem makes_good (k : Nat) (i : List Int) (A : Option Addr) (c : Nat) (j : List Int) (B : Option Addr) (d : Nat) (m : ByteArray) (n : Int) (w0 : World) (hT : TabOk w0) (hi : Kd.C (Kd.int .u8) w0 A i.length i) (hc : i.length ≤ c) (hj : Kd.C (Kd.int .u8) w0 B j.length j) (hd : j.length ≤ d) (hil : i.length ≤ 500) (hjl : j.length ≤ 500) (hn : -9223372036854775808 ≤ n ∧ n ≤ 9223372036854775807) (x y : S44) (X Y : S27) (hpi : parseF k i = some (x, 0, 0)) (hpj : parseF k j = some (y, 0, 0)) (htx : toF k x = some X) (hty : toF k y = some Y)
  (ha : ofF k (⟨6, ⟨#[]⟩, [⟨#[106, 115, 111, 110, 114, 112, 99]⟩, ⟨#[105, 100]⟩, ⟨#[114, 101, 115, 117, 108, 116]⟩], [(⟨4, ⟨#[50, 46, 48]⟩, [], []⟩ : S27), X, Y]⟩ : S27) = some (⟨6, ⟨#[]⟩, [⟨#[106, 115, 111, 110, 114, 112, 99]⟩, ⟨#[105, 100]⟩, ⟨#[114, 101, 115, 117, 108, 116]⟩], [(⟨4, ⟨#[50, 46, 48]⟩, [], []⟩ : S44), x, y]⟩ : S44)) (hb : ofF k (⟨6, ⟨#[]⟩, [⟨#[106, 115, 111, 110, 114, 112, 99]⟩, ⟨#[105, 100]⟩, ⟨#[101, 114, 114, 111, 114]⟩], [(⟨4, ⟨#[50, 46, 48]⟩, [], []⟩ : S27), X, (⟨6, ⟨#[]⟩, [⟨#[99, 111, 100, 101]⟩, ⟨#[109, 101, 115, 115, 97, 103, 101]⟩], [(⟨3, numS n, [], []⟩ : S27), (⟨4, msgS n, [], []⟩ : S27)]⟩ : S27)]⟩ : S27) = some (⟨6, ⟨#[]⟩, [⟨#[106, 115, 111, 110, 114, 112, 99]⟩, ⟨#[105, 100]⟩, ⟨#[101, 114, 114, 111, 114]⟩], [(⟨4, ⟨#[50, 46, 48]⟩, [], []⟩ : S44), x, (⟨6, ⟨#[]⟩, [⟨#[99, 111, 100, 101]⟩, ⟨#[109, 101, 115, 115, 97, 103, 101]⟩], [(⟨3, numS n, [], []⟩ : S44), (⟨4, msgS n, [], []⟩ : S44)]⟩ : S44)]⟩ : S44)) (hc3 : ofF k (⟨6, ⟨#[]⟩, [⟨#[106, 115, 111, 110, 114, 112, 99]⟩, ⟨#[109, 101, 116, 104, 111, 100]⟩, ⟨#[112, 97, 114, 97, 109, 115]⟩], [(⟨4, ⟨#[50, 46, 48]⟩, [], []⟩ : S27), (⟨4, m, [], []⟩ : S27), Y]⟩ : S27) = some (⟨6, ⟨#[]⟩, [⟨#[106, 115, 111, 110, 114, 112, 99]⟩, ⟨#[109, 101, 116, 104, 111, 100]⟩, ⟨#[112, 97, 114, 97, 109, 115]⟩], [(⟨4, ⟨#[50, 46, 48]⟩, [], []⟩ : S44), (⟨4, m, [], []⟩ : S44), y]⟩ : S44)) : Calls Tryd.prog 7 #[.agg #[.slice A i.length c, .slice B j.length d, .string m, .int .i64 n]] w0 (fun e w' => e = .returned (.bool true) ∧ Below w0.heap.size w0 w') := by
 have TX := Sdq.mk htx;have TY := Sdq.mk hty;have FA := Sdq.mk ha;have FB := Sdq.mk hb;have FC := Sdq.mk hc3;clear htx hty ha hb hc3;have PI := Sdq.mk hpi;have PJ := Sdq.mk hpj;have HI := Sdq.mk hi;have HJ := Sdq.mk hj;have hc := Sdq.mk hc;have hd := Sdq.mk hd;clear hpi hpj hi hj;have C0 : Ctx [uBlk w0.heap.size [.slice A i.length c, .slice B j.length d, .string m, .int .i64 n] 75, uB w0, uTab] (w0.alloc (.cells #[.slice A i.length c, .slice B j.length d, .string m, .int .i64 n] 75 (0, 0))) := Ctx.new (cs := [.slice A i.length c, .slice B j.length d, .string m, .int .i64 n]) (t := 75) (Ctx.cons (uB w0) (Below.refl _ _) (Ctx.cons uTab hT Ctx.nil));clear hT;go_enter Tryd.func7, Tryd.ntmps7
 go_upto_region 1 with fail
 refine absW _ C0 ?_;clear C0;intro w1 C;refine flowT (n := 12) tab7_1 rfl (Ctx _) (Rl [uEq (.pointer (some ⟨w0.heap.size, 0, none⟩)), uEq (.slice A i.length c), uEq (.pointer (some ⟨w0.heap.size, 1, none⟩)), uEq (.slice B j.length d), uEq (.pointer (some ⟨w0.heap.size, 2, none⟩)), uEq (.string m), uEq (.pointer (some ⟨w0.heap.size, 3, none⟩)), uEq (.int .i64 n), uEq (.slice A i.length c), uEq (.slice B j.length d), uEq (.string m), uEq (.int .i64 n)]) rfl (by kernel_rfl) (fun _ _ h hb => h.below hb) (Rl.up _) C ⟨⟨⟨⟨⟨⟨⟨⟨⟨⟨⟨⟨trivial, ?_⟩, ?_⟩, ?_⟩, ?_⟩, ?_⟩, ?_⟩, ?_⟩, ?_⟩, ?_⟩, ?_⟩, ?_⟩, ?_⟩ ?_
 ·refine At.of _ rfl (fun e a w hC hd hb K hK => ?_)
  have b1 : a.tmps[1]? = some (.pointer (some ⟨w0.heap.size, 0, none⟩)) := hb 1 (by decide);refine value_ (w1 := w) (v := .pointer (some ⟨w0.heap.size, 0, none⟩)) (by rfl) rfl ?_ (hK.out _ _ (Below.refl _ _) rfl);clear hC hd hb hK
  first | (go_simp; done) | (go_simp; rfl)
 ·refine At.of _ rfl (fun e a w hC hd hb K hK => ?_)
  have q0 := (hd 0 (by decide)).2 16 rfl;rw [show e 0 = _ from (hd 0 (by decide)).1] at q0;have cx : w.cell? ⟨w0.heap.size, 0, none⟩ = some (.slice A i.length c) := Ctx.blk hC.1 0 rfl;refine value_ (w1 := w) (v := .slice A i.length c) (by rfl) rfl ?_ (hK.out _ _ (Below.refl _ _) rfl);clear hC hd hb hK
  first | (go_simp; done) | (go_simp; rfl)
 ·refine At.of _ rfl (fun e a w hC hd hb K hK => ?_)
  have b1 : a.tmps[1]? = some (.pointer (some ⟨w0.heap.size, 0, none⟩)) := hb 1 (by decide);refine value_ (w1 := w) (v := .pointer (some ⟨w0.heap.size, 1, none⟩)) (by rfl) rfl ?_ (hK.out _ _ (Below.refl _ _) rfl);clear hC hd hb hK
  first | (go_simp; done) | (go_simp; rfl)
 ·refine At.of _ rfl (fun e a w hC hd hb K hK => ?_)
  have q2 := (hd 2 (by decide)).2 18 rfl;rw [show e 2 = _ from (hd 2 (by decide)).1] at q2;have cx : w.cell? ⟨w0.heap.size, 1, none⟩ = some (.slice B j.length d) := Ctx.blk hC.1 1 rfl;refine value_ (w1 := w) (v := .slice B j.length d) (by rfl) rfl ?_ (hK.out _ _ (Below.refl _ _) rfl);clear hC hd hb hK
  first | (go_simp; done) | (go_simp; rfl)
 ·refine At.of _ rfl (fun e a w hC hd hb K hK => ?_)
  have b1 : a.tmps[1]? = some (.pointer (some ⟨w0.heap.size, 0, none⟩)) := hb 1 (by decide);refine value_ (w1 := w) (v := .pointer (some ⟨w0.heap.size, 2, none⟩)) (by rfl) rfl ?_ (hK.out _ _ (Below.refl _ _) rfl);clear hC hd hb hK
  first | (go_simp; done) | (go_simp; rfl)
 ·refine At.of _ rfl (fun e a w hC hd hb K hK => ?_)
  have q4 := (hd 4 (by decide)).2 20 rfl;rw [show e 4 = _ from (hd 4 (by decide)).1] at q4;have cx : w.cell? ⟨w0.heap.size, 2, none⟩ = some (.string m) := Ctx.blk hC.1 2 rfl;refine value_ (w1 := w) (v := .string m) (by rfl) rfl ?_ (hK.out _ _ (Below.refl _ _) rfl);clear hC hd hb hK
  first | (go_simp; done) | (go_simp; rfl)
 ·refine At.of _ rfl (fun e a w hC hd hb K hK => ?_)
  have b1 : a.tmps[1]? = some (.pointer (some ⟨w0.heap.size, 0, none⟩)) := hb 1 (by decide);refine value_ (w1 := w) (v := .pointer (some ⟨w0.heap.size, 3, none⟩)) (by rfl) rfl ?_ (hK.out _ _ (Below.refl _ _) rfl);clear hC hd hb hK
  first | (go_simp; done) | (go_simp; rfl)
 ·refine At.of _ rfl (fun e a w hC hd hb K hK => ?_)
  have q6 := (hd 6 (by decide)).2 22 rfl;rw [show e 6 = _ from (hd 6 (by decide)).1] at q6;have cx : w.cell? ⟨w0.heap.size, 3, none⟩ = some (.int .i64 n) := Ctx.blk hC.1 3 rfl;refine value_ (w1 := w) (v := .int .i64 n) (by rfl) rfl ?_ (hK.out _ _ (Below.refl _ _) rfl);clear hC hd hb hK
  first | (go_simp; done) | (go_simp; rfl)
 ·refine At.of _ rfl (fun e a w hC hd hb K hK => ?_)
  have q1 := (hd 1 (by decide)).2 17 rfl;rw [show e 1 = _ from (hd 1 (by decide)).1] at q1;refine value_ (w1 := w) (v := .slice A i.length c) (by rfl) rfl ?_ (hK.out _ _ (Below.refl _ _) rfl);clear hC hd hb hK
  first | (go_simp; done) | (go_simp; rfl)
 ·refine At.of _ rfl (fun e a w hC hd hb K hK => ?_)
  have q3 := (hd 3 (by decide)).2 19 rfl;rw [show e 3 = _ from (hd 3 (by decide)).1] at q3;refine value_ (w1 := w) (v := .slice B j.length d) (by rfl) rfl ?_ (hK.out _ _ (Below.refl _ _) rfl);clear hC hd hb hK
  first | (go_simp; done) | (go_simp; rfl)
 ·refine At.of _ rfl (fun e a w hC hd hb K hK => ?_)
  have q5 := (hd 5 (by decide)).2 21 rfl;rw [show e 5 = _ from (hd 5 (by decide)).1] at q5;refine value_ (w1 := w) (v := .string m) (by rfl) rfl ?_ (hK.out _ _ (Below.refl _ _) rfl);clear hC hd hb hK
  first | (go_simp; done) | (go_simp; rfl)
 ·refine At.of _ rfl (fun e a w hC hd hb K hK => ?_)
  have q7 := (hd 7 (by decide)).2 23 rfl;rw [show e 7 = _ from (hd 7 (by decide)).1] at q7;refine value_ (w1 := w) (v := .int .i64 n) (by rfl) rfl ?_ (hK.out _ _ (Below.refl _ _) rfl);clear hC hd hb hK
  first | (go_simp; done) | (go_simp; rfl)
 intro ev w C hr;have r1 : ev 1 = .slice A i.length c := hr.1.1.1.1.1.1.1.1.1.1.2;have r3 : ev 3 = .slice B j.length d := hr.1.1.1.1.1.1.1.1.2;have r5 : ev 5 = .string m := hr.1.1.1.1.1.1.2;have r7 : ev 7 = .int .i64 n := hr.1.1.1.1.2;have r8 : ev 8 = .slice A i.length c := hr.1.1.1.2;have r9 : ev 9 = .slice B j.length d := hr.1.1.2;have r10 : ev 10 = .string m := hr.1.2;have r11 : ev 11 = .int .i64 n := hr.2;simp only [fill, Act.put, r1, r3, r5, r7, r8, r9, r10, r11, if_true, List.setIfInBounds_toArray, List.set_cons_zero, List.set_cons_succ];clear hr r1 r3 r5 r7 r8 r9 r10 r11
 have hi' : ¬ (500 : Int) < (i.length : Int) := by omega
 have hj' : ¬ (500 : Int) < (j.length : Int) := by omega
 have HI := Sdq.mk (Kd.C_below HI.out C.2.1);have HJ := Sdq.mk (Kd.C_below HJ.out C.2.1);have K := Sdq.mk C;clear C
 go_wp2_with fail
 refine (parse_calls k A c i _ w HI.out hc.out PI.out).mono ?_;rintro en W1 ⟨u2, u3, rfl, h2, h3, hb⟩;have KX := rowsK (ok := T1) (s := x) h2 h3 (fun _ _ => trivial);obtain ⟨x2, xn2, x3, xn3, xe, -⟩ := KX.open44;simp only [Value.agg.injEq, Array.mk.injEq, List.cons.injEq, and_true, true_and] at xe;obtain ⟨rfl, rfl⟩ := xe;have C := Ctx.new (cs := [.int .i64 x.f0, .string x.f1, .slice x2 x.f2.length xn2, .slice x3 x.f3.length xn3]) (t := 44) (Ctx.cons (uK k44 T1 _ x) KX (K.out.below hb));have HJ := Sdq.mk (Kd.C_below HJ.out hb);clear K hb h2 h3 HI PI KX
 go_upto_region 5 with fail
 refine absW _ (Ctx.cons (uC (Kd.int .u8) B j.length j) (Kd.C_below HJ.out (bal (Below.refl _ _) _)) C) ?_;clear C HJ;intro w2 C;have HJ := Sdq.mk (show Kd.C (Kd.int .u8) w2 B j.length j from C.1);have K := Sdq.mk C.2;clear C
 go_wp2_with fail
 refine (parse_calls k B d j _ w2 HJ.out hd.out PJ.out).mono ?_;rintro en W2 ⟨u2, u3, rfl, h2, h3, hb⟩;have KY := rowsK (ok := T1) (s := y) h2 h3 (fun _ _ => trivial);obtain ⟨y2, yn2, y3, yn3, ye, -⟩ := KY.open44;simp only [Value.agg.injEq, Array.mk.injEq, List.cons.injEq, and_true, true_and] at ye;obtain ⟨rfl, rfl⟩ := ye;have C := Ctx.new (cs := [.int .i64 y.f0, .string y.f1, .slice y2 y.f2.length yn2, .slice y3 y.f3.length yn3]) (t := 44) (Ctx.cons (uK k44 T1 _ y) KY (K.out.below hb));clear K hb h2 h3 HJ PJ KY
 go_upto_region 6 with fail
 refine absW _ C ?_;clear C;intro w3 C;have K := Sdq.mk C;clear C
 go_upto_region 8 with fail
 have C : Ctx [uK k44 (fun k => k < w3.heap.size) (.agg #[.int .i64 x.f0, .string x.f1, .slice x2 x.f2.length xn2, .slice x3 x.f3.length xn3]) x, uK k44 (fun k => k < w3.heap.size) (.agg #[.int .i64 y.f0, .string y.f1, .slice y2 y.f2.length yn2, .slice y3 y.f3.length yn3]) y, uB w3, uBlk W2.heap.size [.int .i64 y.f0, .string y.f1, .slice y2 y.f2.length yn2, .slice y3 y.f3.length yn3] 44, uK k44 T1 (.agg #[.int .i64 y.f0, .string y.f1, .slice y2 y.f2.length yn2, .slice y3 y.f3.length yn3]) y, uBlk W1.heap.size [.int .i64 x.f0, .string x.f1, .slice x2 x.f2.length xn2, .slice x3 x.f3.length xn3] 44, uK k44 T1 (.agg #[.int .i64 x.f0, .string x.f1, .slice x2 x.f2.length xn2, .slice x3 x.f3.length xn3]) x, uBlk w0.heap.size [.slice A i.length c, .slice B j.length d, .string m, .int .i64 n] 75, uB w0, uTab] w3 := ⟨(show Kv k44 T1 w3 _ x from K.out.2.2.2.1).within (fun k _ h => h), (show Kv k44 T1 w3 _ y from K.out.2.1).within (fun k _ h => h), Below.refl _ _, K.out⟩
 have hO3 : ∀ (w : World), Ctx [uK k44 (fun k => k < w3.heap.size) (.agg #[.int .i64 x.f0, .string x.f1, .slice x2 x.f2.length xn2, .slice x3 x.f3.length xn3]) x, uK k44 (fun k => k < w3.heap.size) (.agg #[.int .i64 y.f0, .string y.f1, .slice y2 y.f2.length yn2, .slice y3 y.f3.length yn3]) y, uB w3, uBlk W2.heap.size [.int .i64 y.f0, .string y.f1, .slice y2 y.f2.length yn2, .slice y3 y.f3.length yn3] 44, uK k44 T1 (.agg #[.int .i64 y.f0, .string y.f1, .slice y2 y.f2.length yn2, .slice y3 y.f3.length yn3]) y, uBlk W1.heap.size [.int .i64 x.f0, .string x.f1, .slice x2 x.f2.length xn2, .slice x3 x.f3.length xn3] 44, uK k44 T1 (.agg #[.int .i64 x.f0, .string x.f1, .slice x2 x.f2.length xn2, .slice x3 x.f3.length xn3]) x, uBlk w0.heap.size [.slice A i.length c, .slice B j.length d, .string m, .int .i64 n] 75, uB w0, uTab] w → ∀ b : Option Nat, (∀ g, b = some g → w3.heap.size ≤ g ∧ (uBlk g [.int .i64 0, .string ⟨#[]⟩, .slice none 0 0, .slice none 0 0] 27).p w) → ∀ k, w.heap.size ≤ k → T1 k ∧ b ≠ some k := fun w _ b hG k hk => ⟨trivial, fun e => by have := blk_lt (hG k e).2; omega⟩
 refine flowX (m := 6) (p := 5) (Z := .cells #[.int .i64 0, .string ⟨#[]⟩, .slice none 0 0, .slice none 0 0] 27 (0, 0)) tab7_8 rfl (Ctx _) (fun g W => w3.heap.size ≤ g ∧ (uBlk g [.int .i64 0, .string ⟨#[]⟩, .slice none 0 0, .slice none 0 0] 27).p W) (Rx [xEq (.agg #[.int .i64 x.f0, .string x.f1, .slice x2 x.f2.length xn2, .slice x3 x.f3.length xn3]), xKd k27 X, xEq (.agg #[.int .i64 y.f0, .string y.f1, .slice y2 y.f2.length yn2, .slice y3 y.f3.length yn3]), xKd k27 Y, xKd k27 (⟨6, ⟨#[]⟩, [⟨#[106, 115, 111, 110, 114, 112, 99]⟩, ⟨#[105, 100]⟩, ⟨#[114, 101, 115, 117, 108, 116]⟩], [(⟨4, ⟨#[50, 46, 48]⟩, [], []⟩ : S27), X, Y]⟩ : S27), xEq undef] T1) rfl (by kernel_rfl) (fun _ _ h hb => h.below hb) (fun g _ _ h hb => ⟨h.1, (uBlk g _ _).up _ _ h.2 hb⟩) (Rx.up _ _) (Rx.laid _ _ _) C ⟨⟨⟨⟨⟨⟨trivial, ?_⟩, ?_⟩, ?_⟩, ?_⟩, ?_⟩, fun h => absurd rfl h⟩ ?_ _ rfl ?_
 ·refine AtX.of _ rfl (fun b e a w hC hG hd hb K hK => ?_)
  have b7 : a.tmps[7]? = some (.pointer (some ⟨W1.heap.size, 0, none⟩)) := hb 7 (by decide);have cx0 : w.cell? ⟨W1.heap.size, 0, none⟩ = some (.int .i64 x.f0) := Ctx.blk hC.2.2.2.2.2.1 0 rfl;have cx1 : w.cell? ⟨W1.heap.size, 1, none⟩ = some (.string x.f1) := Ctx.blk hC.2.2.2.2.2.1 1 rfl;have cx2 : w.cell? ⟨W1.heap.size, 2, none⟩ = some (.slice x2 x.f2.length xn2) := Ctx.blk hC.2.2.2.2.2.1 2 rfl;have cx3 : w.cell? ⟨W1.heap.size, 3, none⟩ = some (.slice x3 x.f3.length xn3) := Ctx.blk hC.2.2.2.2.2.1 3 rfl;refine value_ (w1 := w) (v := .agg #[.int .i64 x.f0, .string x.f1, .slice x2 x.f2.length xn2, .slice x3 x.f3.length xn3]) (by rfl) rfl ?_ (hK.out _ _ (Below.refl _ _) rfl);clear hC hG hd hb hK
  first | (go_simp; done) | (go_simp; rfl)
 ·refine AtX.of _ rfl (fun b e a w hC hG hd hb K hK => ?_)
  have q0 := (hd 0 (by decide)).2 52 rfl;rw [show e 0 = _ from ((hd 0 (by decide)).1 (by decide))] at q0;refine goes_ Tryd.func21 (by kernel_rfl) rfl #[.agg #[.int .i64 x.f0, .string x.f1, .slice x2 x.f2.length xn2, .slice x3 x.f3.length xn3]] (by rfl) rfl rfl (by first | (simp [Act.eval, q0]; done) | (simp [Act.eval, q0]; rfl)) ?_;refine (toJ k _ x X w (hO3 w hC b hG) (Kv.mono hC.1 (fun k hk => ⟨trivial, fun e => by have := (hG k e).1; omega⟩)) TX.out).mono ?_;rintro en w' ⟨v, rfl, hv, hb'⟩;exact ⟨v, rfl, hK.out v w' hb' hv⟩
 ·refine AtX.of _ rfl (fun b e a w hC hG hd hb K hK => ?_)
  have b10 : a.tmps[10]? = some (.pointer (some ⟨W2.heap.size, 0, none⟩)) := hb 10 (by decide);have cy0 : w.cell? ⟨W2.heap.size, 0, none⟩ = some (.int .i64 y.f0) := Ctx.blk hC.2.2.2.1 0 rfl;have cy1 : w.cell? ⟨W2.heap.size, 1, none⟩ = some (.string y.f1) := Ctx.blk hC.2.2.2.1 1 rfl;have cy2 : w.cell? ⟨W2.heap.size, 2, none⟩ = some (.slice y2 y.f2.length yn2) := Ctx.blk hC.2.2.2.1 2 rfl;have cy3 : w.cell? ⟨W2.heap.size, 3, none⟩ = some (.slice y3 y.f3.length yn3) := Ctx.blk hC.2.2.2.1 3 rfl;refine value_ (w1 := w) (v := .agg #[.int .i64 y.f0, .string y.f1, .slice y2 y.f2.length yn2, .slice y3 y.f3.length yn3]) (by rfl) rfl ?_ (hK.out _ _ (Below.refl _ _) rfl);clear hC hG hd hb hK
  first | (go_simp; done) | (go_simp; rfl)
 ·refine AtX.of _ rfl (fun b e a w hC hG hd hb K hK => ?_)
  have q2 := (hd 2 (by decide)).2 54 rfl;rw [show e 2 = _ from ((hd 2 (by decide)).1 (by decide))] at q2;refine goes_ Tryd.func21 (by kernel_rfl) rfl #[.agg #[.int .i64 y.f0, .string y.f1, .slice y2 y.f2.length yn2, .slice y3 y.f3.length yn3]] (by rfl) rfl rfl (by first | (simp [Act.eval, q2]; done) | (simp [Act.eval, q2]; rfl)) ?_;refine (toJ k _ y Y w (hO3 w hC b hG) (Kv.mono hC.2.1 (fun k hk => ⟨trivial, fun e => by have := (hG k e).1; omega⟩)) TY.out).mono ?_;rintro en w' ⟨v, rfl, hv, hb'⟩;exact ⟨v, rfl, hK.out v w' hb' hv⟩
 ·refine AtX.of _ rfl (fun b e a w hC hG hd hb K hK => ?_)
  have q1 := (hd 1 (by decide)).2 53 rfl;have q3 := (hd 3 (by decide)).2 55 rfl;refine goes_ Tryd.func31 (by kernel_rfl) rfl #[e 1, e 3] (by rfl) rfl rfl (by first | (simp [Act.eval, q1, q3]; done) | (simp [Act.eval, q1, q3]; rfl)) ?_;refine (result_calls _ _ _ X Y w (hO3 w hC b hG) ((hd 1 (by decide)).1 (by decide)) ((hd 3 (by decide)).1 (by decide))).mono ?_;rintro en w' ⟨v, rfl, hv, hb'⟩;exact ⟨v, rfl, hK.out v w' hb' hv⟩
 ·intro o ho a w hC
  obtain rfl := Option.some.inj (show some _ = some o from ho);refine ⟨⟨(show Below w3.heap.size w3 w from hC.2.2.1).size, blk_new w _⟩, fun K hK => ?_⟩;refine value_ (w1 := w.alloc (.cells #[.int .i64 0, .string ⟨#[]⟩, .slice none 0 0, .slice none 0 0] 27 (0, 0))) (v := .pointer (some ⟨w.heap.size, 0, none⟩)) (by rfl) rfl ?_ hK
  first | (go_simp; done) | (go_simp; rfl)
 ·intro e w g hC hep hG hr a ha_ Kk hK
  have hv : Kv k27 (fun k => T1 k ∧ some g ≠ some k) w (e 4) (⟨6, ⟨#[]⟩, [⟨#[106, 115, 111, 110, 114, 112, 99]⟩, ⟨#[105, 100]⟩, ⟨#[114, 101, 115, 117, 108, 116]⟩], [(⟨4, ⟨#[50, 46, 48]⟩, [], []⟩ : S27), X, Y]⟩ : S27) := hr.1.2 (by decide);obtain ⟨z2, zn2, z3, zn3, ze, -⟩ := hv.open27;rw [ze] at hv;simp only [fill, Act.put, ze, hep, Nat.reduceAdd, Nat.reduceLT, decide_true, decide_false, if_true, Bool.false_eq_true, if_false, List.setIfInBounds_toArray, List.set_cons_zero, List.set_cons_succ] at ha_;subst ha_
  have D : ∀ u0 u1 u2 u3, Kv k27 (fun k => T1 k ∧ some g ≠ some k) w (.agg #[u0, u1, u2, u3]) (⟨6, ⟨#[]⟩, [⟨#[106, 115, 111, 110, 114, 112, 99]⟩, ⟨#[105, 100]⟩, ⟨#[114, 101, 115, 117, 108, 116]⟩], [(⟨4, ⟨#[50, 46, 48]⟩, [], []⟩ : S27), X, Y]⟩ : S27) → Ctx [uBlk g [u0, u1, u2, u3] 27, uK k27 T1 (.agg #[u0, u1, u2, u3]) (⟨6, ⟨#[]⟩, [⟨#[106, 115, 111, 110, 114, 112, 99]⟩, ⟨#[105, 100]⟩, ⟨#[114, 101, 115, 117, 108, 116]⟩], [(⟨4, ⟨#[50, 46, 48]⟩, [], []⟩ : S27), X, Y]⟩ : S27), uBlk W2.heap.size [.int .i64 y.f0, .string y.f1, .slice y2 y.f2.length yn2, .slice y3 y.f3.length yn3] 44, uK k44 T1 (.agg #[.int .i64 y.f0, .string y.f1, .slice y2 y.f2.length yn2, .slice y3 y.f3.length yn3]) y, uBlk W1.heap.size [.int .i64 x.f0, .string x.f1, .slice x2 x.f2.length xn2, .slice x3 x.f3.length xn3] 44, uK k44 T1 (.agg #[.int .i64 x.f0, .string x.f1, .slice x2 x.f2.length xn2, .slice x3 x.f3.length xn3]) x, uBlk w0.heap.size [.slice A i.length c, .slice B j.length d, .string m, .int .i64 n] 75, uB w0, uTab] ((((w.setCell ⟨g, 0, none⟩ u0).setCell ⟨g, 1, none⟩ u1).setCell ⟨g, 2, none⟩ u2).setCell ⟨g, 3, none⟩ u3) := fun u0 u1 u2 u3 hv => by
   have hne : ∀ k, T1 k ∧ some g ≠ some k → k ≠ g := fun k hk e => hk.2 (by rw [e])
   exact ⟨Ctx.put (Ctx.put (Ctx.put (Ctx.put hG.2 0 u0) 1 u1) 2 u2) 3 u3, ((((hv.far (p := ⟨g, 0, none⟩) hne u0).far (p := ⟨g, 1, none⟩) hne u1).far (p := ⟨g, 2, none⟩) hne u2).far (p := ⟨g, 3, none⟩) hne u3).mono (fun _ _ => trivial), Ctx.below (bstq (bstq (bstq (bstq hC.2.2.1 hG.1) hG.1) hG.1) hG.1) K.out⟩
  have D := Sdq.mk (D _ _ _ _ hv);have z0_ := Ctx.blk hG.2 0 rfl;have z1_ := Ctx.blk hG.2 1 rfl;have z2_ := Ctx.blk hG.2 2 rfl;have z3_ := Ctx.blk hG.2 3 rfl;have f0_ := Ctx.frz hG.2 0;have f1_ := Ctx.frz hG.2 1;have f2_ := Ctx.frz hG.2 2;have f3_ := Ctx.frz hG.2 3;clear hG hC hr hep;refine skip_ (w1 := ?_) (by rfl) rfl ?_ ?_
  rotate_left
  ·go_simp
   rfl
  refine hK.out _ _ ?_;clear z0_ z1_ z2_ z3_ f0_ f1_ f2_ f3_ hK K C hO3
  go_upto_region 9 with fail
  have D := D.out;generalize World.setCell _ _ _ = w4 at D ⊢;have K := Sdq.mk D;clear D;have cx0 : w4.cell? ⟨W1.heap.size, 0, none⟩ = some (.int .i64 x.f0) := Ctx.blk K.out.2.2.2.2.1 0 rfl;have cx1 : w4.cell? ⟨W1.heap.size, 1, none⟩ = some (.string x.f1) := Ctx.blk K.out.2.2.2.2.1 1 rfl;have cx2 : w4.cell? ⟨W1.heap.size, 2, none⟩ = some (.slice x2 x.f2.length xn2) := Ctx.blk K.out.2.2.2.2.1 2 rfl;have cx3 : w4.cell? ⟨W1.heap.size, 3, none⟩ = some (.slice x3 x.f3.length xn3) := Ctx.blk K.out.2.2.2.2.1 3 rfl
  go_wp2_with fail
  refine (toJ k _ x X w4 (fun _ _ => trivial) K.out.2.2.2.2.2.1 TX.out).mono ?_;rintro en W4 ⟨v, rfl, hv, hb⟩;have K2 := Sdq.mk (K.out.below hb);obtain ⟨p2, pn2, p3, pn3, rfl, -⟩ := hv.open27;have HV := Sdq.mk hv;clear K hb hv cx0 cx1 cx2 cx3
  go_wp2_with fail
  refine (error_calls T1 n _ _ _ _ X W4 (fun _ _ => trivial) hn K2.out.2.2.2.2.2.2.2.2.1 HV.out).mono ?_;rintro en W5 ⟨v, rfl, hv, hb⟩;obtain ⟨q2, qn2, q3, qn3, rfl, -⟩ := hv.open27;have C := Ctx.new (cs := [.int .i64 (⟨6, ⟨#[]⟩, [⟨#[106, 115, 111, 110, 114, 112, 99]⟩, ⟨#[105, 100]⟩, ⟨#[101, 114, 114, 111, 114]⟩], [(⟨4, ⟨#[50, 46, 48]⟩, [], []⟩ : S27), X, (⟨6, ⟨#[]⟩, [⟨#[99, 111, 100, 101]⟩, ⟨#[109, 101, 115, 115, 97, 103, 101]⟩], [(⟨3, numS n, [], []⟩ : S27), (⟨4, msgS n, [], []⟩ : S27)]⟩ : S27)]⟩ : S27).f0, .string (⟨6, ⟨#[]⟩, [⟨#[106, 115, 111, 110, 114, 112, 99]⟩, ⟨#[105, 100]⟩, ⟨#[101, 114, 114, 111, 114]⟩], [(⟨4, ⟨#[50, 46, 48]⟩, [], []⟩ : S27), X, (⟨6, ⟨#[]⟩, [⟨#[99, 111, 100, 101]⟩, ⟨#[109, 101, 115, 115, 97, 103, 101]⟩], [(⟨3, numS n, [], []⟩ : S27), (⟨4, msgS n, [], []⟩ : S27)]⟩ : S27)]⟩ : S27).f1, .slice q2 (⟨6, ⟨#[]⟩, [⟨#[106, 115, 111, 110, 114, 112, 99]⟩, ⟨#[105, 100]⟩, ⟨#[101, 114, 114, 111, 114]⟩], [(⟨4, ⟨#[50, 46, 48]⟩, [], []⟩ : S27), X, (⟨6, ⟨#[]⟩, [⟨#[99, 111, 100, 101]⟩, ⟨#[109, 101, 115, 115, 97, 103, 101]⟩], [(⟨3, numS n, [], []⟩ : S27), (⟨4, msgS n, [], []⟩ : S27)]⟩ : S27)]⟩ : S27).f2.length qn2, .slice q3 (⟨6, ⟨#[]⟩, [⟨#[106, 115, 111, 110, 114, 112, 99]⟩, ⟨#[105, 100]⟩, ⟨#[101, 114, 114, 111, 114]⟩], [(⟨4, ⟨#[50, 46, 48]⟩, [], []⟩ : S27), X, (⟨6, ⟨#[]⟩, [⟨#[99, 111, 100, 101]⟩, ⟨#[109, 101, 115, 115, 97, 103, 101]⟩], [(⟨3, numS n, [], []⟩ : S27), (⟨4, msgS n, [], []⟩ : S27)]⟩ : S27)]⟩ : S27).f3.length qn3]) (t := 27) (Ctx.cons (uK k27 T1 _ (⟨6, ⟨#[]⟩, [⟨#[106, 115, 111, 110, 114, 112, 99]⟩, ⟨#[105, 100]⟩, ⟨#[101, 114, 114, 111, 114]⟩], [(⟨4, ⟨#[50, 46, 48]⟩, [], []⟩ : S27), X, (⟨6, ⟨#[]⟩, [⟨#[99, 111, 100, 101]⟩, ⟨#[109, 101, 115, 115, 97, 103, 101]⟩], [(⟨3, numS n, [], []⟩ : S27), (⟨4, msgS n, [], []⟩ : S27)]⟩ : S27)]⟩ : S27)) hv (K2.out.below hb));clear K2 hb hv HV
  go_upto_region 10 with fail
  refine absW _ C ?_;clear C;intro w5 C;have K := Sdq.mk C;clear C;have cy0 : w5.cell? ⟨W2.heap.size, 0, none⟩ = some (.int .i64 y.f0) := Ctx.blk K.out.2.2.2.2.1 0 rfl;have cy1 : w5.cell? ⟨W2.heap.size, 1, none⟩ = some (.string y.f1) := Ctx.blk K.out.2.2.2.2.1 1 rfl;have cy2 : w5.cell? ⟨W2.heap.size, 2, none⟩ = some (.slice y2 y.f2.length yn2) := Ctx.blk K.out.2.2.2.2.1 2 rfl;have cy3 : w5.cell? ⟨W2.heap.size, 3, none⟩ = some (.slice y3 y.f3.length yn3) := Ctx.blk K.out.2.2.2.2.1 3 rfl
  go_wp2_with fail
  refine (toJ k _ y Y w5 (fun _ _ => trivial) K.out.2.2.2.2.2.1 TY.out).mono ?_;rintro en W6 ⟨v, rfl, hv, hb⟩;have K2 := Sdq.mk (K.out.below hb);have HV := Sdq.mk hv;clear K hb hv cy0 cy1 cy2 cy3
  go_wp2_with fail
  refine (notify_calls T1 m _ Y W6 (fun _ _ => trivial) HV.out).mono ?_;rintro en W7 ⟨v, rfl, hv, hb⟩;obtain ⟨t2, tn2, t3, tn3, rfl, -⟩ := hv.open27;have C := Ctx.new (cs := [.int .i64 (⟨6, ⟨#[]⟩, [⟨#[106, 115, 111, 110, 114, 112, 99]⟩, ⟨#[109, 101, 116, 104, 111, 100]⟩, ⟨#[112, 97, 114, 97, 109, 115]⟩], [(⟨4, ⟨#[50, 46, 48]⟩, [], []⟩ : S27), (⟨4, m, [], []⟩ : S27), Y]⟩ : S27).f0, .string (⟨6, ⟨#[]⟩, [⟨#[106, 115, 111, 110, 114, 112, 99]⟩, ⟨#[109, 101, 116, 104, 111, 100]⟩, ⟨#[112, 97, 114, 97, 109, 115]⟩], [(⟨4, ⟨#[50, 46, 48]⟩, [], []⟩ : S27), (⟨4, m, [], []⟩ : S27), Y]⟩ : S27).f1, .slice t2 (⟨6, ⟨#[]⟩, [⟨#[106, 115, 111, 110, 114, 112, 99]⟩, ⟨#[109, 101, 116, 104, 111, 100]⟩, ⟨#[112, 97, 114, 97, 109, 115]⟩], [(⟨4, ⟨#[50, 46, 48]⟩, [], []⟩ : S27), (⟨4, m, [], []⟩ : S27), Y]⟩ : S27).f2.length tn2, .slice t3 (⟨6, ⟨#[]⟩, [⟨#[106, 115, 111, 110, 114, 112, 99]⟩, ⟨#[109, 101, 116, 104, 111, 100]⟩, ⟨#[112, 97, 114, 97, 109, 115]⟩], [(⟨4, ⟨#[50, 46, 48]⟩, [], []⟩ : S27), (⟨4, m, [], []⟩ : S27), Y]⟩ : S27).f3.length tn3]) (t := 27) (Ctx.cons (uK k27 T1 _ (⟨6, ⟨#[]⟩, [⟨#[106, 115, 111, 110, 114, 112, 99]⟩, ⟨#[109, 101, 116, 104, 111, 100]⟩, ⟨#[112, 97, 114, 97, 109, 115]⟩], [(⟨4, ⟨#[50, 46, 48]⟩, [], []⟩ : S27), (⟨4, m, [], []⟩ : S27), Y]⟩ : S27)) hv (K2.out.below hb));clear K2 hb hv HV
  go_upto_region 11 with fail
  refine absW _ C ?_;clear C;intro w6 C;refine flowT (n := 27) tab7_11 rfl (Ctx _) (Rl [uEq (.bool true), uEq (.bool true), uEq (.agg #[.int .i64 (⟨6, ⟨#[]⟩, [⟨#[106, 115, 111, 110, 114, 112, 99]⟩, ⟨#[105, 100]⟩, ⟨#[114, 101, 115, 117, 108, 116]⟩], [(⟨4, ⟨#[50, 46, 48]⟩, [], []⟩ : S27), X, Y]⟩ : S27).f0, .string (⟨6, ⟨#[]⟩, [⟨#[106, 115, 111, 110, 114, 112, 99]⟩, ⟨#[105, 100]⟩, ⟨#[114, 101, 115, 117, 108, 116]⟩], [(⟨4, ⟨#[50, 46, 48]⟩, [], []⟩ : S27), X, Y]⟩ : S27).f1, .slice z2 (⟨6, ⟨#[]⟩, [⟨#[106, 115, 111, 110, 114, 112, 99]⟩, ⟨#[105, 100]⟩, ⟨#[114, 101, 115, 117, 108, 116]⟩], [(⟨4, ⟨#[50, 46, 48]⟩, [], []⟩ : S27), X, Y]⟩ : S27).f2.length zn2, .slice z3 (⟨6, ⟨#[]⟩, [⟨#[106, 115, 111, 110, 114, 112, 99]⟩, ⟨#[105, 100]⟩, ⟨#[114, 101, 115, 117, 108, 116]⟩], [(⟨4, ⟨#[50, 46, 48]⟩, [], []⟩ : S27), X, Y]⟩ : S27).f3.length zn3]), uKd k44 T1 (⟨6, ⟨#[]⟩, [⟨#[106, 115, 111, 110, 114, 112, 99]⟩, ⟨#[105, 100]⟩, ⟨#[114, 101, 115, 117, 108, 116]⟩], [(⟨4, ⟨#[50, 46, 48]⟩, [], []⟩ : S44), x, y]⟩ : S44), uEq (.agg #[.int .i64 x.f0, .string x.f1, .slice x2 x.f2.length xn2, .slice x3 x.f3.length xn3]), uEq (.agg #[.int .i64 y.f0, .string y.f1, .slice y2 y.f2.length yn2, .slice y3 y.f3.length yn3]), uKd k44 T1 (⟨6, ⟨#[]⟩, [⟨#[106, 115, 111, 110, 114, 112, 99]⟩, ⟨#[105, 100]⟩, ⟨#[114, 101, 115, 117, 108, 116]⟩], [(⟨4, ⟨#[50, 46, 48]⟩, [], []⟩ : S44), x, y]⟩ : S44), uEq (.bool true), uEq (.bool true), uEq (.bool true), uEq (.agg #[.int .i64 (⟨6, ⟨#[]⟩, [⟨#[106, 115, 111, 110, 114, 112, 99]⟩, ⟨#[105, 100]⟩, ⟨#[101, 114, 114, 111, 114]⟩], [(⟨4, ⟨#[50, 46, 48]⟩, [], []⟩ : S27), X, (⟨6, ⟨#[]⟩, [⟨#[99, 111, 100, 101]⟩, ⟨#[109, 101, 115, 115, 97, 103, 101]⟩], [(⟨3, numS n, [], []⟩ : S27), (⟨4, msgS n, [], []⟩ : S27)]⟩ : S27)]⟩ : S27).f0, .string (⟨6, ⟨#[]⟩, [⟨#[106, 115, 111, 110, 114, 112, 99]⟩, ⟨#[105, 100]⟩, ⟨#[101, 114, 114, 111, 114]⟩], [(⟨4, ⟨#[50, 46, 48]⟩, [], []⟩ : S27), X, (⟨6, ⟨#[]⟩, [⟨#[99, 111, 100, 101]⟩, ⟨#[109, 101, 115, 115, 97, 103, 101]⟩], [(⟨3, numS n, [], []⟩ : S27), (⟨4, msgS n, [], []⟩ : S27)]⟩ : S27)]⟩ : S27).f1, .slice q2 (⟨6, ⟨#[]⟩, [⟨#[106, 115, 111, 110, 114, 112, 99]⟩, ⟨#[105, 100]⟩, ⟨#[101, 114, 114, 111, 114]⟩], [(⟨4, ⟨#[50, 46, 48]⟩, [], []⟩ : S27), X, (⟨6, ⟨#[]⟩, [⟨#[99, 111, 100, 101]⟩, ⟨#[109, 101, 115, 115, 97, 103, 101]⟩], [(⟨3, numS n, [], []⟩ : S27), (⟨4, msgS n, [], []⟩ : S27)]⟩ : S27)]⟩ : S27).f2.length qn2, .slice q3 (⟨6, ⟨#[]⟩, [⟨#[106, 115, 111, 110, 114, 112, 99]⟩, ⟨#[105, 100]⟩, ⟨#[101, 114, 114, 111, 114]⟩], [(⟨4, ⟨#[50, 46, 48]⟩, [], []⟩ : S27), X, (⟨6, ⟨#[]⟩, [⟨#[99, 111, 100, 101]⟩, ⟨#[109, 101, 115, 115, 97, 103, 101]⟩], [(⟨3, numS n, [], []⟩ : S27), (⟨4, msgS n, [], []⟩ : S27)]⟩ : S27)]⟩ : S27).f3.length qn3]), uKd k44 T1 (⟨6, ⟨#[]⟩, [⟨#[106, 115, 111, 110, 114, 112, 99]⟩, ⟨#[105, 100]⟩, ⟨#[101, 114, 114, 111, 114]⟩], [(⟨4, ⟨#[50, 46, 48]⟩, [], []⟩ : S44), x, (⟨6, ⟨#[]⟩, [⟨#[99, 111, 100, 101]⟩, ⟨#[109, 101, 115, 115, 97, 103, 101]⟩], [(⟨3, numS n, [], []⟩ : S44), (⟨4, msgS n, [], []⟩ : S44)]⟩ : S44)]⟩ : S44), uEq (.int .i64 n), uEq (.agg #[.int .i64 x.f0, .string x.f1, .slice x2 x.f2.length xn2, .slice x3 x.f3.length xn3]), uEq (.agg #[.int .i64 n, .int .i64 x.f0, .string x.f1, .slice x2 x.f2.length xn2, .slice x3 x.f3.length xn3]), uKd k44 T1 (⟨6, ⟨#[]⟩, [⟨#[106, 115, 111, 110, 114, 112, 99]⟩, ⟨#[105, 100]⟩, ⟨#[101, 114, 114, 111, 114]⟩], [(⟨4, ⟨#[50, 46, 48]⟩, [], []⟩ : S44), x, (⟨6, ⟨#[]⟩, [⟨#[99, 111, 100, 101]⟩, ⟨#[109, 101, 115, 115, 97, 103, 101]⟩], [(⟨3, numS n, [], []⟩ : S44), (⟨4, msgS n, [], []⟩ : S44)]⟩ : S44)]⟩ : S44), uEq (.bool true), uEq (.bool true), uEq (.bool true), uEq (.agg #[.int .i64 (⟨6, ⟨#[]⟩, [⟨#[106, 115, 111, 110, 114, 112, 99]⟩, ⟨#[109, 101, 116, 104, 111, 100]⟩, ⟨#[112, 97, 114, 97, 109, 115]⟩], [(⟨4, ⟨#[50, 46, 48]⟩, [], []⟩ : S27), (⟨4, m, [], []⟩ : S27), Y]⟩ : S27).f0, .string (⟨6, ⟨#[]⟩, [⟨#[106, 115, 111, 110, 114, 112, 99]⟩, ⟨#[109, 101, 116, 104, 111, 100]⟩, ⟨#[112, 97, 114, 97, 109, 115]⟩], [(⟨4, ⟨#[50, 46, 48]⟩, [], []⟩ : S27), (⟨4, m, [], []⟩ : S27), Y]⟩ : S27).f1, .slice t2 (⟨6, ⟨#[]⟩, [⟨#[106, 115, 111, 110, 114, 112, 99]⟩, ⟨#[109, 101, 116, 104, 111, 100]⟩, ⟨#[112, 97, 114, 97, 109, 115]⟩], [(⟨4, ⟨#[50, 46, 48]⟩, [], []⟩ : S27), (⟨4, m, [], []⟩ : S27), Y]⟩ : S27).f2.length tn2, .slice t3 (⟨6, ⟨#[]⟩, [⟨#[106, 115, 111, 110, 114, 112, 99]⟩, ⟨#[109, 101, 116, 104, 111, 100]⟩, ⟨#[112, 97, 114, 97, 109, 115]⟩], [(⟨4, ⟨#[50, 46, 48]⟩, [], []⟩ : S27), (⟨4, m, [], []⟩ : S27), Y]⟩ : S27).f3.length tn3]), uKd k44 T1 (⟨6, ⟨#[]⟩, [⟨#[106, 115, 111, 110, 114, 112, 99]⟩, ⟨#[109, 101, 116, 104, 111, 100]⟩, ⟨#[112, 97, 114, 97, 109, 115]⟩], [(⟨4, ⟨#[50, 46, 48]⟩, [], []⟩ : S44), (⟨4, m, [], []⟩ : S44), y]⟩ : S44), uEq (.string m), uEq (.agg #[.int .i64 y.f0, .string y.f1, .slice y2 y.f2.length yn2, .slice y3 y.f3.length yn3]), uKd k44 T1 (⟨6, ⟨#[]⟩, [⟨#[106, 115, 111, 110, 114, 112, 99]⟩, ⟨#[109, 101, 116, 104, 111, 100]⟩, ⟨#[112, 97, 114, 97, 109, 115]⟩], [(⟨4, ⟨#[50, 46, 48]⟩, [], []⟩ : S44), (⟨4, m, [], []⟩ : S44), y]⟩ : S44), uEq (.bool true), uEq (.bool true), uEq (.bool true)]) rfl (by kernel_rfl) (fun _ _ h hb => h.below hb) (Rl.up _) C ⟨⟨⟨⟨⟨⟨⟨⟨⟨⟨⟨⟨⟨⟨⟨⟨⟨⟨⟨⟨⟨⟨⟨⟨⟨⟨⟨trivial, ?_⟩, ?_⟩, ?_⟩, ?_⟩, ?_⟩, ?_⟩, ?_⟩, ?_⟩, ?_⟩, ?_⟩, ?_⟩, ?_⟩, ?_⟩, ?_⟩, ?_⟩, ?_⟩, ?_⟩, ?_⟩, ?_⟩, ?_⟩, ?_⟩, ?_⟩, ?_⟩, ?_⟩, ?_⟩, ?_⟩, ?_⟩ ?_
  ·refine At.of _ rfl (fun e a w hC hd hb K hK => ?_)
   refine goes_ Tryd.func14 (by kernel_rfl) rfl #[] (by rfl) rfl rfl (by first | (simp [Act.eval]; done) | (simp [Act.eval]; rfl)) ?_;refine ((L6q_called.calls true w rfl hC.2.2.2.2.2.2.2.2.2.2.2.2.1).mono (fun _ _ h => show EPost (.bool true) w _ _ from ⟨_, h.1, rfl, h.2⟩)).mono ?_;rintro en w' ⟨v, rfl, hv, hb'⟩;exact ⟨v, rfl, hK.out v w' hb' hv⟩
  ·refine At.of _ rfl (fun e a w hC hd hb K hK => ?_)
   have q0 := (hd 0 (by decide)).2 66 rfl;rw [show e 0 = _ from (hd 0 (by decide)).1] at q0;refine value_ (w1 := w) (v := .bool true) (by rfl) rfl ?_ (hK.out _ _ (Below.refl _ _) rfl);clear hC hd hb hK
   first | (go_simp; done) | (go_simp; rfl)
  ·refine At.of _ rfl (fun e a w hC hd hb K hK => ?_)
   have g1 := (hd 1 (by decide)).2 67 rfl;rw [show e 1 = _ from (hd 1 (by decide)).1] at g1;have b13 : a.tmps[13]? = some (.pointer (some ⟨g, 0, none⟩)) := hb 13 (by decide);have ca0 : w.cell? ⟨g, 0, none⟩ = some (.int .i64 (⟨6, ⟨#[]⟩, [⟨#[106, 115, 111, 110, 114, 112, 99]⟩, ⟨#[105, 100]⟩, ⟨#[114, 101, 115, 117, 108, 116]⟩], [(⟨4, ⟨#[50, 46, 48]⟩, [], []⟩ : S27), X, Y]⟩ : S27).f0) := Ctx.blk hC.2.2.2.2.1 0 rfl;have ca1 : w.cell? ⟨g, 1, none⟩ = some (.string (⟨6, ⟨#[]⟩, [⟨#[106, 115, 111, 110, 114, 112, 99]⟩, ⟨#[105, 100]⟩, ⟨#[114, 101, 115, 117, 108, 116]⟩], [(⟨4, ⟨#[50, 46, 48]⟩, [], []⟩ : S27), X, Y]⟩ : S27).f1) := Ctx.blk hC.2.2.2.2.1 1 rfl;have ca2 : w.cell? ⟨g, 2, none⟩ = some (.slice z2 (⟨6, ⟨#[]⟩, [⟨#[106, 115, 111, 110, 114, 112, 99]⟩, ⟨#[105, 100]⟩, ⟨#[114, 101, 115, 117, 108, 116]⟩], [(⟨4, ⟨#[50, 46, 48]⟩, [], []⟩ : S27), X, Y]⟩ : S27).f2.length zn2) := Ctx.blk hC.2.2.2.2.1 2 rfl;have ca3 : w.cell? ⟨g, 3, none⟩ = some (.slice z3 (⟨6, ⟨#[]⟩, [⟨#[106, 115, 111, 110, 114, 112, 99]⟩, ⟨#[105, 100]⟩, ⟨#[114, 101, 115, 117, 108, 116]⟩], [(⟨4, ⟨#[50, 46, 48]⟩, [], []⟩ : S27), X, Y]⟩ : S27).f3.length zn3) := Ctx.blk hC.2.2.2.2.1 3 rfl;refine value_ (w1 := w) (v := .agg #[.int .i64 (⟨6, ⟨#[]⟩, [⟨#[106, 115, 111, 110, 114, 112, 99]⟩, ⟨#[105, 100]⟩, ⟨#[114, 101, 115, 117, 108, 116]⟩], [(⟨4, ⟨#[50, 46, 48]⟩, [], []⟩ : S27), X, Y]⟩ : S27).f0, .string (⟨6, ⟨#[]⟩, [⟨#[106, 115, 111, 110, 114, 112, 99]⟩, ⟨#[105, 100]⟩, ⟨#[114, 101, 115, 117, 108, 116]⟩], [(⟨4, ⟨#[50, 46, 48]⟩, [], []⟩ : S27), X, Y]⟩ : S27).f1, .slice z2 (⟨6, ⟨#[]⟩, [⟨#[106, 115, 111, 110, 114, 112, 99]⟩, ⟨#[105, 100]⟩, ⟨#[114, 101, 115, 117, 108, 116]⟩], [(⟨4, ⟨#[50, 46, 48]⟩, [], []⟩ : S27), X, Y]⟩ : S27).f2.length zn2, .slice z3 (⟨6, ⟨#[]⟩, [⟨#[106, 115, 111, 110, 114, 112, 99]⟩, ⟨#[105, 100]⟩, ⟨#[114, 101, 115, 117, 108, 116]⟩], [(⟨4, ⟨#[50, 46, 48]⟩, [], []⟩ : S27), X, Y]⟩ : S27).f3.length zn3]) (by simp [Region.wanted, yielded, g1]) rfl ?_ (hK.out _ _ (Below.refl _ _) rfl);clear hC hd hb hK
   first | (go_simp; done) | (go_simp; rfl)
  ·refine At.of _ rfl (fun e a w hC hd hb K hK => ?_)
   have g1 := (hd 1 (by decide)).2 67 rfl;rw [show e 1 = _ from (hd 1 (by decide)).1] at g1;have q2 := (hd 2 (by decide)).2 68 rfl;rw [show e 2 = _ from (hd 2 (by decide)).1] at q2;refine goes_ Tryd.func18 (by kernel_rfl) rfl #[.agg #[.int .i64 (⟨6, ⟨#[]⟩, [⟨#[106, 115, 111, 110, 114, 112, 99]⟩, ⟨#[105, 100]⟩, ⟨#[114, 101, 115, 117, 108, 116]⟩], [(⟨4, ⟨#[50, 46, 48]⟩, [], []⟩ : S27), X, Y]⟩ : S27).f0, .string (⟨6, ⟨#[]⟩, [⟨#[106, 115, 111, 110, 114, 112, 99]⟩, ⟨#[105, 100]⟩, ⟨#[114, 101, 115, 117, 108, 116]⟩], [(⟨4, ⟨#[50, 46, 48]⟩, [], []⟩ : S27), X, Y]⟩ : S27).f1, .slice z2 (⟨6, ⟨#[]⟩, [⟨#[106, 115, 111, 110, 114, 112, 99]⟩, ⟨#[105, 100]⟩, ⟨#[114, 101, 115, 117, 108, 116]⟩], [(⟨4, ⟨#[50, 46, 48]⟩, [], []⟩ : S27), X, Y]⟩ : S27).f2.length zn2, .slice z3 (⟨6, ⟨#[]⟩, [⟨#[106, 115, 111, 110, 114, 112, 99]⟩, ⟨#[105, 100]⟩, ⟨#[114, 101, 115, 117, 108, 116]⟩], [(⟨4, ⟨#[50, 46, 48]⟩, [], []⟩ : S27), X, Y]⟩ : S27).f3.length zn3]] (by simp [Region.wanted, yielded, g1]) rfl rfl (by first | (simp [Act.eval, q2]; done) | (simp [Act.eval, q2]; rfl)) ?_;refine (ofJ k _ (⟨6, ⟨#[]⟩, [⟨#[106, 115, 111, 110, 114, 112, 99]⟩, ⟨#[105, 100]⟩, ⟨#[114, 101, 115, 117, 108, 116]⟩], [(⟨4, ⟨#[50, 46, 48]⟩, [], []⟩ : S27), X, Y]⟩ : S27) (⟨6, ⟨#[]⟩, [⟨#[106, 115, 111, 110, 114, 112, 99]⟩, ⟨#[105, 100]⟩, ⟨#[114, 101, 115, 117, 108, 116]⟩], [(⟨4, ⟨#[50, 46, 48]⟩, [], []⟩ : S44), x, y]⟩ : S44) w (fun _ _ => trivial) hC.2.2.2.2.2.1 FA.out).mono ?_;rintro en w' ⟨v, rfl, hv, hb'⟩;exact ⟨v, rfl, hK.out v w' hb' hv⟩
  ·refine At.of _ rfl (fun e a w hC hd hb K hK => ?_)
   have g1 := (hd 1 (by decide)).2 67 rfl;rw [show e 1 = _ from (hd 1 (by decide)).1] at g1;have b7 : a.tmps[7]? = some (.pointer (some ⟨W1.heap.size, 0, none⟩)) := hb 7 (by decide);have cx0 : w.cell? ⟨W1.heap.size, 0, none⟩ = some (.int .i64 x.f0) := Ctx.blk hC.2.2.2.2.2.2.2.2.1 0 rfl;have cx1 : w.cell? ⟨W1.heap.size, 1, none⟩ = some (.string x.f1) := Ctx.blk hC.2.2.2.2.2.2.2.2.1 1 rfl;have cx2 : w.cell? ⟨W1.heap.size, 2, none⟩ = some (.slice x2 x.f2.length xn2) := Ctx.blk hC.2.2.2.2.2.2.2.2.1 2 rfl;have cx3 : w.cell? ⟨W1.heap.size, 3, none⟩ = some (.slice x3 x.f3.length xn3) := Ctx.blk hC.2.2.2.2.2.2.2.2.1 3 rfl;refine value_ (w1 := w) (v := .agg #[.int .i64 x.f0, .string x.f1, .slice x2 x.f2.length xn2, .slice x3 x.f3.length xn3]) (by simp [Region.wanted, yielded, g1]) rfl ?_ (hK.out _ _ (Below.refl _ _) rfl);clear hC hd hb hK
   first | (go_simp; done) | (go_simp; rfl)
  ·refine At.of _ rfl (fun e a w hC hd hb K hK => ?_)
   have g1 := (hd 1 (by decide)).2 67 rfl;rw [show e 1 = _ from (hd 1 (by decide)).1] at g1;have b10 : a.tmps[10]? = some (.pointer (some ⟨W2.heap.size, 0, none⟩)) := hb 10 (by decide);have cy0 : w.cell? ⟨W2.heap.size, 0, none⟩ = some (.int .i64 y.f0) := Ctx.blk hC.2.2.2.2.2.2.1 0 rfl;have cy1 : w.cell? ⟨W2.heap.size, 1, none⟩ = some (.string y.f1) := Ctx.blk hC.2.2.2.2.2.2.1 1 rfl;have cy2 : w.cell? ⟨W2.heap.size, 2, none⟩ = some (.slice y2 y.f2.length yn2) := Ctx.blk hC.2.2.2.2.2.2.1 2 rfl;have cy3 : w.cell? ⟨W2.heap.size, 3, none⟩ = some (.slice y3 y.f3.length yn3) := Ctx.blk hC.2.2.2.2.2.2.1 3 rfl;refine value_ (w1 := w) (v := .agg #[.int .i64 y.f0, .string y.f1, .slice y2 y.f2.length yn2, .slice y3 y.f3.length yn3]) (by simp [Region.wanted, yielded, g1]) rfl ?_ (hK.out _ _ (Below.refl _ _) rfl);clear hC hd hb hK
   first | (go_simp; done) | (go_simp; rfl)
  ·refine At.of _ rfl (fun e a w hC hd hb K hK => ?_)
   have g1 := (hd 1 (by decide)).2 67 rfl;rw [show e 1 = _ from (hd 1 (by decide)).1] at g1;have q4 := (hd 4 (by decide)).2 70 rfl;rw [show e 4 = _ from (hd 4 (by decide)).1] at q4;have q5 := (hd 5 (by decide)).2 71 rfl;rw [show e 5 = _ from (hd 5 (by decide)).1] at q5;refine goes_ Tryd.func34 (by kernel_rfl) rfl #[.agg #[.int .i64 x.f0, .string x.f1, .slice x2 x.f2.length xn2, .slice x3 x.f3.length xn3], .string ⟨#[114, 101, 115, 117, 108, 116]⟩, .agg #[.int .i64 y.f0, .string y.f1, .slice y2 y.f2.length yn2, .slice y3 y.f3.length yn3]] (by simp [Region.wanted, yielded, g1]) rfl rfl (by first | (simp [Act.eval, q4, q5]; done) | (simp [Act.eval, q4, q5]; rfl)) ?_;refine (reply44_calls T1 ⟨#[114, 101, 115, 117, 108, 116]⟩ _ _ x y w (fun _ _ => trivial) hC.2.2.2.2.2.2.2.2.2.1 hC.2.2.2.2.2.2.2.1).mono ?_;rintro en w' ⟨v, rfl, hv, hb'⟩;exact ⟨v, rfl, hK.out v w' hb' hv⟩
  ·refine At.of _ rfl (fun e a w hC hd hb K hK => ?_)
   have g1 := (hd 1 (by decide)).2 67 rfl;rw [show e 1 = _ from (hd 1 (by decide)).1] at g1;have q3 := (hd 3 (by decide)).2 69 rfl;have q6 := (hd 6 (by decide)).2 72 rfl;refine goes_ Tryd.func17 (by kernel_rfl) rfl #[e 3, e 6] (by simp [Region.wanted, yielded, g1]) rfl rfl (by first | (simp [Act.eval, q3, q6]; done) | (simp [Act.eval, q3, q6]; rfl)) ?_;refine (equal44 (show Kv k44 T1 w (e 3) (⟨6, ⟨#[]⟩, [⟨#[106, 115, 111, 110, 114, 112, 99]⟩, ⟨#[105, 100]⟩, ⟨#[114, 101, 115, 117, 108, 116]⟩], [(⟨4, ⟨#[50, 46, 48]⟩, [], []⟩ : S44), x, y]⟩ : S44) from (hd 3 (by decide)).1) (show Kv k44 T1 w (e 6) (⟨6, ⟨#[]⟩, [⟨#[106, 115, 111, 110, 114, 112, 99]⟩, ⟨#[105, 100]⟩, ⟨#[114, 101, 115, 117, 108, 116]⟩], [(⟨4, ⟨#[50, 46, 48]⟩, [], []⟩ : S44), x, y]⟩ : S44) from (hd 6 (by decide)).1)).mono ?_;rintro en w' ⟨v, rfl, hv, hb'⟩;exact ⟨v, rfl, hK.out v w' hb' hv⟩
  ·refine At.of _ rfl (fun e a w hC hd hb K hK => ?_)
   have q1 := (hd 1 (by decide)).2 67 rfl;rw [show e 1 = _ from (hd 1 (by decide)).1] at q1;have q7 := (hd 7 (by decide)).2 73 rfl;rw [show e 7 = _ from (hd 7 (by decide)).1] at q7;refine value_ (w1 := w) (v := .bool true) (by rfl) rfl ?_ (hK.out _ _ (Below.refl _ _) rfl);clear hC hd hb hK
   first | (go_simp; done) | (go_simp; rfl)
  ·refine At.of _ rfl (fun e a w hC hd hb K hK => ?_)
   have q8 := (hd 8 (by decide)).2 74 rfl;rw [show e 8 = _ from (hd 8 (by decide)).1] at q8;refine value_ (w1 := w) (v := .bool true) (by rfl) rfl ?_ (hK.out _ _ (Below.refl _ _) rfl);clear hC hd hb hK
   first | (go_simp; done) | (go_simp; rfl)
  ·refine At.of _ rfl (fun e a w hC hd hb K hK => ?_)
   have g9 := (hd 9 (by decide)).2 75 rfl;rw [show e 9 = _ from (hd 9 (by decide)).1] at g9;have b14 : a.tmps[14]? = some (.pointer (some ⟨W5.heap.size, 0, none⟩)) := hb 14 (by decide);have cb0 : w.cell? ⟨W5.heap.size, 0, none⟩ = some (.int .i64 (⟨6, ⟨#[]⟩, [⟨#[106, 115, 111, 110, 114, 112, 99]⟩, ⟨#[105, 100]⟩, ⟨#[101, 114, 114, 111, 114]⟩], [(⟨4, ⟨#[50, 46, 48]⟩, [], []⟩ : S27), X, (⟨6, ⟨#[]⟩, [⟨#[99, 111, 100, 101]⟩, ⟨#[109, 101, 115, 115, 97, 103, 101]⟩], [(⟨3, numS n, [], []⟩ : S27), (⟨4, msgS n, [], []⟩ : S27)]⟩ : S27)]⟩ : S27).f0) := Ctx.blk hC.2.2.1 0 rfl;have cb1 : w.cell? ⟨W5.heap.size, 1, none⟩ = some (.string (⟨6, ⟨#[]⟩, [⟨#[106, 115, 111, 110, 114, 112, 99]⟩, ⟨#[105, 100]⟩, ⟨#[101, 114, 114, 111, 114]⟩], [(⟨4, ⟨#[50, 46, 48]⟩, [], []⟩ : S27), X, (⟨6, ⟨#[]⟩, [⟨#[99, 111, 100, 101]⟩, ⟨#[109, 101, 115, 115, 97, 103, 101]⟩], [(⟨3, numS n, [], []⟩ : S27), (⟨4, msgS n, [], []⟩ : S27)]⟩ : S27)]⟩ : S27).f1) := Ctx.blk hC.2.2.1 1 rfl;have cb2 : w.cell? ⟨W5.heap.size, 2, none⟩ = some (.slice q2 (⟨6, ⟨#[]⟩, [⟨#[106, 115, 111, 110, 114, 112, 99]⟩, ⟨#[105, 100]⟩, ⟨#[101, 114, 114, 111, 114]⟩], [(⟨4, ⟨#[50, 46, 48]⟩, [], []⟩ : S27), X, (⟨6, ⟨#[]⟩, [⟨#[99, 111, 100, 101]⟩, ⟨#[109, 101, 115, 115, 97, 103, 101]⟩], [(⟨3, numS n, [], []⟩ : S27), (⟨4, msgS n, [], []⟩ : S27)]⟩ : S27)]⟩ : S27).f2.length qn2) := Ctx.blk hC.2.2.1 2 rfl;have cb3 : w.cell? ⟨W5.heap.size, 3, none⟩ = some (.slice q3 (⟨6, ⟨#[]⟩, [⟨#[106, 115, 111, 110, 114, 112, 99]⟩, ⟨#[105, 100]⟩, ⟨#[101, 114, 114, 111, 114]⟩], [(⟨4, ⟨#[50, 46, 48]⟩, [], []⟩ : S27), X, (⟨6, ⟨#[]⟩, [⟨#[99, 111, 100, 101]⟩, ⟨#[109, 101, 115, 115, 97, 103, 101]⟩], [(⟨3, numS n, [], []⟩ : S27), (⟨4, msgS n, [], []⟩ : S27)]⟩ : S27)]⟩ : S27).f3.length qn3) := Ctx.blk hC.2.2.1 3 rfl;refine value_ (w1 := w) (v := .agg #[.int .i64 (⟨6, ⟨#[]⟩, [⟨#[106, 115, 111, 110, 114, 112, 99]⟩, ⟨#[105, 100]⟩, ⟨#[101, 114, 114, 111, 114]⟩], [(⟨4, ⟨#[50, 46, 48]⟩, [], []⟩ : S27), X, (⟨6, ⟨#[]⟩, [⟨#[99, 111, 100, 101]⟩, ⟨#[109, 101, 115, 115, 97, 103, 101]⟩], [(⟨3, numS n, [], []⟩ : S27), (⟨4, msgS n, [], []⟩ : S27)]⟩ : S27)]⟩ : S27).f0, .string (⟨6, ⟨#[]⟩, [⟨#[106, 115, 111, 110, 114, 112, 99]⟩, ⟨#[105, 100]⟩, ⟨#[101, 114, 114, 111, 114]⟩], [(⟨4, ⟨#[50, 46, 48]⟩, [], []⟩ : S27), X, (⟨6, ⟨#[]⟩, [⟨#[99, 111, 100, 101]⟩, ⟨#[109, 101, 115, 115, 97, 103, 101]⟩], [(⟨3, numS n, [], []⟩ : S27), (⟨4, msgS n, [], []⟩ : S27)]⟩ : S27)]⟩ : S27).f1, .slice q2 (⟨6, ⟨#[]⟩, [⟨#[106, 115, 111, 110, 114, 112, 99]⟩, ⟨#[105, 100]⟩, ⟨#[101, 114, 114, 111, 114]⟩], [(⟨4, ⟨#[50, 46, 48]⟩, [], []⟩ : S27), X, (⟨6, ⟨#[]⟩, [⟨#[99, 111, 100, 101]⟩, ⟨#[109, 101, 115, 115, 97, 103, 101]⟩], [(⟨3, numS n, [], []⟩ : S27), (⟨4, msgS n, [], []⟩ : S27)]⟩ : S27)]⟩ : S27).f2.length qn2, .slice q3 (⟨6, ⟨#[]⟩, [⟨#[106, 115, 111, 110, 114, 112, 99]⟩, ⟨#[105, 100]⟩, ⟨#[101, 114, 114, 111, 114]⟩], [(⟨4, ⟨#[50, 46, 48]⟩, [], []⟩ : S27), X, (⟨6, ⟨#[]⟩, [⟨#[99, 111, 100, 101]⟩, ⟨#[109, 101, 115, 115, 97, 103, 101]⟩], [(⟨3, numS n, [], []⟩ : S27), (⟨4, msgS n, [], []⟩ : S27)]⟩ : S27)]⟩ : S27).f3.length qn3]) (by simp [Region.wanted, yielded, g9]) rfl ?_ (hK.out _ _ (Below.refl _ _) rfl)
   clear hC hd hb hK
   first | (go_simp; done) | (go_simp; rfl)
  ·refine At.of _ rfl (fun e a w hC hd hb K hK => ?_)
   have g9 := (hd 9 (by decide)).2 75 rfl;rw [show e 9 = _ from (hd 9 (by decide)).1] at g9;have q10 := (hd 10 (by decide)).2 76 rfl;rw [show e 10 = _ from (hd 10 (by decide)).1] at q10;refine goes_ Tryd.func18 (by kernel_rfl) rfl #[.agg #[.int .i64 (⟨6, ⟨#[]⟩, [⟨#[106, 115, 111, 110, 114, 112, 99]⟩, ⟨#[105, 100]⟩, ⟨#[101, 114, 114, 111, 114]⟩], [(⟨4, ⟨#[50, 46, 48]⟩, [], []⟩ : S27), X, (⟨6, ⟨#[]⟩, [⟨#[99, 111, 100, 101]⟩, ⟨#[109, 101, 115, 115, 97, 103, 101]⟩], [(⟨3, numS n, [], []⟩ : S27), (⟨4, msgS n, [], []⟩ : S27)]⟩ : S27)]⟩ : S27).f0, .string (⟨6, ⟨#[]⟩, [⟨#[106, 115, 111, 110, 114, 112, 99]⟩, ⟨#[105, 100]⟩, ⟨#[101, 114, 114, 111, 114]⟩], [(⟨4, ⟨#[50, 46, 48]⟩, [], []⟩ : S27), X, (⟨6, ⟨#[]⟩, [⟨#[99, 111, 100, 101]⟩, ⟨#[109, 101, 115, 115, 97, 103, 101]⟩], [(⟨3, numS n, [], []⟩ : S27), (⟨4, msgS n, [], []⟩ : S27)]⟩ : S27)]⟩ : S27).f1, .slice q2 (⟨6, ⟨#[]⟩, [⟨#[106, 115, 111, 110, 114, 112, 99]⟩, ⟨#[105, 100]⟩, ⟨#[101, 114, 114, 111, 114]⟩], [(⟨4, ⟨#[50, 46, 48]⟩, [], []⟩ : S27), X, (⟨6, ⟨#[]⟩, [⟨#[99, 111, 100, 101]⟩, ⟨#[109, 101, 115, 115, 97, 103, 101]⟩], [(⟨3, numS n, [], []⟩ : S27), (⟨4, msgS n, [], []⟩ : S27)]⟩ : S27)]⟩ : S27).f2.length qn2, .slice q3 (⟨6, ⟨#[]⟩, [⟨#[106, 115, 111, 110, 114, 112, 99]⟩, ⟨#[105, 100]⟩, ⟨#[101, 114, 114, 111, 114]⟩], [(⟨4, ⟨#[50, 46, 48]⟩, [], []⟩ : S27), X, (⟨6, ⟨#[]⟩, [⟨#[99, 111, 100, 101]⟩, ⟨#[109, 101, 115, 115, 97, 103, 101]⟩], [(⟨3, numS n, [], []⟩ : S27), (⟨4, msgS n, [], []⟩ : S27)]⟩ : S27)]⟩ : S27).f3.length qn3]] (by simp [Region.wanted, yielded, g9]) rfl rfl (by first | (simp [Act.eval, q10]; done) | (simp [Act.eval, q10]; rfl)) ?_;refine (ofJ k _ (⟨6, ⟨#[]⟩, [⟨#[106, 115, 111, 110, 114, 112, 99]⟩, ⟨#[105, 100]⟩, ⟨#[101, 114, 114, 111, 114]⟩], [(⟨4, ⟨#[50, 46, 48]⟩, [], []⟩ : S27), X, (⟨6, ⟨#[]⟩, [⟨#[99, 111, 100, 101]⟩, ⟨#[109, 101, 115, 115, 97, 103, 101]⟩], [(⟨3, numS n, [], []⟩ : S27), (⟨4, msgS n, [], []⟩ : S27)]⟩ : S27)]⟩ : S27) (⟨6, ⟨#[]⟩, [⟨#[106, 115, 111, 110, 114, 112, 99]⟩, ⟨#[105, 100]⟩, ⟨#[101, 114, 114, 111, 114]⟩], [(⟨4, ⟨#[50, 46, 48]⟩, [], []⟩ : S44), x, (⟨6, ⟨#[]⟩, [⟨#[99, 111, 100, 101]⟩, ⟨#[109, 101, 115, 115, 97, 103, 101]⟩], [(⟨3, numS n, [], []⟩ : S44), (⟨4, msgS n, [], []⟩ : S44)]⟩ : S44)]⟩ : S44) w (fun _ _ => trivial) hC.2.2.2.1 FB.out).mono ?_;rintro en w' ⟨v, rfl, hv, hb'⟩;exact ⟨v, rfl, hK.out v w' hb' hv⟩
  ·refine At.of _ rfl (fun e a w hC hd hb K hK => ?_)
   have g9 := (hd 9 (by decide)).2 75 rfl;rw [show e 9 = _ from (hd 9 (by decide)).1] at g9;have b6 : a.tmps[6]? = some (.int .i64 n) := hb 6 (by decide);refine value_ (w1 := w) (v := .int .i64 n) (by simp [Region.wanted, yielded, g9]) rfl ?_ (hK.out _ _ (Below.refl _ _) rfl);clear hC hd hb hK
   first | (go_simp; done) | (go_simp; rfl)
  ·refine At.of _ rfl (fun e a w hC hd hb K hK => ?_)
   have g9 := (hd 9 (by decide)).2 75 rfl;rw [show e 9 = _ from (hd 9 (by decide)).1] at g9;have b7 : a.tmps[7]? = some (.pointer (some ⟨W1.heap.size, 0, none⟩)) := hb 7 (by decide);have cx0 : w.cell? ⟨W1.heap.size, 0, none⟩ = some (.int .i64 x.f0) := Ctx.blk hC.2.2.2.2.2.2.2.2.1 0 rfl;have cx1 : w.cell? ⟨W1.heap.size, 1, none⟩ = some (.string x.f1) := Ctx.blk hC.2.2.2.2.2.2.2.2.1 1 rfl;have cx2 : w.cell? ⟨W1.heap.size, 2, none⟩ = some (.slice x2 x.f2.length xn2) := Ctx.blk hC.2.2.2.2.2.2.2.2.1 2 rfl;have cx3 : w.cell? ⟨W1.heap.size, 3, none⟩ = some (.slice x3 x.f3.length xn3) := Ctx.blk hC.2.2.2.2.2.2.2.2.1 3 rfl;refine value_ (w1 := w) (v := .agg #[.int .i64 x.f0, .string x.f1, .slice x2 x.f2.length xn2, .slice x3 x.f3.length xn3]) (by simp [Region.wanted, yielded, g9]) rfl ?_ (hK.out _ _ (Below.refl _ _) rfl);clear hC hd hb hK
   first | (go_simp; done) | (go_simp; rfl)
  ·refine At.of _ rfl (fun e a w hC hd hb K hK => ?_)
   have g9 := (hd 9 (by decide)).2 75 rfl;rw [show e 9 = _ from (hd 9 (by decide)).1] at g9;have q12 := (hd 12 (by decide)).2 78 rfl;rw [show e 12 = _ from (hd 12 (by decide)).1] at q12;have q13 := (hd 13 (by decide)).2 79 rfl;rw [show e 13 = _ from (hd 13 (by decide)).1] at q13;refine value_ (w1 := w) (v := .agg #[.int .i64 n, .int .i64 x.f0, .string x.f1, .slice x2 x.f2.length xn2, .slice x3 x.f3.length xn3]) (by simp [Region.wanted, yielded, g9]) rfl ?_ (hK.out _ _ (Below.refl _ _) rfl);clear hC hd hb hK
   first | (go_simp; done) | (go_simp; rfl)
  ·refine At.of _ rfl (fun e a w hC hd hb K hK => ?_)
   have g9 := (hd 9 (by decide)).2 75 rfl;rw [show e 9 = _ from (hd 9 (by decide)).1] at g9;have q14 := (hd 14 (by decide)).2 80 rfl;rw [show e 14 = _ from (hd 14 (by decide)).1] at q14;refine goes_ Tryd.func35 (by kernel_rfl) rfl #[.agg #[.int .i64 n, .int .i64 x.f0, .string x.f1, .slice x2 x.f2.length xn2, .slice x3 x.f3.length xn3]] (by simp [Region.wanted, yielded, g9]) rfl rfl (by first | (simp [Act.eval, q14]; done) | (simp [Act.eval, q14]; rfl)) ?_;refine (error44_calls T1 n _ _ _ _ x w (fun _ _ => trivial) hn hC.2.2.2.2.2.2.2.2.2.1).mono ?_;rintro en w' ⟨v, rfl, hv, hb'⟩;exact ⟨v, rfl, hK.out v w' hb' hv⟩
  ·refine At.of _ rfl (fun e a w hC hd hb K hK => ?_)
   have g9 := (hd 9 (by decide)).2 75 rfl;rw [show e 9 = _ from (hd 9 (by decide)).1] at g9;have q11 := (hd 11 (by decide)).2 77 rfl;have q15 := (hd 15 (by decide)).2 81 rfl;refine goes_ Tryd.func17 (by kernel_rfl) rfl #[e 11, e 15] (by simp [Region.wanted, yielded, g9]) rfl rfl (by first | (simp [Act.eval, q11, q15]; done) | (simp [Act.eval, q11, q15]; rfl)) ?_;refine (equal44 (show Kv k44 T1 w (e 11) (⟨6, ⟨#[]⟩, [⟨#[106, 115, 111, 110, 114, 112, 99]⟩, ⟨#[105, 100]⟩, ⟨#[101, 114, 114, 111, 114]⟩], [(⟨4, ⟨#[50, 46, 48]⟩, [], []⟩ : S44), x, (⟨6, ⟨#[]⟩, [⟨#[99, 111, 100, 101]⟩, ⟨#[109, 101, 115, 115, 97, 103, 101]⟩], [(⟨3, numS n, [], []⟩ : S44), (⟨4, msgS n, [], []⟩ : S44)]⟩ : S44)]⟩ : S44) from (hd 11 (by decide)).1) (show Kv k44 T1 w (e 15) (⟨6, ⟨#[]⟩, [⟨#[106, 115, 111, 110, 114, 112, 99]⟩, ⟨#[105, 100]⟩, ⟨#[101, 114, 114, 111, 114]⟩], [(⟨4, ⟨#[50, 46, 48]⟩, [], []⟩ : S44), x, (⟨6, ⟨#[]⟩, [⟨#[99, 111, 100, 101]⟩, ⟨#[109, 101, 115, 115, 97, 103, 101]⟩], [(⟨3, numS n, [], []⟩ : S44), (⟨4, msgS n, [], []⟩ : S44)]⟩ : S44)]⟩ : S44) from (hd 15 (by decide)).1)).mono ?_;rintro en w' ⟨v, rfl, hv, hb'⟩;exact ⟨v, rfl, hK.out v w' hb' hv⟩
  ·refine At.of _ rfl (fun e a w hC hd hb K hK => ?_)
   have q9 := (hd 9 (by decide)).2 75 rfl;rw [show e 9 = _ from (hd 9 (by decide)).1] at q9;have q16 := (hd 16 (by decide)).2 82 rfl;rw [show e 16 = _ from (hd 16 (by decide)).1] at q16;refine value_ (w1 := w) (v := .bool true) (by rfl) rfl ?_ (hK.out _ _ (Below.refl _ _) rfl);clear hC hd hb hK
   first | (go_simp; done) | (go_simp; rfl)
  ·refine At.of _ rfl (fun e a w hC hd hb K hK => ?_)
   have q17 := (hd 17 (by decide)).2 83 rfl;rw [show e 17 = _ from (hd 17 (by decide)).1] at q17;refine value_ (w1 := w) (v := .bool true) (by rfl) rfl ?_ (hK.out _ _ (Below.refl _ _) rfl);clear hC hd hb hK
   first | (go_simp; done) | (go_simp; rfl)
  ·refine At.of _ rfl (fun e a w hC hd hb K hK => ?_)
   have g18 := (hd 18 (by decide)).2 84 rfl;rw [show e 18 = _ from (hd 18 (by decide)).1] at g18;have b15 : a.tmps[15]? = some (.pointer (some ⟨W7.heap.size, 0, none⟩)) := hb 15 (by decide);have cc0 : w.cell? ⟨W7.heap.size, 0, none⟩ = some (.int .i64 (⟨6, ⟨#[]⟩, [⟨#[106, 115, 111, 110, 114, 112, 99]⟩, ⟨#[109, 101, 116, 104, 111, 100]⟩, ⟨#[112, 97, 114, 97, 109, 115]⟩], [(⟨4, ⟨#[50, 46, 48]⟩, [], []⟩ : S27), (⟨4, m, [], []⟩ : S27), Y]⟩ : S27).f0) := Ctx.blk hC.1 0 rfl;have cc1 : w.cell? ⟨W7.heap.size, 1, none⟩ = some (.string (⟨6, ⟨#[]⟩, [⟨#[106, 115, 111, 110, 114, 112, 99]⟩, ⟨#[109, 101, 116, 104, 111, 100]⟩, ⟨#[112, 97, 114, 97, 109, 115]⟩], [(⟨4, ⟨#[50, 46, 48]⟩, [], []⟩ : S27), (⟨4, m, [], []⟩ : S27), Y]⟩ : S27).f1) := Ctx.blk hC.1 1 rfl;have cc2 : w.cell? ⟨W7.heap.size, 2, none⟩ = some (.slice t2 (⟨6, ⟨#[]⟩, [⟨#[106, 115, 111, 110, 114, 112, 99]⟩, ⟨#[109, 101, 116, 104, 111, 100]⟩, ⟨#[112, 97, 114, 97, 109, 115]⟩], [(⟨4, ⟨#[50, 46, 48]⟩, [], []⟩ : S27), (⟨4, m, [], []⟩ : S27), Y]⟩ : S27).f2.length tn2) := Ctx.blk hC.1 2 rfl;have cc3 : w.cell? ⟨W7.heap.size, 3, none⟩ = some (.slice t3 (⟨6, ⟨#[]⟩, [⟨#[106, 115, 111, 110, 114, 112, 99]⟩, ⟨#[109, 101, 116, 104, 111, 100]⟩, ⟨#[112, 97, 114, 97, 109, 115]⟩], [(⟨4, ⟨#[50, 46, 48]⟩, [], []⟩ : S27), (⟨4, m, [], []⟩ : S27), Y]⟩ : S27).f3.length tn3) := Ctx.blk hC.1 3 rfl;refine value_ (w1 := w) (v := .agg #[.int .i64 (⟨6, ⟨#[]⟩, [⟨#[106, 115, 111, 110, 114, 112, 99]⟩, ⟨#[109, 101, 116, 104, 111, 100]⟩, ⟨#[112, 97, 114, 97, 109, 115]⟩], [(⟨4, ⟨#[50, 46, 48]⟩, [], []⟩ : S27), (⟨4, m, [], []⟩ : S27), Y]⟩ : S27).f0, .string (⟨6, ⟨#[]⟩, [⟨#[106, 115, 111, 110, 114, 112, 99]⟩, ⟨#[109, 101, 116, 104, 111, 100]⟩, ⟨#[112, 97, 114, 97, 109, 115]⟩], [(⟨4, ⟨#[50, 46, 48]⟩, [], []⟩ : S27), (⟨4, m, [], []⟩ : S27), Y]⟩ : S27).f1, .slice t2 (⟨6, ⟨#[]⟩, [⟨#[106, 115, 111, 110, 114, 112, 99]⟩, ⟨#[109, 101, 116, 104, 111, 100]⟩, ⟨#[112, 97, 114, 97, 109, 115]⟩], [(⟨4, ⟨#[50, 46, 48]⟩, [], []⟩ : S27), (⟨4, m, [], []⟩ : S27), Y]⟩ : S27).f2.length tn2, .slice t3 (⟨6, ⟨#[]⟩, [⟨#[106, 115, 111, 110, 114, 112, 99]⟩, ⟨#[109, 101, 116, 104, 111, 100]⟩, ⟨#[112, 97, 114, 97, 109, 115]⟩], [(⟨4, ⟨#[50, 46, 48]⟩, [], []⟩ : S27), (⟨4, m, [], []⟩ : S27), Y]⟩ : S27).f3.length tn3]) (by simp [Region.wanted, yielded, g18]) rfl ?_ (hK.out _ _ (Below.refl _ _) rfl);clear hC hd hb hK
   first | (go_simp; done) | (go_simp; rfl)
  ·refine At.of _ rfl (fun e a w hC hd hb K hK => ?_)
   have g18 := (hd 18 (by decide)).2 84 rfl;rw [show e 18 = _ from (hd 18 (by decide)).1] at g18;have q19 := (hd 19 (by decide)).2 85 rfl;rw [show e 19 = _ from (hd 19 (by decide)).1] at q19;refine goes_ Tryd.func18 (by kernel_rfl) rfl #[.agg #[.int .i64 (⟨6, ⟨#[]⟩, [⟨#[106, 115, 111, 110, 114, 112, 99]⟩, ⟨#[109, 101, 116, 104, 111, 100]⟩, ⟨#[112, 97, 114, 97, 109, 115]⟩], [(⟨4, ⟨#[50, 46, 48]⟩, [], []⟩ : S27), (⟨4, m, [], []⟩ : S27), Y]⟩ : S27).f0, .string (⟨6, ⟨#[]⟩, [⟨#[106, 115, 111, 110, 114, 112, 99]⟩, ⟨#[109, 101, 116, 104, 111, 100]⟩, ⟨#[112, 97, 114, 97, 109, 115]⟩], [(⟨4, ⟨#[50, 46, 48]⟩, [], []⟩ : S27), (⟨4, m, [], []⟩ : S27), Y]⟩ : S27).f1, .slice t2 (⟨6, ⟨#[]⟩, [⟨#[106, 115, 111, 110, 114, 112, 99]⟩, ⟨#[109, 101, 116, 104, 111, 100]⟩, ⟨#[112, 97, 114, 97, 109, 115]⟩], [(⟨4, ⟨#[50, 46, 48]⟩, [], []⟩ : S27), (⟨4, m, [], []⟩ : S27), Y]⟩ : S27).f2.length tn2, .slice t3 (⟨6, ⟨#[]⟩, [⟨#[106, 115, 111, 110, 114, 112, 99]⟩, ⟨#[109, 101, 116, 104, 111, 100]⟩, ⟨#[112, 97, 114, 97, 109, 115]⟩], [(⟨4, ⟨#[50, 46, 48]⟩, [], []⟩ : S27), (⟨4, m, [], []⟩ : S27), Y]⟩ : S27).f3.length tn3]] (by simp [Region.wanted, yielded, g18]) rfl rfl (by first | (simp [Act.eval, q19]; done) | (simp [Act.eval, q19]; rfl)) ?_;refine (ofJ k _ (⟨6, ⟨#[]⟩, [⟨#[106, 115, 111, 110, 114, 112, 99]⟩, ⟨#[109, 101, 116, 104, 111, 100]⟩, ⟨#[112, 97, 114, 97, 109, 115]⟩], [(⟨4, ⟨#[50, 46, 48]⟩, [], []⟩ : S27), (⟨4, m, [], []⟩ : S27), Y]⟩ : S27) (⟨6, ⟨#[]⟩, [⟨#[106, 115, 111, 110, 114, 112, 99]⟩, ⟨#[109, 101, 116, 104, 111, 100]⟩, ⟨#[112, 97, 114, 97, 109, 115]⟩], [(⟨4, ⟨#[50, 46, 48]⟩, [], []⟩ : S44), (⟨4, m, [], []⟩ : S44), y]⟩ : S44) w (fun _ _ => trivial) hC.2.1 FC.out).mono ?_;rintro en w' ⟨v, rfl, hv, hb'⟩;exact ⟨v, rfl, hK.out v w' hb' hv⟩
  ·refine At.of _ rfl (fun e a w hC hd hb K hK => ?_)
   have g18 := (hd 18 (by decide)).2 84 rfl;rw [show e 18 = _ from (hd 18 (by decide)).1] at g18;have b5 : a.tmps[5]? = some (.string m) := hb 5 (by decide);refine value_ (w1 := w) (v := .string m) (by simp [Region.wanted, yielded, g18]) rfl ?_ (hK.out _ _ (Below.refl _ _) rfl);clear hC hd hb hK
   first | (go_simp; done) | (go_simp; rfl)
  ·refine At.of _ rfl (fun e a w hC hd hb K hK => ?_)
   have g18 := (hd 18 (by decide)).2 84 rfl;rw [show e 18 = _ from (hd 18 (by decide)).1] at g18;have b10 : a.tmps[10]? = some (.pointer (some ⟨W2.heap.size, 0, none⟩)) := hb 10 (by decide);have cy0 : w.cell? ⟨W2.heap.size, 0, none⟩ = some (.int .i64 y.f0) := Ctx.blk hC.2.2.2.2.2.2.1 0 rfl;have cy1 : w.cell? ⟨W2.heap.size, 1, none⟩ = some (.string y.f1) := Ctx.blk hC.2.2.2.2.2.2.1 1 rfl;have cy2 : w.cell? ⟨W2.heap.size, 2, none⟩ = some (.slice y2 y.f2.length yn2) := Ctx.blk hC.2.2.2.2.2.2.1 2 rfl;have cy3 : w.cell? ⟨W2.heap.size, 3, none⟩ = some (.slice y3 y.f3.length yn3) := Ctx.blk hC.2.2.2.2.2.2.1 3 rfl;refine value_ (w1 := w) (v := .agg #[.int .i64 y.f0, .string y.f1, .slice y2 y.f2.length yn2, .slice y3 y.f3.length yn3]) (by simp [Region.wanted, yielded, g18]) rfl ?_ (hK.out _ _ (Below.refl _ _) rfl);clear hC hd hb hK
   first | (go_simp; done) | (go_simp; rfl)
  ·refine At.of _ rfl (fun e a w hC hd hb K hK => ?_)
   have g18 := (hd 18 (by decide)).2 84 rfl;rw [show e 18 = _ from (hd 18 (by decide)).1] at g18;have q21 := (hd 21 (by decide)).2 87 rfl;rw [show e 21 = _ from (hd 21 (by decide)).1] at q21;have q22 := (hd 22 (by decide)).2 88 rfl;rw [show e 22 = _ from (hd 22 (by decide)).1] at q22;refine goes_ Tryd.func36 (by kernel_rfl) rfl #[.string m, .agg #[.int .i64 y.f0, .string y.f1, .slice y2 y.f2.length yn2, .slice y3 y.f3.length yn3]] (by simp [Region.wanted, yielded, g18]) rfl rfl (by first | (simp [Act.eval, q21, q22]; done) | (simp [Act.eval, q21, q22]; rfl)) ?_;refine (notify44_calls T1 m _ y w (fun _ _ => trivial) hC.2.2.2.2.2.2.2.1).mono ?_;rintro en w' ⟨v, rfl, hv, hb'⟩;exact ⟨v, rfl, hK.out v w' hb' hv⟩
  ·refine At.of _ rfl (fun e a w hC hd hb K hK => ?_)
   have g18 := (hd 18 (by decide)).2 84 rfl;rw [show e 18 = _ from (hd 18 (by decide)).1] at g18;have q20 := (hd 20 (by decide)).2 86 rfl;have q23 := (hd 23 (by decide)).2 89 rfl;refine goes_ Tryd.func17 (by kernel_rfl) rfl #[e 20, e 23] (by simp [Region.wanted, yielded, g18]) rfl rfl (by first | (simp [Act.eval, q20, q23]; done) | (simp [Act.eval, q20, q23]; rfl)) ?_;refine (equal44 (show Kv k44 T1 w (e 20) (⟨6, ⟨#[]⟩, [⟨#[106, 115, 111, 110, 114, 112, 99]⟩, ⟨#[109, 101, 116, 104, 111, 100]⟩, ⟨#[112, 97, 114, 97, 109, 115]⟩], [(⟨4, ⟨#[50, 46, 48]⟩, [], []⟩ : S44), (⟨4, m, [], []⟩ : S44), y]⟩ : S44) from (hd 20 (by decide)).1) (show Kv k44 T1 w (e 23) (⟨6, ⟨#[]⟩, [⟨#[106, 115, 111, 110, 114, 112, 99]⟩, ⟨#[109, 101, 116, 104, 111, 100]⟩, ⟨#[112, 97, 114, 97, 109, 115]⟩], [(⟨4, ⟨#[50, 46, 48]⟩, [], []⟩ : S44), (⟨4, m, [], []⟩ : S44), y]⟩ : S44) from (hd 23 (by decide)).1)).mono ?_;rintro en w' ⟨v, rfl, hv, hb'⟩;exact ⟨v, rfl, hK.out v w' hb' hv⟩
  ·refine At.of _ rfl (fun e a w hC hd hb K hK => ?_)
   have q18 := (hd 18 (by decide)).2 84 rfl;rw [show e 18 = _ from (hd 18 (by decide)).1] at q18;have q24 := (hd 24 (by decide)).2 90 rfl;rw [show e 24 = _ from (hd 24 (by decide)).1] at q24;refine value_ (w1 := w) (v := .bool true) (by rfl) rfl ?_ (hK.out _ _ (Below.refl _ _) rfl);clear hC hd hb hK
   first | (go_simp; done) | (go_simp; rfl)
  ·refine At.of _ rfl (fun e a w hC hd hb K hK => ?_)
   have q25 := (hd 25 (by decide)).2 91 rfl;rw [show e 25 = _ from (hd 25 (by decide)).1] at q25;refine value_ (w1 := w) (v := .bool true) (by rfl) rfl ?_ (hK.out _ _ (Below.refl _ _) rfl);clear hC hd hb hK
   first | (go_simp; done) | (go_simp; rfl)
  intro ev w C hr;have r26 : ev 26 = .bool true := hr.2;simp only [fill, Act.put, r26, if_true, List.setIfInBounds_toArray, List.set_cons_zero, List.set_cons_succ];clear hr r26;have hw := C.2.2.2.2.2.2.2.2.2.2.2.1;clear C
  go_wp2_with fail
  go_ret;exact ⟨rfl, hw⟩
end Go.Proofs.YteighppcdpaekaaDoor.P
end
section
namespace Go.Proofs.YteighppcdpaekaaDoor.P
open Go.RowKit Go.Proofs.YteighppcdpaekaaDoorW.PrintWords Go.Proofs.YteighppcdpaekaaDoorW.PrintLast Go.Proofs.YteighppcdpaekaaDoorW.PrintMore
attribute [local go_sem] max2_int min2_int max_two min_two max_three min_three max_four min_four
set_option linter.unusedVariables false
set_option linter.unusedSimpArgs false
mutual
def R4q_Int.j0 : Nat → ByteArray → Bool → Option (Int × Bool)
 | 0, _, _ => none
 | k + 1, x4, x5 => if x5 = true then (if 1 ≤ (x4.size : Int) then (R4q_Int.j1 k (x4.extract 1 x4.size) x5) else (none)) else (R4q_Int.j1 k x4 x5)
def R4q_Int.j1 : Nat → ByteArray → Bool → Option (Int × Bool)
 | 0, _, _ => none
 | k + 1, x4, x5 => if (x4.size : Int) < 1 then (R4q_Int.j2 k x4 x5 true) else (if (x4.size : Int) > 9 then (R4q_Int.j2 k x4 x5 true) else (if 0 < (x4.size : Int) then (if (bt x4 0) = 48 then (if (x4.size : Int) > 1 then (R4q_Int.j2 k x4 x5 true) else (R4q_Int.j2 k x4 x5 x5)) else (R4q_Int.j2 k x4 x5 false)) else (none)))
def R4q_Int.j2 : Nat → ByteArray → Bool → Bool → Option (Int × Bool)
 | 0, _, _, _ => none
 | k + 1, x4, x5, x44 => if x44 = true then (some (0, false)) else (R4q_Int.l0 k x4 x5 0 0)
def R4q_Int.l0 : Nat → ByteArray → Bool → Int → Int → Option (Int × Bool)
 | 0, _, _, _, _ => none
 | k + 1, x4, x5, x6, x7 => if x7 < (x4.size : Int) then (if 0 ≤ x7 then (if (bt x4 x7) < 48 then (some (0, false)) else (if (bt x4 x7) > 57 then (some (0, false)) else (R4q_Int.l0 k x4 x5 (wrap64 ((wrap64 (x6 * 10)) + (((bt x4 x7) - 48) % 256))) (wrap64 (x7 + 1))))) else (none)) else (if x5 = true then (some (wrap64 (-x6), true)) else (some (x6, true)))
end
end Go.Proofs.YteighppcdpaekaaDoor.P
end
section
namespace Go.Proofs.YteighppcdpaekaaDoor.P
open Go.RowKit Go.Proofs.YteighppcdpaekaaDoorW.PrintWords Go.Proofs.YteighppcdpaekaaDoorW.PrintLast Go.Proofs.YteighppcdpaekaaDoorW.PrintMore
attribute [local go_sem] max2_int min2_int max_two min_two max_three min_three max_four min_four
set_option linter.unusedVariables false
set_option linter.unusedSimpArgs false
end Go.Proofs.YteighppcdpaekaaDoor.P
end
section
namespace Go.Proofs.YteighppcdpaekaaDoor.P
open Go.RowKit Go.Proofs.YteighppcdpaekaaDoorW.PrintWords Go.Proofs.YteighppcdpaekaaDoorW.PrintLast Go.Proofs.YteighppcdpaekaaDoorW.PrintMore
attribute [local go_sem] max2_int min2_int max_two min_two max_three min_three max_four min_four
set_option linter.unusedVariables false
set_option linter.unusedSimpArgs false
end Go.Proofs.YteighppcdpaekaaDoor.P
end
section
namespace Go.Proofs.YteighppcdpaekaaDoor.P
open Go.RowKit Go.Proofs.YteighppcdpaekaaDoorW.PrintWords Go.Proofs.YteighppcdpaekaaDoorW.PrintLast Go.Proofs.YteighppcdpaekaaDoorW.PrintMore
attribute [local go_sem] max2_int min2_int max_two min_two max_three min_three max_four min_four
set_option linter.unusedVariables false
set_option linter.unusedSimpArgs false
end Go.Proofs.YteighppcdpaekaaDoor.P
end
section
namespace Go.Proofs.YteighppcdpaekaaDoor.P
open Go.RowKit Go.Proofs.YteighppcdpaekaaDoorW.PrintWords Go.Proofs.YteighppcdpaekaaDoorW.PrintLast Go.Proofs.YteighppcdpaekaaDoorW.PrintMore
attribute [local go_sem] max2_int min2_int max_two min_two max_three min_three max_four min_four
set_option linter.unusedVariables false
set_option linter.unusedSimpArgs false
end Go.Proofs.YteighppcdpaekaaDoor.P
end
section
namespace Go.Proofs.YteighppcdpaekaaDoor.Eq4
open Go.RowKit Go.Proofs.YteighppcdpaekaaDoorW.PrintWords Go.Proofs.YteighppcdpaekaaDoor.P
section
variable {α β : Type} {r : α}
end
theorem w64 {i : Nat} (h : i < 1000000000000) : wrap64 ((i : Int) + 1) = ((i + 1 : Nat) : Int) := by unfold wrap64; omega
mutual
def szS : S27 → Nat
 | ⟨_, _, _, l⟩ => szL l + 1
def szL : List S27 → Nat
 | [] => 0
 | x :: r => szS x + szL r
end
mutual
def ofS : S27 → S44
 | ⟨a, b, c, l⟩ => ⟨a, b, c, ofL l⟩
def ofL : List S27 → List S44
 | [] => []
 | x :: r => ofS x :: ofL r
end
theorem szS_eq (v : S27) : szS v = szL v.f3 + 1 := by cases v; simp [szS]
theorem ofS_eq (v : S27) : ofS v = ⟨v.f0, v.f1, v.f2, ofL v.f3⟩ := by cases v; simp [ofS]
theorem ofL_map (l : List S27) : ofL l = l.map ofS := by
 induction l with
 | nil => simp [ofL]
 | cons x r ih => simp [ofL, ih]
theorem szL_mem {x : S27} {l : List S27} (h : x ∈ l) : szS x ≤ szL l := by
 induction l with
 | nil => cases h
 | cons y r ih =>
  simp only [szL]
  rcases List.mem_cons.1 h with rfl | h
  ·omega
  ·have := ih h; omega
inductive Light : S27 → Prop where
 | mk {v : S27} (h3 : v.f3.length ≤ 3000) (h2 : v.f2.length ≤ 3000) (h1 : v.f1.size ≤ 3000) (hk : ∀ (i : Nat) (h : i < v.f2.length), (v.f2[i]).size ≤ 3000) (hl : ∀ x ∈ v.f3, Light x) : Light v
theorem Light.out {v : S27} (h : Light v) : v.f3.length ≤ 3000 ∧ v.f2.length ≤ 3000 ∧ v.f1.size ≤ 3000 ∧ (∀ (i : Nat) (h : i < v.f2.length), (v.f2[i]).size ≤ 3000) ∧ ∀ x ∈ v.f3, Light x := by
 cases h with
 | mk h3 h2 h1 hk hl => exact ⟨h3, h2, h1, hk, hl⟩
end Go.Proofs.YteighppcdpaekaaDoor.Eq4
end
section
namespace Go.Proofs.YteighppcdpaekaaDoor.Num
open Go.Lib Go.RowKit Go.Proofs.YteighppcdpaekaaDoorW.PrintWords Go.Proofs.YteighppcdpaekaaDoor.P
section
variable {α : Type} {r : α}
theorem evT {c : Prop} [Decidable c] {A B : Nat → Option α} (hc : c) (h : Ev A r) : Ev (fun k => if c then A k else B k) r := by simpa only [if_pos hc] using h
theorem evF {c : Prop} [Decidable c] {A B : Nat → Option α} (hc : ¬ c) (h : Ev B r) : Ev (fun k => if c then A k else B k) r := by simpa only [if_neg hc] using h
end
theorem size_len (s : ByteArray) : s.size = s.data.toList.length := by rw [Array.length_toList]; rfl
theorem bt_at (s : ByteArray) (i : Nat) (h : i < s.data.toList.length) : bt s (i : Int) = ((s.data.toList[i]).toNat : Int) := by
 unfold bt
 have h2 : ((i : Int)).toNat < s.size := by rw [size_len]; exact h
 rw [dif_pos h2]
 rfl
def endI (m : Bool) (o : Option Nat) : Int × Bool := match o with
 | some n => (sgn m n, true)
 | none => (0, false)
theorem loop (s : ByteArray) (m : Bool) (hl : s.data.toList.length ≤ 9) : ∀ (j i acc : Nat), i + j = s.data.toList.length → acc < 10 ^ i →
  Ev (fun k => R4q_Int.l0 k s m (acc : Int) (i : Int)) (endI m (decFrom acc (s.data.toList.drop i)))
 | 0, i, acc, h, ha => by
  have hp : 10 ^ i ≤ 10 ^ 9 := Nat.pow_le_pow_right (by omega) (by omega);rw [List.drop_eq_nil_of_le (by omega)];refine Ev.step (fun k => rfl) ?_;refine evF (by rw [size_len]; omega) ?_
  cases m with
  | true =>
   refine evT rfl ?_
   have : wrap64 (-(acc : Int)) = sgn true acc := by show wrap64 (-(acc : Int)) = -(acc : Int); unfold wrap64; omega
   rw [this];exact Ev.now _
  | false => exact evF (c := false = true) (by decide) (Ev.now _)
 | j + 1, i, acc, h, ha => by
  have hi : i < s.data.toList.length := by omega
  have hp : 10 ^ i ≤ 10 ^ 8 := Nat.pow_le_pow_right (by omega) (by omega);rw [List.drop_eq_getElem_cons hi];refine Ev.step (fun k => rfl) ?_;refine evT (by rw [size_len]; omega) ?_;refine evT (by omega) ?_;rw [bt_at s i hi];simp only [decFrom];generalize hc : s.data.toList[i] = c;have hcl : c.toNat < 256 := c.toNat_lt;by_cases h1 : (c.toNat : Int) < 48
  ·have : digitVal c = none := by unfold digitVal; rw [if_neg (by omega)]
   rw [this];exact evT h1 (Ev.now _)
  ·refine evF h1 ?_
   by_cases h2 : (c.toNat : Int) > 57
   ·have : digitVal c = none := by unfold digitVal; rw [if_neg (by omega)]
    rw [this];exact evT h2 (Ev.now _)
   ·refine evF h2 ?_
    have hd : digitVal c = some (c.toNat - 48) := by unfold digitVal; rw [if_pos (by omega)]
    rw [hd]
    have e1 : wrap64 (wrap64 ((acc : Int) * 10) + ((c.toNat : Int) - 48) % 256) = ((acc * 10 + (c.toNat - 48) : Nat) : Int) := by unfold wrap64; omega
    have e2 : wrap64 ((i : Int) + 1) = ((i + 1 : Nat) : Int) := by unfold wrap64; omega
    rw [e1, e2];exact loop s m hl j (i + 1) _ (by omega) (by rw [Nat.pow_succ]; omega)
end Go.Proofs.YteighppcdpaekaaDoor.Num
end
section
namespace Go.Proofs.YteighppcdpaekaaDoor.Eq4
open Go.RowKit Go.Proofs.YteighppcdpaekaaDoorW.PrintWords Go.Proofs.YteighppcdpaekaaDoor.P
theorem oL_ev {n : Nat} (ih : ∀ v, szS v ≤ n → Light v → Ev (fun k => ofF k v) (ofS v)) : ∀ (l : List S27) (acc : List S44), (∀ x ∈ l, szS x ≤ n) → (∀ x ∈ l, Light x) → acc.length + l.length ≤ 3000 → Ev (fun k => ofLF (ofF k) l acc) (acc ++ ofL l)
 | [], acc, _, _, _ => by
  rw [ofL_map, List.map_nil, List.append_nil];exact Ev.now _
 | x :: r, acc, hn, hL, hc => by
  have := oL_ev ih r (acc ++ [ofS x]) (fun y hy => hn y (List.mem_cons_of_mem _ hy)) (fun y hy => hL y (List.mem_cons_of_mem _ hy)) (by simp at hc ⊢; omega);simp only [ofLF];refine Num.evT (by simp at hc; omega) ?_;refine Ev.bind (ih x (hn x (List.mem_cons_self ..)) (hL x (List.mem_cons_self ..))) ?_;rw [List.append_assoc] at this;rw [ofL_map] at this ⊢;exact this
theorem of_val2 : ∀ n v, szS v ≤ n → Light v → Ev (fun k => ofF k v) (ofS v) := by
 intro n
 induction n with
 | zero => intro v h; rw [szS_eq] at h; omega
 | succ n ih =>
  intro v h hL;rw [szS_eq] at h;refine Ev.step (fun k => rfl) ?_;obtain ⟨h3, _, _, _, hl⟩ := hL.out;have := oL_ev ih v.f3 [] (fun x hx => Nat.le_trans (szL_mem hx) (by omega)) hl (by simpa using h3);obtain ⟨K, hK⟩ := this;refine ⟨K, fun k hk => ?_⟩;have e : ofLF (ofF k) v.f3 [] = some (ofL v.f3) := hK k hk;simp only [ofF, ofS_eq, e, Option.map_some]
end Go.Proofs.YteighppcdpaekaaDoor.Eq4
end
section
namespace Go.Proofs.YteighppcdpaekaaDoor.Eq4
open Go.RowKit Go.Proofs.YteighppcdpaekaaDoorW.PrintWords Go.Proofs.YteighppcdpaekaaDoor.P
theorem oL_parts : ∀ (l : List S27) (acc : List S44), (∀ x ∈ l, Ev (fun k => ofF k x) (ofS x)) → acc.length + l.length ≤ 3000 → Ev (fun k => ofLF (ofF k) l acc) (acc ++ ofL l)
 | [], acc, _, _ => by
  rw [ofL_map, List.map_nil, List.append_nil];exact Ev.now _
 | x :: r, acc, hn, hc => by
  have := oL_parts r (acc ++ [ofS x]) (fun y hy => hn y (List.mem_cons_of_mem _ hy)) (by simp at hc ⊢; omega);simp only [ofLF];refine Num.evT (by simp at hc; omega) ?_;refine Ev.bind (hn x (List.mem_cons_self ..)) ?_;rw [List.append_assoc] at this;rw [ofL_map] at this ⊢;exact this
theorem of_node (v : S27) (h : ∀ x ∈ v.f3, Ev (fun k => ofF k x) (ofS x)) (hl : v.f3.length ≤ 3000) : Ev (fun k => ofF k v) (ofS v) := by
 refine Ev.step (fun k => rfl) ?_;obtain ⟨K, hK⟩ := oL_parts v.f3 [] h (by simpa using hl);refine ⟨K, fun k hk => ?_⟩;have e : ofLF (ofF k) v.f3 [] = some (ofL v.f3) := hK k hk;simp only [ofF, ofS_eq, e, Option.map_some]
theorem of_leaf (t : Int) (s : ByteArray) : Ev (fun k => ofF k ⟨t, s, [], []⟩) (ofS ⟨t, s, [], []⟩) := of_node _ (fun x hx => by cases hx) (by simp)
theorem ofS_leaf (t : Int) (s : ByteArray) : ofS ⟨t, s, [], []⟩ = ⟨t, s, [], []⟩ := by rw [ofS_eq, ofL_map]; rfl
theorem ofS_three (t : Int) (s : ByteArray) (ks : List ByteArray) (a b c : S27) : ofS ⟨t, s, ks, [a, b, c]⟩ = ⟨t, s, ks, [ofS a, ofS b, ofS c]⟩ := by rw [ofS_eq, ofL_map]; rfl
theorem ofS_two (t : Int) (s : ByteArray) (ks : List ByteArray) (a b : S27) : ofS ⟨t, s, ks, [a, b]⟩ = ⟨t, s, ks, [ofS a, ofS b]⟩ := by rw [ofS_eq, ofL_map]; rfl
theorem of_three (t : Int) (s : ByteArray) (ks : List ByteArray) (a b c : S27) (h1 : Ev (fun k => ofF k a) (ofS a)) (h2 : Ev (fun k => ofF k b) (ofS b)) (h3 : Ev (fun k => ofF k c) (ofS c)) : Ev (fun k => ofF k ⟨t, s, ks, [a, b, c]⟩) ⟨t, s, ks, [ofS a, ofS b, ofS c]⟩ := by
 rw [← ofS_three];refine of_node _ (fun x hx => ?_) (by simp)
 rcases (by simpa using hx : x = a ∨ x = b ∨ x = c) with rfl | rfl | rfl
 ·exact h1
 ·exact h2
 ·exact h3
theorem of_two (t : Int) (s : ByteArray) (ks : List ByteArray) (a b : S27) (h1 : Ev (fun k => ofF k a) (ofS a)) (h2 : Ev (fun k => ofF k b) (ofS b)) : Ev (fun k => ofF k ⟨t, s, ks, [a, b]⟩) ⟨t, s, ks, [ofS a, ofS b]⟩ := by
 rw [← ofS_two];refine of_node _ (fun x hx => ?_) (by simp)
 rcases (by simpa using hx : x = a ∨ x = b) with rfl | rfl
 ·exact h1
 ·exact h2
end Go.Proofs.YteighppcdpaekaaDoor.Eq4
end
section
namespace Go.Proofs.YteighppcdpaekaaDoor.Eq4
open Go.RowKit Go.Proofs.YteighppcdpaekaaDoorW.PrintWords Go.Proofs.YteighppcdpaekaaDoor.P
theorem toL_ev {n : Nat} (ih : ∀ v, szS v ≤ n → Light v → Ev (fun k => toF k (ofS v)) v) : ∀ (l acc : List S27), (∀ x ∈ l, szS x ≤ n) → (∀ x ∈ l, Light x) → acc.length + l.length ≤ 3000 → Ev (fun k => toLF (toF k) (ofL l) acc) (acc ++ l)
 | [], acc, _, _, _ => by
  rw [ofL_map, List.append_nil];exact Ev.now _
 | x :: r, acc, hn, hL, hc => by
  have := toL_ev ih r (acc ++ [x]) (fun y hy => hn y (List.mem_cons_of_mem _ hy)) (fun y hy => hL y (List.mem_cons_of_mem _ hy)) (by simp at hc ⊢; omega);rw [ofL_map] at this ⊢;rw [List.map_cons];simp only [toLF];refine Num.evT (by simp at hc; omega) ?_;refine Ev.bind (ih x (hn x (List.mem_cons_self ..)) (hL x (List.mem_cons_self ..))) ?_;rw [List.append_assoc] at this;exact this
theorem to_val : ∀ n v, szS v ≤ n → Light v → Ev (fun k => toF k (ofS v)) v := by
 intro n
 induction n with
 | zero => intro v h; rw [szS_eq] at h; omega
 | succ n ih =>
  intro v h hL;rw [szS_eq] at h;refine Ev.step (fun k => rfl) ?_;obtain ⟨h3, _, _, _, hl⟩ := hL.out;have := toL_ev ih v.f3 [] (fun x hx => Nat.le_trans (szL_mem hx) (by omega)) hl (by simpa using h3);obtain ⟨K, hK⟩ := this;refine ⟨K, fun k hk => ?_⟩;have e : toLF (toF k) (ofL v.f3) [] = some v.f3 := hK k hk;simp only [toF, ofS_eq, e, Option.map_some]
  cases v; rfl
end Go.Proofs.YteighppcdpaekaaDoor.Eq4
end
section
namespace Go.Proofs.YteighppcdpaekaaDoor.Rf
open Go.RowKit Go.Proofs.YteighppcdpaekaaDoorW.PrintWords Go.Proofs.YteighppcdpaekaaDoor Go.Proofs.YteighppcdpaekaaDoor.P
variable {b : List Int} {p q fr : Nat} {d B : Int}
theorem evBT {α β : Type} {c : Prop} [Decidable c] (hc : c) {A C : Nat → Option α} {g : Nat → α → Option β} {r : β} (h : Ev (fun k => (A k).bind (g k)) r) : Ev (fun k => (if c then A k else C k).bind (g k)) r := by simpa only [if_pos hc] using h
theorem evBF {α β : Type} {c : Prop} [Decidable c] (hc : ¬ c) {A C : Nat → Option α} {g : Nat → α → Option β} {r : β} (h : Ev (fun k => (C k).bind (g k)) r) : Ev (fun k => (if c then A k else C k).bind (g k)) r := by simpa only [if_neg hc] using h
theorem m46 : ¬ (((-1 : Int) == 46) = true) := by decide
theorem m48 : ¬ (((-1 : Int) == 48) = true) := by decide
abbrev zeroN (a d e B : Int) : NumOut := (0, ⟨#[]⟩, [], [], a, d, e, B)
abbrev numR (b : List Int) (fr r : Nat) (d B : Int) : NumOut := (3, strOfNums ((b.take r).drop fr), [], [], (r : Int), d, 0, B)
def NumEnds (b : List Int) (o : Js.Out Unit) (fr : Nat) (d B : Int) (g : Nat → Option NumOut) : Prop := match o with
 | .ok _ r => fr ≤ r → r ≤ b.length → Ev g (numR b fr r d B)
 | .no _ _ => ∃ a d' e B', e ≠ 0 ∧ Ev g (zeroN a d' e B')
theorem numE_ok (hpq : fr ≤ q) (hq : q ≤ b.length) : numE b fr q d 0 B = some (numR b fr q d B) := by
 unfold numE;rw [if_neg (by decide), if_pos (by omega)]
 simp
theorem numE_bad {f a e : Int} (he : e ≠ 0) : numE b f a d e B = some (zeroN a d e B) := by
 unfold numE;rw [if_pos (by simpa using he)]
theorem numX_bad {f a e : Int} (he : e ≠ 0) : Ev (fun k => numX k b f a d e B) (zeroN a d e B) := by
 unfold numX;exact evB (see_bad he) (evF (by show ¬ (((-1 : Int) == 101 || (-1 : Int) == 69) = true); decide) (evC (numE_bad he)))
theorem numD_bad {f a e : Int} (he : e ≠ 0) : Ev (fun k => numD k b f a d e B) (zeroN a d e B) := by
 unfold numD;refine evB (see_bad he) ?_;refine evBF m46 ?_;exact evB rfl (numX_bad he)
theorem see_next (hb : Bs b) : ∃ c : Int, RRq_see.f b q d 0 B = some (c, (q : Int), d, 0, B) ∧ ∀ x : Int, 0 ≤ x → ((c == x) = true ↔ Js.next b q x = true) := by
 cases hn : b[q]? with
 | none =>
  refine ⟨-1, see_end hn, fun x hx => ?_⟩
  simp [Js.next, hn]
  omega
 | some c =>
  refine ⟨c, see_ok hb hn, fun x hx => ?_⟩
  simp [Js.next, hn]
theorem digs (hb : Bs b) {g : Nat → (Int × Int × Int × Int) → Option NumOut} {o : Js.Out Unit} (h1 : ∀ y e, Js.digits b q = .no y e → o = .no y e)
  (h2 : ∀ u r, Js.digits b q = .ok u r → NumEnds b o fr d B (fun k => g k ((r : Int), d, 0, B))) (hbad : ∀ a d e B, e ≠ 0 → Ev (fun k => g k (a, d, e, B)) (zeroN a d e B)) :
  NumEnds b o fr d B (fun k => (RRq_digits.f k b q d 0 B).bind (g k)) := by
 have h := digits_ends (p := q) (d := d) (B := B) hb
 cases hd : Js.digits b q with
 | no y e =>
  rw [hd] at h;obtain ⟨a, d', e', B', he, h⟩ := h;rw [h1 y e hd];exact ⟨a, d', e', B', he, Ev.bind h (hbad _ _ _ _ he)⟩
 | ok u r =>
  rw [hd] at h;have h3 := h2 u r hd
  cases o with
  | ok u r => exact fun x1 x2 => Ev.bind h (h3 x1 x2)
  | no y e =>
   obtain ⟨a, d', e', B', he, h3⟩ := h3;exact ⟨a, d', e', B', he, Ev.bind h h3⟩
theorem NumEnds.map {o : Js.Out Unit} {g g' : Nat → Option NumOut} (h : NumEnds b o fr d B g) (hg : ∀ {r}, Ev g r → Ev g' r) : NumEnds b o fr d B g' := by
 cases o with
 | ok u r => exact fun x1 x2 => hg (h x1 x2)
 | no y e =>
  obtain ⟨a, d', e', B', he, h3⟩ := h;exact ⟨a, d', e', B', he, hg h3⟩
theorem numX_ends (hb : Bs b) (_hq : q ≤ b.length) : NumEnds b (Js.numExp b q) fr d B (fun k => numX k b fr q d 0 B) := by
 have hl := hb.2;obtain ⟨c, hs, hc⟩ := see_next (q := q) (d := d) (B := B) hb;unfold Js.numExp;by_cases h1 : (Js.next b q 101 || Js.next b q 69) = true
 ·rw [if_pos h1]
  have h1c : (c == 101 || c == 69) = true := by
   rcases Bool.or_eq_true _ _ ▸ h1 with h | h
   ·rw [(hc 101 (by decide)).2 h]; rfl
   ·rw [(hc 69 (by decide)).2 h]; simp
  obtain ⟨c2, hs2, hc2⟩ := see_next (q := q + 1) (d := d) (B := B) hb
  have hlt : q < b.length := by
   rcases Bool.or_eq_true _ _ ▸ h1 with h | h
   ·exact Js.next_lt h
   ·exact Js.next_lt h
  unfold Js.numSign
  have step : ∀ {r}, Ev (fun k => (RRq_digits.f k b ((if Js.next b (q + 1) 43 || Js.next b (q + 1) 45 then q + 1 + 1 else q + 1 : Nat) : Int) d 0 B).bind fun v => numE b fr v.1 v.2.1 v.2.2.1 v.2.2.2) r → Ev (fun k => numX k b fr q d 0 B) r := by
   intro r hr;unfold numX;refine evB hs (evT h1c ?_)
   show Ev (fun k => (RRq_see.f b (wrap64 ((q : Int) + 1)) d 0 B).bind _) r
   rw [w64n (by omega)];refine evB hs2 ?_
   show Ev (fun k => (RRq_digits.f k b (if (c2 == 43 || c2 == 45) = true then wrap64 (((q + 1 : Nat) : Int) + 1) else ((q + 1 : Nat) : Int)) d 0 B).bind _) r
   rw [w64n (by omega)]
   rw [show (if (c2 == 43 || c2 == 45) = true then ((q + 1 + 1 : Nat) : Int) else ((q + 1 : Nat) : Int)) = ((if Js.next b (q + 1) 43 || Js.next b (q + 1) 45 then q + 1 + 1 else q + 1 : Nat) : Int) by
    have e1 : (c2 == 43) = Js.next b (q + 1) 43 := Bool.eq_iff_iff.mpr (hc2 43 (by decide));have e2 : (c2 == 45) = Js.next b (q + 1) 45 := Bool.eq_iff_iff.mpr (hc2 45 (by decide));rw [e1, e2]
    split <;> rfl]
   exact hr
  refine NumEnds.map (digs hb (g := fun _ v => numE b fr v.1 v.2.1 v.2.2.1 v.2.2.2) (fun _ _ h => h) (fun u r h => ?_) (fun _ _ _ _ he => evC (numE_bad he))) step;rw [h]
  exact fun x1 x2 => evC (numE_ok x1 x2)
 ·rw [if_neg h1]
  intro x1 x2;unfold numX;refine evB hs (evF ?_ (evC (numE_ok x1 x2)));intro h
  apply h1
  rcases Bool.or_eq_true _ _ ▸ h with h | h
  ·rw [(hc 101 (by decide)).1 h]; rfl
  ·rw [(hc 69 (by decide)).1 h]; simp
theorem numD_ends (hb : Bs b) (hq : q ≤ b.length) : NumEnds b (Js.numFrac b q) fr d B (fun k => numD k b fr q d 0 B) := by
 have hl := hb.2;obtain ⟨c, hs, hc⟩ := see_next (q := q) (d := d) (B := B) hb;unfold Js.numFrac;by_cases h1 : Js.next b q 46 = true
 ·rw [if_pos h1]
  have hlt := Js.next_lt h1
  have step : ∀ {r}, Ev (fun k => (RRq_digits.f k b ((q + 1 : Nat) : Int) d 0 B).bind fun v => numX k b fr v.1 v.2.1 v.2.2.1 v.2.2.2) r → Ev (fun k => numD k b fr q d 0 B) r := by
   intro r hr;unfold numD;refine evB hs ?_;refine evBT (((hc 46 (by decide)).2 h1)) ?_
   show Ev (fun k => (RRq_digits.f k b (wrap64 ((q : Int) + 1)) d 0 B).bind _) r
   rw [w64n (by omega)];exact hr
  refine NumEnds.map (digs hb (g := fun k v => numX k b fr v.1 v.2.1 v.2.2.1 v.2.2.2) (fun y e h => by rw [h]) (fun u r h => ?_) (fun _ _ _ _ he => numX_bad he)) step;rw [h];exact numX_ends hb (Js.digits_le h).2
 ·rw [if_neg h1]
  refine NumEnds.map (numX_ends hb hq) (fun hr => ?_);unfold numD;refine evB hs ?_;refine evBF ((fun h => h1 ((hc 46 (by decide)).1 h))) ?_;exact hr
theorem numI_ends (hb : Bs b) (_hq : q ≤ b.length) : NumEnds b (Js.numInt b q) fr d B (fun k => numI k b fr q d 0 B) := by
 have hl := hb.2;unfold Js.numInt
 cases hn : b[q]? with
 | none =>
  refine ⟨(q : Int), d, 11, (b.length : Int), n11, ?_⟩;unfold numI;refine evB (peek_end hn) ?_;refine evBF m48 ?_;exact Ev.bind (digits_bad n11) (numD_bad n11)
 | some c =>
  have hlt := lt_of hn;simp only;by_cases h1 : (c == 48) = true
  ·rw [if_pos h1]
   refine NumEnds.map (numD_ends hb (q := q + 1) (by omega)) (fun hr => ?_);unfold numI;refine evB (peek_ok hb hn) ?_;refine evBT (h1) ?_;refine evB (o := some (wrap64 ((q : Int) + 1), d, (0 : Int), B)) rfl ?_;rw [w64n (by omega)];exact hr
  ·rw [if_neg h1]
   have step : ∀ {r}, Ev (fun k => (RRq_digits.f k b (q : Int) d 0 B).bind fun v => numD k b fr v.1 v.2.1 v.2.2.1 v.2.2.2) r → Ev (fun k => numI k b fr q d 0 B) r := by
    intro r hr;unfold numI;refine evB (peek_ok hb hn) ?_;refine evBF (h1) ?_;exact hr
   refine NumEnds.map (digs hb (g := fun k v => numD k b fr v.1 v.2.1 v.2.2.1 v.2.2.2) (fun y e h => by rw [h]) (fun u r h => ?_) (fun _ _ _ _ he => numD_bad he)) step;rw [h];exact numD_ends hb (Js.digits_le h).2
theorem number_ends (hb : Bs b) (hp : p ≤ b.length) : NumEnds b (Js.number b p) p d B (fun k => numF k b p d 0 B) := by
 have hl := hb.2;obtain ⟨c, hs, hc⟩ := see_next (q := p) (d := d) (B := B) hb;unfold Js.number;by_cases h1 : Js.next b p 45 = true
 ·rw [if_pos h1]
  have hlt := Js.next_lt h1;refine NumEnds.map (numI_ends hb (q := p + 1) (by omega)) (fun hr => ?_);unfold numF;refine evB hs ?_
  dsimp only
  rw [if_pos ((hc 45 (by decide)).2 h1)]
  show Ev (fun k => numI k b p (wrap64 ((p : Int) + 1)) d 0 B) _
  rw [w64n (by omega)];exact hr
 ·rw [if_neg h1]
  refine NumEnds.map (numI_ends hb hp) (fun hr => ?_);unfold numF;refine evB hs ?_
  dsimp only
  rw [if_neg (fun h => h1 ((hc 45 (by decide)).1 h))];exact hr
end Go.Proofs.YteighppcdpaekaaDoor.Rf
end
section
namespace Go.Proofs.YteighppcdpaekaaDoor.Rf
open Go.RowKit Go.Proofs.YteighppcdpaekaaDoorW.PrintWords Go.Proofs.YteighppcdpaekaaDoor Go.Proofs.YteighppcdpaekaaDoor.P
mutual
def toR : Js.Val → S44
 | .mk k t ks l => ⟨k, strOfNums t, ks.map strOfNums, toRs l⟩
def toRs : List Js.Val → List S44
 | [] => []
 | v :: r => toR v :: toRs r
end
theorem toRs_map (l : List Js.Val) : toRs l = l.map toR := by
 induction l with
 | nil => rfl
 | cons v r ih => simp [toRs, ih]
theorem toR_mk (k : Int) (t : List Int) (ks : List (List Int)) (l : List Js.Val) : toR (.mk k t ks l) = ⟨k, strOfNums t, ks.map strOfNums, l.map toR⟩ := by rw [toR, toRs_map]
def EvI {α : Type} (g : Nat → Nat → Option α) (r : α) : Prop := ∃ K, ∀ k, K ≤ k → ∀ c, K ≤ c → g k c = some r
theorem EvI.both {α : Type} {g : Nat → Nat → Option α} {r : α} (h : EvI g r) : Ev (fun k => g k k) r := by
 obtain ⟨K, h⟩ := h;exact ⟨K, fun k hk => h k hk k hk⟩
variable {b : List Int} {p q : Nat} {B : Int}
theorem items_stop {V : Int → Int → Int → Int → Option RVal} {k c : Nat} {l : List S44} {m : Bool} {a d e B : Int} (h : (m && e == 0) = false) : itemsF V k b (c + 1) l m a d e B = some (⟨5, ⟨#[]⟩, [], l⟩, a, d, e, B) := by
 rw [itemsF, if_neg (by rw [h]; decide)]
theorem items_go {V : Int → Int → Int → Int → Option RVal} {k c : Nat} {l : List S44} {m : Bool} {a d B a1 d1 e1 B1 a2 d2 e2 B2 : Int} {x : S44} {r : RVal} (h1 : V a d 0 B = some (x, a1, d1, e1, B1)) (hl : l.length < 1000000)
  (h2 : RRq_more.f k b a1 d1 e1 B1 93 = some (m, a2, d2, e2, B2)) (h3 : itemsF V k b c (l ++ [x]) m a2 d2 e2 B2 = some r) : itemsF V k b (c + 1) l true a d 0 B = some r := by
 rw [itemsF, if_pos (by rfl), h1]
 show (if l.length < 1000000 then _ else _) = _
 rw [if_pos hl]
 show (RRq_more.f k b a1 d1 e1 B1 93).bind _ = _
 rw [h2];exact h3
theorem pairs_stop {V : Int → Int → Int → Int → Option RVal} {k c : Nat} {ks : List ByteArray} {l : List S44} {m : Bool} {a d e B : Int} (h : (m && e == 0) = false) : pairsF V k b (c + 1) ks l m a d e B = some (⟨6, ⟨#[]⟩, ks, l⟩, a, d, e, B) := by
 rw [pairsF, if_neg (by rw [h]; decide)]
theorem pairs_go {V : Int → Int → Int → Int → Option RVal} {k c : Nat} {ks : List ByteArray} {l : List S44} {m : Bool} {a d B a1 d1 e1 B1 a2 d2 e2 B2 : Int} {key : ByteArray} {x : S44} {r : RVal} (h1 : pairF V k b ks a d 0 B = some (key, x, a1, d1, e1, B1)) (hl : l.length < 1000000 ∧ ks.length < 1000000)
  (h2 : RRq_more.f k b a1 d1 e1 B1 125 = some (m, a2, d2, e2, B2)) (h3 : pairsF V k b c (ks ++ [key]) (l ++ [x]) m a2 d2 e2 B2 = some r) : pairsF V k b (c + 1) ks l true a d 0 B = some r := by
 rw [pairsF, if_pos (by rfl), h1]
 show (if l.length < 1000000 ∧ ks.length < 1000000 then _ else _) = _
 rw [if_pos hl]
 show (RRq_more.f k b a1 d1 e1 B1 125).bind _ = _
 rw [h2];exact h3
theorem EvI.items {l : List S44} {m : Bool} {a d B a1 d1 e1 B1 a2 d2 e2 B2 : Int} {x : S44} {r : RVal} (h1 : Ev (fun k => valF b k a d 0 B) (x, a1, d1, e1, B1)) (hl : l.length < 1000000)
  (h2 : Ev (fun k => RRq_more.f k b a1 d1 e1 B1 93) (m, a2, d2, e2, B2)) (h3 : EvI (fun k c => itemsF (valF b k) k b c (l ++ [x]) m a2 d2 e2 B2) r) : EvI (fun k c => itemsF (valF b k) k b c l true a d 0 B) r := by
 obtain ⟨K1, h1⟩ := h1;obtain ⟨K2, h2⟩ := h2;obtain ⟨K3, h3⟩ := h3;refine ⟨K1 + K2 + K3 + 1, fun k hk c hc => ?_⟩
 obtain ⟨c, rfl⟩ : ∃ c', c = c' + 1 := ⟨c - 1, by omega⟩
 exact items_go (h1 k (by omega)) hl (h2 k (by omega)) (h3 k (by omega) c (by omega))
theorem EvI.items_stop {l : List S44} {m : Bool} {a d e B : Int} (h : (m && e == 0) = false) : EvI (fun k c => itemsF (valF b k) k b c l m a d e B) (⟨5, ⟨#[]⟩, [], l⟩, a, d, e, B) := by
 refine ⟨1, fun k hk c hc => ?_⟩
 obtain ⟨c, rfl⟩ : ∃ c', c = c' + 1 := ⟨c - 1, by omega⟩
 exact Rf.items_stop h
theorem EvI.pairs {ks : List ByteArray} {l : List S44} {m : Bool} {a d B a1 d1 e1 B1 a2 d2 e2 B2 : Int} {key : ByteArray} {x : S44} {r : RVal} (h1 : Ev (fun k => pairF (valF b k) k b ks a d 0 B) (key, x, a1, d1, e1, B1)) (hl : l.length < 1000000 ∧ ks.length < 1000000)
  (h2 : Ev (fun k => RRq_more.f k b a1 d1 e1 B1 125) (m, a2, d2, e2, B2)) (h3 : EvI (fun k c => pairsF (valF b k) k b c (ks ++ [key]) (l ++ [x]) m a2 d2 e2 B2) r) : EvI (fun k c => pairsF (valF b k) k b c ks l true a d 0 B) r := by
 obtain ⟨K1, h1⟩ := h1;obtain ⟨K2, h2⟩ := h2;obtain ⟨K3, h3⟩ := h3;refine ⟨K1 + K2 + K3 + 1, fun k hk c hc => ?_⟩
 obtain ⟨c, rfl⟩ : ∃ c', c = c' + 1 := ⟨c - 1, by omega⟩
 exact pairs_go (h1 k (by omega)) hl (h2 k (by omega)) (h3 k (by omega) c (by omega))
theorem EvI.pairs_stop {ks : List ByteArray} {l : List S44} {m : Bool} {a d e B : Int} (h : (m && e == 0) = false) : EvI (fun k c => pairsF (valF b k) k b c ks l m a d e B) (⟨6, ⟨#[]⟩, ks, l⟩, a, d, e, B) := by
 refine ⟨1, fun k hk c hc => ?_⟩
 obtain ⟨c, rfl⟩ : ∃ c', c = c' + 1 := ⟨c - 1, by omega⟩
 exact Rf.pairs_stop h
theorem dup_bad (key : ByteArray) (fr : Int) {e : Int} (he : e ≠ 0) (a d B : Int) : ∀ ks, dupF ks key fr a d e B = some (a, d, e, B)
 | [] => rfl
 | x :: r => by
  by_cases hx : x = key
  ·simp only [dupF, if_pos hx, if_neg he]
   exact dup_bad key fr he a d B r
  ·simp only [dupF, if_neg hx]
   exact dup_bad key fr he a d B r
theorem dup_none {key : ByteArray} (fr a d B : Int) : ∀ ks : List ByteArray, key ∉ ks → dupF ks key fr a d 0 B = some (a, d, 0, B)
 | [], _ => rfl
 | x :: r, h => by
  simp only [dupF];rw [if_neg (fun e => h (by simp [e]))];exact dup_none fr a d B r (fun hh => h (by simp [hh]))
theorem dup_some {key : ByteArray} (fr a d B : Int) : ∀ ks : List ByteArray, key ∈ ks → dupF ks key fr a d 0 B = some (a, d, 23, fr)
 | [], h => by simp at h
 | x :: r, h => by
  simp only [dupF];by_cases hx : x = key
  ·rw [if_pos hx, if_pos trivial]
   exact dup_bad key fr n23 a d fr r
  ·rw [if_neg hx]
   exact dup_some fr a d B r (by
    rcases List.mem_cons.1 h with e | e
    ·exact absurd e.symm hx
    ·exact e)
theorem val_bad {a d e B : Int} (he : e ≠ 0) : Ev (fun k => valF b k a d e B) (⟨0, ⟨#[]⟩, [], []⟩, a, d, e, B) := by
 refine Ev.step (f := fun _ => some (⟨0, ⟨#[]⟩, [], []⟩, a, d, e, B)) (fun k => ?_) (Ev.now _);rw [valF, peek_bad he]
 show (if (e != 0) = true then _ else _) = _
 rw [if_pos (by simpa using he)]
theorem pair_bad {ks : List ByteArray} {a d B a1 d1 e1 B1 : Int} {key : ByteArray} (ht : Ev (fun k => RRq_text.f k b a d 0 B) (key, a1, d1, e1, B1)) (he : e1 ≠ 0) : Ev (fun k => pairF (valF b k) k b ks a d 0 B) (key, ⟨0, ⟨#[]⟩, [], []⟩, a1, d1, e1, B1) :=
 Ev.bind ht (evB (dup_bad _ _ he _ _ _ _) (Ev.bind (blank_bad he) (Ev.bind (must_bad he) (Ev.bind (blank_bad he) (Ev.bind (val_bad he) (Ev.now _))))))
def VEnds (o : Js.Out Js.Val) (d B : Int) (g : Nat → Option RVal) : Prop := match o with
 | .ok v q => Ev g (toR v, (q : Int), d, 0, B)
 | .no _ _ => ∃ x a d' e B', e ≠ 0 ∧ Ev g (x, a, d', e, B')
def IEnds (o : Js.Out Js.Val) (d B : Int) (g : Nat → Nat → Option RVal) : Prop := match o with
 | .ok v q => EvI g (toR v, (q : Int), d, 0, B)
 | .no _ _ => ∃ x a d' e B', e ≠ 0 ∧ EvI g (x, a, d', e, B')
theorem IEnds.both {o : Js.Out Js.Val} {d B : Int} {g : Nat → Nat → Option RVal} (h : IEnds o d B g) : VEnds o d B (fun k => g k k) := by
 cases o with
 | ok v q => exact EvI.both h
 | no y e => obtain ⟨x, a, d', e', B', he, h⟩ := h; exact ⟨x, a, d', e', B', he, h.both⟩
theorem VEnds.map {o : Js.Out Js.Val} {d B : Int} {g g' : Nat → Option RVal} (h : VEnds o d B g) (hg : ∀ {r}, Ev g r → Ev g' r) : VEnds o d B g' := by
 cases o with
 | ok v q => exact hg h
 | no y e => obtain ⟨x, a, d', e', B', he, h⟩ := h; exact ⟨x, a, d', e', B', he, hg h⟩
theorem IEnds.map {o : Js.Out Js.Val} {d B : Int} {g g' : Nat → Nat → Option RVal} (h : IEnds o d B g) (hg : ∀ {r}, EvI g r → EvI g' r) : IEnds o d B g' := by
 cases o with
 | ok v q => exact hg h
 | no y e => obtain ⟨x, a, d', e', B', he, h⟩ := h; exact ⟨x, a, d', e', B', he, hg h⟩
theorem arr_ends (hb : Bs b) {j d : Nat} (hp : p < b.length) (hd : d ≤ 64) {o : Js.Out Js.Val} (ho : Js.arr b j d p = some o)
  (ih : ∀ q o, Js.items b j (d + 1) [] q = some o → q ≤ b.length → 0 < q → d + 1 ≤ 64 → IEnds o d B (fun k c => itemsF (valF b k) k b c [] true q ((d : Int) + 1) 0 B)) :
  VEnds o d B (fun k => arrF (valF b k) k b p d 0 B) := by
 unfold Js.arr at ho;by_cases hde : 64 < d + 1
 ·obtain rfl : Js.Out.no p 13 = o := by simpa [Js.enter, hde] using ho
  refine ⟨⟨5, ⟨#[]⟩, [], []⟩, (p : Int), (d : Int) + 1, 13, (p : Int), n13, ?_⟩;unfold arrF;refine Ev.congr (f := fun _ => some (⟨5, ⟨#[]⟩, [], []⟩, (p : Int), (d : Int) + 1, 13, (p : Int))) (fun k => ?_) (Ev.now _);rw [(enter_deep (b := b) (cl := 93) (a := p) (B := B) (d := d) (by omega) (by omega)).2 k]
  rfl
 ·have hen := enter_ends (d := d) (B := B) hb hp (cl := 93) (by omega) (by omega)
  have hq := Js.blank_le (b := b) (p := p + 1) (by omega);rw [show Js.enter b d p = .ok () (Js.blank b (p + 1)) by simp [Js.enter, hde]] at ho;simp only at ho;generalize Js.blank b (p + 1) = q at hen hq ho
  cases hx : b[q]? with
  | none =>
   rw [hx] at ho hen;obtain rfl : Js.Out.no q 11 = o := Option.some.inj ho;obtain ⟨a, e, B', he, hen⟩ := hen;exact ⟨⟨5, ⟨#[]⟩, [], []⟩, a, (d : Int) + 1, e, B', he, Ev.bind hen (evT rfl (Ev.now _))⟩
  | some c =>
   rw [hx] at ho hen;simp only at ho hen;by_cases hc : c = 93
   ·rw [if_pos (by simpa using hc)] at ho
    rw [if_pos hc] at hen;obtain rfl := Option.some.inj ho;exact Ev.bind hen (evT rfl (Ev.now _))
   ·rw [if_neg (by simpa using hc)] at ho
    rw [if_neg hc] at hen;refine VEnds.map (ih q o ho hq.2 (by omega) (by omega)).both (fun hr => ?_);exact Ev.bind hen (evF (by show ¬ (false = true); decide) hr)
theorem obj_ends (hb : Bs b) {j d : Nat} (hp : p < b.length) (hd : d ≤ 64) {o : Js.Out Js.Val} (ho : Js.obj b j d p = some o)
  (ih : ∀ q o, Js.pairs b j (d + 1) [] [] q = some o → q ≤ b.length → 0 < q → d + 1 ≤ 64 → IEnds o d B (fun k c => pairsF (valF b k) k b c [] [] true q ((d : Int) + 1) 0 B)) :
  VEnds o d B (fun k => objF (valF b k) k b p d 0 B) := by
 unfold Js.obj at ho;by_cases hde : 64 < d + 1
 ·obtain rfl : Js.Out.no p 13 = o := by simpa [Js.enter, hde] using ho
  refine ⟨⟨6, ⟨#[]⟩, [], []⟩, (p : Int), (d : Int) + 1, 13, (p : Int), n13, ?_⟩;unfold objF;refine Ev.congr (f := fun _ => some (⟨6, ⟨#[]⟩, [], []⟩, (p : Int), (d : Int) + 1, 13, (p : Int))) (fun k => ?_) (Ev.now _);rw [(enter_deep (b := b) (cl := 125) (a := p) (B := B) (d := d) (by omega) (by omega)).2 k]
  rfl
 ·have hen := enter_ends (d := d) (B := B) hb hp (cl := 125) (by omega) (by omega)
  have hq := Js.blank_le (b := b) (p := p + 1) (by omega);rw [show Js.enter b d p = .ok () (Js.blank b (p + 1)) by simp [Js.enter, hde]] at ho;simp only at ho;generalize Js.blank b (p + 1) = q at hen hq ho
  cases hx : b[q]? with
  | none =>
   rw [hx] at ho hen;obtain rfl : Js.Out.no q 11 = o := Option.some.inj ho;obtain ⟨a, e, B', he, hen⟩ := hen;exact ⟨⟨6, ⟨#[]⟩, [], []⟩, a, (d : Int) + 1, e, B', he, Ev.bind hen (evT rfl (Ev.now _))⟩
  | some c =>
   rw [hx] at ho hen;simp only at ho hen;by_cases hc : c = 125
   ·rw [if_pos (by simpa using hc)] at ho
    rw [if_pos hc] at hen;obtain rfl := Option.some.inj ho;exact Ev.bind hen (evT rfl (Ev.now _))
   ·rw [if_neg (by simpa using hc)] at ho
    rw [if_neg hc] at hen;refine VEnds.map (ih q o ho hq.2 (by omega) (by omega)).both (fun hr => ?_);exact Ev.bind hen (evF (by show ¬ (false = true); decide) hr)
def ValE (b : List Int) (j : Nat) : Prop := ∀ (p d : Nat) (B : Int) (o : Js.Out Js.Val), p ≤ b.length → d ≤ 64 → Js.value b j d p = some o → VEnds o d B (fun k => valF b k p d 0 B)
def ItemsE (b : List Int) (j : Nat) : Prop := ∀ (p d : Nat) (B : Int) (l : List Js.Val) (o : Js.Out Js.Val), p ≤ b.length → l.length < p → d + 1 ≤ 64 → Js.items b j (d + 1) l p = some o → IEnds o d B (fun k c => itemsF (valF b k) k b c (l.map toR) true p ((d : Int) + 1) 0 B)
def PairsE (b : List Int) (j : Nat) : Prop := ∀ (p d : Nat) (B : Int) (ks : List (List Int)) (l : List Js.Val) (o : Js.Out Js.Val), p ≤ b.length → l.length < p → ks.length < p → (∀ k ∈ ks, ∀ x ∈ k, 0 ≤ x ∧ x ≤ 255) → d + 1 ≤ 64 → Js.pairs b j (d + 1) ks l p = some o → IEnds o d B (fun k c => pairsF (valF b k) k b c (ks.map strOfNums) (l.map toR) true p ((d : Int) + 1) 0 B)
theorem items_step (hb : Bs b) {j : Nat} (hV : ValE b j) (hI : ItemsE b j) : ItemsE b (j + 1) := by
 intro p d B l o hp hl hd h;have hlen := hb.2
 have hl2 : (l.map toR).length < 1000000 := by rw [List.length_map]; omega
 cases hv : Js.value b j (d + 1) p with
 | none => exact absurd h (by simp [Js.items, hv])
 | some ov =>
  have hE := hV p (d + 1) B ov hp hd hv
  cases ov with
  | no y e =>
   obtain rfl : Js.Out.no y e = o := by simpa [Js.items, hv] using h
   obtain ⟨x, a, d', e', B', he, hE⟩ := hE;refine ⟨_, a, d', e', B', he, EvI.items hE hl2 (more_bad he) (EvI.items_stop (m := false) (by rfl))⟩
  | ok v r =>
   have hvl := Js.value_le hv;have hm := more_ends (d := (d : Int) + 1) (B := B) hb hvl.2 (cl := 93) (by omega) (by omega)
   have h2 : some o = match Js.comma b 93 r with
     | .no x e => some (.no x e)
     | .ok true q => Js.items b j (d + 1) (l ++ [v]) q
     | .ok false q => some (.ok (.mk 5 [] [] (l ++ [v])) q) := by rw [← h]; simp only [Js.items, hv]; rfl
   have hE : Ev (fun k => valF b k p ((d : Int) + 1) 0 B) (toR v, (r : Int), (d : Int) + 1, 0, B) := hE
   cases hcm : Js.comma b 93 r with
   | no y e =>
    rw [hcm] at h2 hm;obtain rfl := Option.some.inj h2;obtain ⟨a, e', B', he, hm⟩ := hm;exact ⟨_, a, (d : Int) + 1, e', B', he, EvI.items hE hl2 hm (EvI.items_stop (m := false) (by rfl))⟩
   | ok t q =>
    have hcl := Js.comma_le hvl.2 hcm;rw [hcm] at h2 hm
    cases t with
    | true =>
     simp only at h2 hm;rw [if_pos trivial] at hm;have := hI q d B (l ++ [v]) o hcl.2 (by simp; omega) hd h2.symm;refine IEnds.map this (fun hr => EvI.items hE hl2 hm ?_);rw [List.map_append] at hr;exact hr
    | false =>
     simp only at h2 hm;obtain rfl := Option.some.inj h2;rw [if_neg (by decide)] at hm;have hst := EvI.items_stop (b := b) (l := l.map toR ++ [toR v]) (m := false) (a := q) (d := (d : Int) + 1 - 1) (e := 0) (B := B) (by rfl);have := EvI.items hE hl2 hm hst
     show EvI _ _
     rw [toR_mk, List.map_append];rw [show (d : Int) + 1 - 1 = d by omega] at this;exact this
theorem pairs_step (hb : Bs b) {j : Nat} (hV : ValE b j) (hP : PairsE b j) : PairsE b (j + 1) := by
 intro p d B ks l o hp hl hk hks hd h;have hlen := hb.2
 have hl2 : (l.map toR).length < 1000000 ∧ (ks.map strOfNums).length < 1000000 := by rw [List.length_map, List.length_map]; omega
 cases ht : Js.text b j p with
 | none => exact absurd h (by simp [Js.pairs, ht])
 | some ot =>
  have hT := text_ends (d := (d : Int) + 1) (B := B) hb ht
  have wrong : ∀ {key x a d' e' B'}, e' ≠ 0 → Ev (fun k => pairF (valF b k) k b (ks.map strOfNums) p ((d : Int) + 1) 0 B) (key, x, a, d', e', B') → IEnds (.no 0 0) d B (fun k c => pairsF (valF b k) k b c (ks.map strOfNums) (l.map toR) true p ((d : Int) + 1) 0 B) := fun he hp => ⟨_, _, _, _, _, he, EvI.pairs hp hl2 (more_bad he) (EvI.pairs_stop (m := false) (by rfl))⟩
  cases ot with
  | no y e =>
   obtain rfl : Js.Out.no y e = o := by simpa [Js.pairs, ht] using h
   obtain ⟨u, a, e', B', he, hT⟩ := hT;exact wrong he (pair_bad hT he)
  | ok key q =>
   have htl := Js.text_le ht;have hkb := (Js.text_bytes hb.1 ht).1;have hT : Ev (fun k => RRq_text.f k b p ((d : Int) + 1) 0 B) (strOfNums key, (q : Int), (d : Int) + 1, 0, B) := hT
   have h2 : some o = if ks.contains key then some (.no p 23) else match b[Js.blank b q]? with
     | none => some (.no (Js.blank b q) 11)
     | some c => if c == 58 then match Js.value b j (d + 1) (Js.blank b (Js.blank b q + 1)) with
       | none => none
       | some (.no x e) => some (.no x e)
       | some (.ok v q) => match Js.comma b 125 q with
        | .no x e => some (.no x e)
        | .ok true q => Js.pairs b j (d + 1) (ks ++ [key]) (l ++ [v]) q
        | .ok false q => some (.ok (.mk 6 [] (ks ++ [key]) (l ++ [v])) q)
      else some (.no (Js.blank b q) 6) := by rw [← h]; simp only [Js.pairs, ht]; rfl
   clear h;by_cases hin : ks.contains key = true
   ·rw [if_pos hin] at h2
    obtain rfl := Option.some.inj h2;have hin' : strOfNums key ∈ ks.map strOfNums := List.mem_map_of_mem (by simpa using hin);exact wrong n23 (Ev.bind hT (evB (dup_some _ _ _ _ _ hin') (Ev.bind (blank_bad n23) (Ev.bind (must_bad n23) (Ev.bind (blank_bad n23) (Ev.bind (val_bad n23) (Ev.now _)))))))
   ·rw [if_neg hin] at h2
    have hin' : strOfNums key ∉ ks.map strOfNums := by
     intro hc;obtain ⟨k2, hk2, he⟩ := List.mem_map.1 hc;have := Rd.strOfNums_inj (hks k2 hk2) hkb he
     apply hin
     rw [← this]
     simpa using hk2
    have hbl := Js.blank_le (b := b) (p := q) htl.2;have hB1 := blank_ok (d := (d : Int) + 1) (B := B) hb htl.2;generalize Js.blank b q = q2 at h2 hbl hB1
    cases hx : b[q2]? with
    | none =>
     rw [hx] at h2;obtain rfl := Option.some.inj h2;exact wrong n11 (Ev.bind hT (evB (dup_none _ _ _ _ _ hin') (Ev.bind hB1 (Ev.bind (must_end hx) (Ev.bind (blank_bad n11) (Ev.bind (val_bad n11) (Ev.now _)))))))
    | some c =>
     rw [hx] at h2;simp only at h2;have hlt := lt_of hx;by_cases hc : c = 58
     ·subst hc
      rw [if_pos (by rfl)] at h2;have hbl3 := Js.blank_le (b := b) (p := q2 + 1) (by omega);have hB2 := blank_ok (d := (d : Int) + 1) (B := B) (p := q2 + 1) hb (by omega);generalize Js.blank b (q2 + 1) = q3 at h2 hbl3 hB2
      cases hv : Js.value b j (d + 1) q3 with
      | none => rw [hv] at h2; simp at h2
      | some ov =>
       have hE := hV q3 (d + 1) B ov hbl3.2 hd hv;rw [hv] at h2
       have pairE : ∀ {x a d' e' B'}, Ev (fun k => valF b k q3 ((d : Int) + 1) 0 B) (x, a, d', e', B') → Ev (fun k => pairF (valF b k) k b (ks.map strOfNums) p ((d : Int) + 1) 0 B) (strOfNums key, x, a, d', e', B') := fun hv =>
        Ev.bind hT (evB (dup_none _ _ _ _ _ hin') (Ev.bind hB1 (Ev.bind (must_ok hb hx) (Ev.bind hB2 (Ev.bind hv (Ev.now _))))))
       cases ov with
       | no y e =>
        obtain rfl := Option.some.inj h2;obtain ⟨x, a, d', e', B', he, hE⟩ := hE;exact wrong he (pairE hE)
       | ok v r =>
        have hvl := Js.value_le hv;simp only at h2;have hP1 := pairE (show Ev _ (toR v, (r : Int), (d : Int) + 1, 0, B) from hE);have hm := more_ends (d := (d : Int) + 1) (B := B) hb hvl.2 (cl := 125) (by omega) (by omega)
        cases hcm : Js.comma b 125 r with
        | no y e =>
         rw [hcm] at h2 hm;obtain rfl := Option.some.inj h2;obtain ⟨a, e', B', he, hm⟩ := hm;exact ⟨_, a, (d : Int) + 1, e', B', he, EvI.pairs hP1 hl2 hm (EvI.pairs_stop (m := false) (by rfl))⟩
        | ok t q4 =>
         have hcl := Js.comma_le hvl.2 hcm;rw [hcm] at h2 hm
         cases t with
         | true =>
          simp only at h2 hm;rw [if_pos trivial] at hm
          have := hP q4 d B (ks ++ [key]) (l ++ [v]) o hcl.2 (by simp; omega) (by simp; omega) (fun k hk => by
           rcases List.mem_append.1 hk with hk | hk
           ·exact hks k hk
           ·simp at hk
            subst hk
            exact hkb) hd h2.symm
          refine IEnds.map this (fun hr => EvI.pairs hP1 hl2 hm ?_);rw [List.map_append, List.map_append] at hr;exact hr
         | false =>
          simp only at h2 hm;obtain rfl := Option.some.inj h2;rw [if_neg (by decide)] at hm;have hst := EvI.pairs_stop (b := b) (ks := ks.map strOfNums ++ [strOfNums key]) (l := l.map toR ++ [toR v]) (m := false) (a := q4) (d := (d : Int) + 1 - 1) (e := 0) (B := B) (by rfl);have := EvI.pairs hP1 hl2 hm hst
          show EvI _ _
          rw [toR_mk, List.map_append, List.map_append];rw [show (d : Int) + 1 - 1 = d by omega] at this;exact this
     ·rw [if_neg (by simpa using hc)] at h2
      obtain rfl := Option.some.inj h2;exact wrong n6 (Ev.bind hT (evB (dup_none _ _ _ _ _ hin') (Ev.bind hB1 (Ev.bind (must_no hb hx hc) (Ev.bind (blank_bad n6) (Ev.bind (val_bad n6) (Ev.now _)))))))
def wT : ByteArray := ⟨#[116, 114, 117, 101]⟩
def wF : ByteArray := ⟨#[102, 97, 108, 115, 101]⟩
def wN : ByteArray := ⟨#[110, 117, 108, 108]⟩
theorem wT_at : ∀ j (h : j < [116, 114, 117, 101].length), bt wT ((0 + j : Nat) : Int) = ([116, 114, 117, 101] : List Int)[j] := by decide
theorem wF_at : ∀ j (h : j < [102, 97, 108, 115, 101].length), bt wF ((0 + j : Nat) : Int) = ([102, 97, 108, 115, 101] : List Int)[j] := by decide
theorem wN_at : ∀ j (h : j < [110, 117, 108, 108].length), bt wN ((0 + j : Nat) : Int) = ([110, 117, 108, 108] : List Int)[j] := by decide
theorem word_ends (hb : Bs b) (s : ByteArray) (ws : List Int) (kd : Int) {d : Int} (hs : s.size ≤ 1000) (hl : ws.length = s.size) (hw : ∀ j (h : j < ws.length), bt s ((0 + j : Nat) : Int) = ws[j]) (hp : p ≤ b.length) :
  VEnds (Js.wordV kd (Js.word b ws p)) d B (fun k => (RRq_word.f k b p d 0 B s kd).map ofNum) := by
 have h := word_loop (d := d) (B := B) hb s kd hs ws 0 p (by omega) hw hp
 have mp : ∀ {r : NumOut}, Ev (fun k => RRq_word.l0 k s kd ((0 : Nat) : Int) b p d 0 B) r → Ev (fun k => (RRq_word.f k b p d 0 B s kd).map ofNum) (ofNum r) := by
  rintro r ⟨K, h⟩;refine ⟨K, fun k hk => ?_⟩
  show Option.map ofNum (RRq_word.l0 k s kd 0 b p d 0 B) = _
  rw [show RRq_word.l0 k s kd 0 b p d 0 B = some r from h k hk]
  rfl
 cases ho : Js.word b ws p with
 | ok u q => rw [ho] at h; exact mp h
 | no y e => rw [ho] at h; obtain ⟨a, e', B', he, h⟩ := h; exact ⟨_, a, d, e', B', he, mp h⟩
theorem val_step (hb : Bs b) {j : Nat} (hI : ItemsE b j) (hP : PairsE b j) : ValE b (j + 1) := by
 intro p d B o hp hd h;rw [Js.value_succ] at h
 cases hx : b[p]? with
 | none =>
  rw [hx] at h;obtain rfl : Js.Out.no p 11 = o := Option.some.inj h;refine ⟨⟨0, ⟨#[]⟩, [], []⟩, (p : Int), (d : Int), 11, (b.length : Int), n11, ?_⟩;refine Ev.step (f := fun _ => some (⟨0, ⟨#[]⟩, [], []⟩, (p : Int), (d : Int), 11, (b.length : Int))) (fun k => ?_) (Ev.now _);rw [valF, peek_end hx]
  rfl
 | some c =>
  have hlt := lt_of hx;rw [hx] at h;simp only at h
  have on : ∀ {f : Nat → Option RVal} {r}, (∀ k, (if (c == 123) = true then objF (valF b k) k b p d 0 B
    else if (c == 91) = true then arrF (valF b k) k b p d 0 B
    else if (c == 34) = true then (RRq_text.f k b p d 0 B).bind fun u => some (⟨4, u.1, [], []⟩, u.2)
    else if (c == 116) = true then (RRq_word.f k b p d 0 B wT 2).map ofNum
    else if (c == 102) = true then (RRq_word.f k b p d 0 B wF 1).map ofNum
    else if (c == 110) = true then (RRq_word.f k b p d 0 B wN 0).map ofNum
    else (numF k b p d 0 B).map ofNum) = f k) → Ev f r → Ev (fun k => valF b k p d 0 B) r := by
   intro f r hf hr;refine Ev.step (f := f) (fun k => ?_) hr;rw [valF, peek_ok hb hx, ← hf k]
   rfl
  by_cases h1 : (c == 123) = true
  ·rw [if_pos h1] at h
   exact VEnds.map (obj_ends hb hlt hd h (fun q o h hq h0 hd => hP q d B [] [] o hq h0 h0 (by simp) hd h)) (on (fun k => by rw [if_pos h1]))
  rw [if_neg h1] at h;by_cases h2 : (c == 91) = true
  ·rw [if_pos h2] at h
   exact VEnds.map (arr_ends hb hlt hd h (fun q o h hq h0 hd => hI q d B [] o hq h0 hd h)) (on (fun k => by rw [if_neg h1, if_pos h2]))
  rw [if_neg h2] at h;by_cases h3 : (c == 34) = true
  ·rw [if_pos h3] at h
   obtain ⟨ot, ht, rfl⟩ := Option.map_eq_some_iff.mp h;have hT := text_ends (d := (d : Int)) (B := B) hb ht;refine VEnds.map (g := fun k => (RRq_text.f k b p d 0 B).bind fun u => some (⟨4, u.1, [], []⟩, u.2)) ?_ (on (fun k => by rw [if_neg h1, if_neg h2, if_pos h3]))
   cases ot with
   | ok l q => exact Ev.bind (show Ev _ (strOfNums l, (q : Int), (d : Int), 0, B) from hT) (Ev.now _)
   | no y e => obtain ⟨u, a, e', B', he, hT⟩ := hT; exact ⟨_, a, (d : Int), e', B', he, Ev.bind hT (Ev.now _)⟩
  rw [if_neg h3] at h;by_cases h4 : (c == 116) = true
  ·rw [if_pos h4] at h
   obtain rfl := Option.some.inj h;exact VEnds.map (word_ends hb wT _ 2 (by decide) (by decide) wT_at hp) (on (fun k => by rw [if_neg h1, if_neg h2, if_neg h3, if_pos h4]))
  rw [if_neg h4] at h;by_cases h5 : (c == 102) = true
  ·rw [if_pos h5] at h
   obtain rfl := Option.some.inj h;exact VEnds.map (word_ends hb wF _ 1 (by decide) (by decide) wF_at hp) (on (fun k => by rw [if_neg h1, if_neg h2, if_neg h3, if_neg h4, if_pos h5]))
  rw [if_neg h5] at h;by_cases h6 : (c == 110) = true
  ·rw [if_pos h6] at h
   obtain rfl := Option.some.inj h;exact VEnds.map (word_ends hb wN _ 0 (by decide) (by decide) wN_at hp) (on (fun k => by rw [if_neg h1, if_neg h2, if_neg h3, if_neg h4, if_neg h5, if_pos h6]))
  rw [if_neg h6] at h;obtain rfl := Option.some.inj h;have hN := number_ends (d := (d : Int)) (B := B) hb hp;refine VEnds.map (g := fun k => (numF k b p d 0 B).map ofNum) ?_ (on (fun k => by rw [if_neg h1, if_neg h2, if_neg h3, if_neg h4, if_neg h5, if_neg h6]))
  have mp : ∀ {r : NumOut}, Ev (fun k => numF k b p d 0 B) r → Ev (fun k => (numF k b p d 0 B).map ofNum) (ofNum r) := by
   rintro r ⟨K, h⟩;refine ⟨K, fun k hk => ?_⟩
   show Option.map ofNum (numF k b p d 0 B) = _
   rw [show numF k b p d 0 B = some r from h k hk]
   rfl
  cases hn : Js.number b p with
  | ok u q =>
   have hle := Js.number_le hn;rw [hn] at hN;exact mp (hN hle.1 hle.2)
  | no y e =>
   rw [hn] at hN;obtain ⟨a, d', e', B', he, hN⟩ := hN;exact ⟨_, a, d', e', B', he, mp hN⟩
theorem ring_ends (hb : Bs b) : ∀ j, ValE b j ∧ ItemsE b j ∧ PairsE b j
 | 0 => ⟨fun p d B o _ _ h => by simp [Js.value] at h, fun p d B l o _ _ _ h => by simp [Js.items] at h, fun p d B ks l o _ _ _ _ _ h => by simp [Js.pairs] at h⟩
 | j + 1 => by
  obtain ⟨h1, h2, h3⟩ := ring_ends hb j;exact ⟨val_step hb h2 h3, items_step hb h1 h2, pairs_step hb h1 h3⟩
end Go.Proofs.YteighppcdpaekaaDoor.Rf
end
section
namespace Go.Proofs.YteighppcdpaekaaDoor.Rf
open Go.RowKit Go.Proofs.YteighppcdpaekaaDoorW.PrintWords Go.Proofs.YteighppcdpaekaaDoor Go.Proofs.YteighppcdpaekaaDoor.P
variable {b : List Int} {p : Nat}
theorem evX {α : Type} {c : Prop} [Decidable c] {A C : Nat → Option α} {Q : α → Prop} (h1 : c → ∃ r, Ev A r ∧ Q r) (h2 : ¬ c → ∃ r, Ev C r ∧ Q r) : ∃ r, Ev (fun k => if c then A k else C k) r ∧ Q r := by
 by_cases h : c
 ·obtain ⟨r, hr, hq⟩ := h1 h
  exact ⟨r, evT h hr, hq⟩
 ·obtain ⟨r, hr, hq⟩ := h2 h
  exact ⟨r, evF h hr, hq⟩
theorem evS {α : Type} {g f : Nat → Option α} {Q : α → Prop} (h : ∀ k, g (k + 1) = f k) (hr : ∃ r, Ev f r ∧ Q r) : ∃ r, Ev g r ∧ Q r := by
 obtain ⟨r, hr, hq⟩ := hr;exact ⟨r, Ev.step h hr, hq⟩
theorem encj_ends (a : Int) (x : Bool) : ∃ t, Ev (fun k => R3q_Encode.j0 k a x) t ∧ True := by
 refine evS (fun k => rfl) ?_;exact evX (fun _ => ⟨_, Ev.now _, trivial⟩) (fun _ => evX (fun _ => ⟨_, Ev.now _, trivial⟩) (fun _ => evX (fun _ => ⟨_, Ev.now _, trivial⟩) (fun _ => evX (fun _ => ⟨_, Ev.now _, trivial⟩) (fun _ => ⟨_, Ev.now _, trivial⟩))))
theorem enc_ends (a : Int) : ∃ t, Ev (fun k => R3q_Encode.f k a) t := by
 have : ∃ t, Ev (fun k => R3q_Encode.f k a) t ∧ True := by
  unfold R3q_Encode.f;exact evX (fun _ => encj_ends _ _) (fun _ => evX (fun _ => encj_ends _ _) (fun _ => evX (fun _ => encj_ends _ _) (fun _ => encj_ends _ _)))
 obtain ⟨t, h, _⟩ := this;exact ⟨t, h⟩
def OneQ (b : List Int) (p : Nat) (r : Int × Int) : Prop := r.2 = 0 ∨ ∃ n : Nat, r.2 = (n : Int) ∧ 1 ≤ n ∧ n ≤ 4 ∧ p + n ≤ b.length
theorem w64k {p n : Nat} (hp : p ≤ 1000000) (hn : n ≤ 10) : wrap64 ((p : Int) + (n : Int)) = ((p + n : Nat) : Int) := by unfold wrap64; omega
theorem onel1_ends (hl : b.length ≤ 1000000) (hp : p < b.length) {n : Nat} (hn : 1 ≤ n) (hn4 : n ≤ 4) (hpn : p + n ≤ b.length) (next : ∃ r, Ev (fun k => R3q_One.l0 k b p ((n + 1 : Nat) : Int)) r ∧ OneQ b p r) :
  ∀ (j i : Nat) (x : Int), i + j = n → 1 ≤ i → ∃ r, Ev (fun k => R3q_One.l1 k b p (n : Int) x (i : Int)) r ∧ OneQ b p r
 | 0, i, x, h, h1 => by
  obtain rfl : i = n := by omega
  refine evS (fun k => rfl) ?_;refine evX (fun hc => absurd hc (by omega)) (fun _ => ?_);obtain ⟨t, ht⟩ := enc_ends x;have hw : wrap64 ((p : Int) + (i : Int)) = ((p + i : Nat) : Int) := w64k (by omega) (by omega);have hw2 : wrap64 ((i : Int) + 1) = ((i + 1 : Nat) : Int) := w64n (by omega)
  have rest : ∃ r, Ev (fun k => if t.2 = 0 then (if 0 ≤ (p : Int) then (if (p : Int) ≤ (wrap64 ((p : Int) + (i : Int))) then (if (wrap64 ((p : Int) + (i : Int))) ≤ (b.length : Int) then (if (strOfNums t.1).toList = (strOfNums ((b.take ((wrap64 ((p : Int) + (i : Int))) : Int).toNat).drop (p : Int).toNat)).toList then (some (x, (i : Int))) else (R3q_One.l0 k b p (wrap64 ((i : Int) + 1)))) else (none)) else (none)) else (none)) else (R3q_One.l0 k b p (wrap64 ((i : Int) + 1)))) r ∧ OneQ b p r := by
   rw [hw, hw2];refine evX (fun _ => evX (fun _ => evX (fun _ => evX (fun _ => evX (fun _ => ⟨_, Ev.now _, .inr ⟨i, rfl, by omega, by omega, by omega⟩⟩) (fun _ => next)) (fun hc => absurd (by omega) hc)) (fun hc => absurd (by omega) hc)) (fun hc => absurd (by omega) hc)) (fun _ => next)
  obtain ⟨r, hr, hq⟩ := rest;exact ⟨r, Ev.bind ht hr, hq⟩
 | j + 1, i, x, h, h1 => by
  have hw : wrap64 ((p : Int) + (i : Int)) = ((p + i : Nat) : Int) := w64k (by omega) (by omega);have hw2 : wrap64 ((i : Int) + 1) = ((i + 1 : Nat) : Int) := w64n (by omega);refine evS (fun k => rfl) ?_;refine evX (fun _ => evX (fun _ => evX (fun _ => ?_) (fun hc => absurd (by rw [hw]; omega) hc)) (fun hc => absurd (by rw [hw]; omega) hc)) (fun hc => absurd (by omega) hc);rw [hw2];exact onel1_ends hl hp hn hn4 hpn next j (i + 1) _ (by omega) (by omega)
theorem one_ends (hl : b.length ≤ 1000000) (hp : p < b.length) : ∀ (j n : Nat), n + j = 5 → 1 ≤ n → ∃ r, Ev (fun k => R3q_One.l0 k b p (n : Int)) r ∧ OneQ b p r
 | 0, n, h, h1 => by
  refine evS (fun k => rfl) ?_;refine evX (fun hc => absurd hc (by omega)) (fun _ => evS (fun k => rfl) ?_);exact ⟨(-1, 0), ⟨0, fun _ _ => rfl⟩, .inl rfl⟩
 | j + 1, n, h, h1 => by
  have next := one_ends hl hp j (n + 1) (by omega) (by omega);have hw : wrap64 ((p : Int) + (n : Int)) = ((p + n : Nat) : Int) := w64k (by omega) (by omega);refine evS (fun k => rfl) ?_;refine evX (fun _ => ?_) (fun hc => absurd (by omega) hc);rw [hw];refine evS (fun k => rfl) ?_;refine evX (fun hc => ?_) (fun _ => ⟨_, Ev.now _, .inl rfl⟩)
  have hpn : p + n ≤ b.length := by have := of_decide_eq_true hc; omega
  have last : ∀ x, ∃ r, Ev (fun k => R3q_One.j4 k b p (n : Int) x) r ∧ OneQ b p r := fun x => evS (fun k => rfl) (onel1_ends hl hp h1 (by omega) hpn next (n - 1) 1 x (by omega) (by omega))
  have j3 : ∀ x, ∃ r, Ev (fun k => R3q_One.j3 k b p (n : Int) x) r ∧ OneQ b p r := fun x => evS (fun k => rfl) (evX (fun _ => last _) (fun _ => last _))
  have j2 : ∀ x, ∃ r, Ev (fun k => R3q_One.j2 k b p (n : Int) x) r ∧ OneQ b p r := fun x => evS (fun k => rfl) (evX (fun _ => j3 _) (fun _ => j3 _))
  exact evX (fun _ => evX (fun _ => evX (fun _ => j2 _) (fun _ => j2 _)) (fun hc => absurd (by omega) hc)) (fun hc => absurd (by omega) hc)
theorem letters_ends (hl : b.length ≤ 1000000) : ∀ (j p : Nat) (l : List S123), p + j ≥ b.length → p ≤ b.length → l.length ≤ p → ∃ r, Ev (fun k => R3q_Letters.l0 k b l (p : Int)) r ∧ r.length ≤ b.length
 | 0, p, l, h, hp, hle => by
  refine evS (fun k => rfl) ?_;exact evX (fun hc => absurd hc (by omega)) (fun _ => ⟨_, Ev.now _, by omega⟩)
 | j + 1, p, l, h, hp, hle => by
  refine evS (fun k => rfl) ?_;refine evX (fun hc => ?_) (fun _ => ⟨_, Ev.now _, by omega⟩)
  have hp' : p < b.length := by omega
  obtain ⟨t, ht, hq⟩ := one_ends hl hp' 4 1 (by omega) (by omega);have ht : Ev (fun k => R3q_One.f k b (p : Int)) t := ht
  have rest : ∃ r, Ev (fun k => if t.2 = 0 then (if l.length < 5864062014805 then (R3q_Letters.l0 k b (l ++ [(⟨(p : Int), (-1), 1⟩ : S123)]) (wrap64 ((p : Int) + 1))) else (none)) else (if l.length < 5864062014805 then (R3q_Letters.l0 k b (l ++ [(⟨(p : Int), t.1, t.2⟩ : S123)]) (wrap64 ((p : Int) + t.2))) else (none))) r ∧ r.length ≤ b.length := by
   refine evX (fun _ => evX (fun _ => ?_) (fun hc => absurd (by omega) hc)) (fun h0 => evX (fun _ => ?_) (fun hc => absurd (by omega) hc))
   ·rw [w64n (by omega)]
    exact letters_ends hl j (p + 1) _ (by omega) (by omega) (by simp; omega)
   ·rcases hq with hq | ⟨n, hn, h1, h4, hpn⟩
    ·exact absurd hq h0
    ·rw [hn, w64k (by omega) (by omega)]
     exact letters_ends hl j (p + n) _ (by omega) (by omega) (by simp; omega)
  obtain ⟨r, hr, hq⟩ := rest;exact ⟨r, Ev.bind ht hr, hq⟩
theorem validl_ends {l : List S123} (hl : l.length ≤ 1000000) : ∀ (j i : Nat), i + j = l.length → ∃ r, Ev (fun k => R3q_Valid.l0 k l (i : Int)) r ∧ True
 | 0, i, h => by
  refine evS (fun k => rfl) ?_;exact evX (fun hc => absurd hc (by omega)) (fun _ => ⟨_, Ev.now _, trivial⟩)
 | j + 1, i, h => by
  refine evS (fun k => rfl) ?_;refine evX (fun _ => evX (fun _ => evX (fun _ => ⟨_, Ev.now _, trivial⟩) (fun _ => ?_)) (fun hc => absurd (by omega) hc)) (fun _ => ⟨_, Ev.now _, trivial⟩);rw [w64n (by omega)];exact validl_ends hl j (i + 1) (by omega)
theorem valid_ends (hl : b.length ≤ 1000000) : ∃ t, Ev (fun k => R3q_Valid.f k b) t := by
 obtain ⟨l, h, hq⟩ := letters_ends hl b.length 0 [] (by omega) (by omega) (by simp);obtain ⟨t, ht, _⟩ := validl_ends (l := l) (by omega) l.length 0 (by omega);exact ⟨t, Ev.bind (show Ev (fun k => R3q_Letters.f k b) l from h) ht⟩
end Go.Proofs.YteighppcdpaekaaDoor.Rf
end
section
namespace Go.Proofs.YteighppcdpaekaaDoor.Js
theorem at_lt {b : List Int} {p : Nat} {c : Int} (h : b[p]? = some c) : p < b.length := (List.getElem?_eq_some_iff.1 h).1
theorem at_none {b : List Int} {p : Nat} (h : b.length ≤ p) : b[p]? = none := by simpa using h
theorem textTo_total (b : List Int) : ∀ (n p : Nat) (out : List Int), b.length - p ≤ n → ∃ o, textTo b (n + 1) out p = some o := by
 intro n
 induction n with
 | zero =>
  intro p out h;exact ⟨_, by rw [textTo, at_none (by omega)]⟩
 | succ n ih =>
  intro p out h
  cases hx : b[p]? with
  | none => exact ⟨_, by rw [textTo, hx]⟩
  | some c =>
   have hl := at_lt hx;rw [textTo];simp only [hx]
   split
   ·exact ⟨_, rfl⟩
   ·split
    ·cases he : escape b (p + 1) with
     | no x e => exact ⟨_, rfl⟩
     | ok l q => have := escape_le he; exact ih q _ (by omega)
    ·split
     ·exact ⟨_, rfl⟩
     ·exact ih _ _ (by omega)
theorem textTo_more {b : List Int} {k p : Nat} {out : List Int} {o : Out (List Int)} (h : textTo b k out p = some o) {m : Nat} (hm : k ≤ m) : textTo b m out p = some o := by
 obtain ⟨j, rfl⟩ : ∃ j, m = k + j := ⟨m - k, by omega⟩
 clear hm
 induction j with
 | zero => exact h
 | succ j ih => exact textTo_mono ih
theorem items_more {b : List Int} {k d p : Nat} {l : List Val} {o : Out Val} (h : items b k d l p = some o) {m : Nat} (hm : k ≤ m) : items b m d l p = some o := by
 obtain ⟨j, rfl⟩ : ∃ j, m = k + j := ⟨m - k, by omega⟩
 clear hm
 induction j with
 | zero => exact h
 | succ j ih => exact (all_mono b _).2.1 _ _ _ _ ih
theorem pairs_more {b : List Int} {k d p : Nat} {ks : List (List Int)} {l : List Val} {o : Out Val} (h : pairs b k d ks l p = some o) {m : Nat} (hm : k ≤ m) : pairs b m d ks l p = some o := by
 obtain ⟨j, rfl⟩ : ∃ j, m = k + j := ⟨m - k, by omega⟩
 clear hm
 induction j with
 | zero => exact h
 | succ j ih => exact (all_mono b _).2.2 _ _ _ _ _ ih
theorem text_total (b : List Int) (p k : Nat) (h : b.length - p < k) : ∃ o, text b k p = some o := by
 unfold text
 cases hx : b[p]? with
 | none => exact ⟨_, rfl⟩
 | some c =>
  simp only
  split
  ·obtain ⟨o, ho⟩ := textTo_total b (b.length - (p + 1)) (p + 1) [] (Nat.le_refl _)
   exact ⟨o, textTo_more ho (by omega)⟩
  ·exact ⟨_, rfl⟩
theorem all_total (b : List Int) : ∀ n, (∀ d p, b.length - p ≤ n → ∃ o, value b (2 * n + 3) d p = some o) ∧ (∀ d l p, b.length - p ≤ n → ∃ o, items b (2 * n + 4) d l p = some o) ∧ (∀ d ks l p, b.length - p ≤ n → ∃ o, pairs b (2 * n + 4) d ks l p = some o) := by
 intro n
 induction n with
 | zero =>
  have hv : ∀ d p, b.length - p ≤ 0 → value b 3 d p = some (.no p 11) := fun d p h => by rw [value_succ, at_none (by omega)]
  refine ⟨fun d p h => ⟨_, hv d p h⟩, fun d l p h => ⟨_, by rw [items, hv d p h]⟩, fun d ks l p h => ?_⟩
  have ht : text b 3 p = some (.no p 11) := by unfold text; rw [at_none (by omega)]
  exact ⟨_, by rw [pairs, ht]⟩
 | succ n ih =>
  obtain ⟨_, i2, i3⟩ := ih
  have hv : ∀ d p, b.length - p ≤ n + 1 → ∃ o, value b (2 * (n + 1) + 3) d p = some o := by
   intro d p h;rw [show 2 * (n + 1) + 3 = (2 * n + 4) + 1 by omega, value_succ]
   cases hx : b[p]? with
   | none => exact ⟨_, rfl⟩
   | some c =>
    have hl := at_lt hx;have hbl := blank_le (b := b) (p := p + 1) (by omega);simp only
    split
    ·unfold obj enter
     by_cases hd : d + 1 > 64
     ·rw [if_pos hd]; exact ⟨_, rfl⟩
     ·rw [if_neg hd]
      simp only
      cases hy : b[blank b (p + 1)]? with
      | none => exact ⟨_, rfl⟩
      | some c2 =>
       simp only
       split
       ·exact ⟨_, rfl⟩
       ·exact i3 _ _ _ _ (by omega)
    split
    ·unfold arr enter
     by_cases hd : d + 1 > 64
     ·rw [if_pos hd]; exact ⟨_, rfl⟩
     ·rw [if_neg hd]
      simp only
      cases hy : b[blank b (p + 1)]? with
      | none => exact ⟨_, rfl⟩
      | some c2 =>
       simp only
       split
       ·exact ⟨_, rfl⟩
       ·exact i2 _ _ _ (by omega)
    split
    ·obtain ⟨o, ho⟩ := text_total b p (2 * n + 4) (by omega)
     rw [ho];exact ⟨_, rfl⟩
    split
    ·exact ⟨_, rfl⟩
    split
    ·exact ⟨_, rfl⟩
    split
    ·exact ⟨_, rfl⟩
    ·exact ⟨_, rfl⟩
  refine ⟨hv, fun d l p h => ?_, fun d ks l p h => ?_⟩
  ·obtain ⟨o, ho⟩ := hv d p h
   rw [show 2 * (n + 1) + 4 = (2 * (n + 1) + 3) + 1 by omega, items, ho]
   cases o with
   | no x e => exact ⟨_, rfl⟩
   | ok v q =>
    have h1 := value_le ho;simp only
    cases hc : comma b 93 q with
    | no x e => exact ⟨_, rfl⟩
    | ok t s =>
     have h2 := comma_le h1.2 hc
     cases t with
     | false => exact ⟨_, rfl⟩
     | true =>
      obtain ⟨o2, ho2⟩ := i2 d (l ++ [v]) s (by omega);exact ⟨o2, items_more ho2 (by omega)⟩
  ·obtain ⟨ot, hot⟩ := text_total b p (2 * (n + 1) + 3) (by omega)
   rw [show 2 * (n + 1) + 4 = (2 * (n + 1) + 3) + 1 by omega, pairs, hot]
   cases ot with
   | no x e => exact ⟨_, rfl⟩
   | ok key q =>
    have h0 := text_le hot;have h01 := blank_le (b := b) (p := q) h0.2;simp only
    split
    ·exact ⟨_, rfl⟩
    cases hx : b[blank b q]? with
    | none => exact ⟨_, rfl⟩
    | some c =>
     have hl := at_lt hx;have h02 := blank_le (b := b) (p := blank b q + 1) (by omega);simp only
     split
     ·obtain ⟨o, ho⟩ := hv d (blank b (blank b q + 1)) (by omega)
      rw [ho]
      cases o with
      | no x e => exact ⟨_, rfl⟩
      | ok v r =>
       have h1 := value_le ho;simp only
       cases hc : comma b 125 r with
       | no x e => exact ⟨_, rfl⟩
       | ok t s =>
        have h2 := comma_le h1.2 hc
        cases t with
        | false => exact ⟨_, rfl⟩
        | true =>
         obtain ⟨o2, ho2⟩ := i3 d (ks ++ [key]) (l ++ [v]) s (by omega);exact ⟨o2, pairs_more ho2 (by omega)⟩
     ·exact ⟨_, rfl⟩
theorem value_total (b : List Int) (d p : Nat) : ∃ k o, value b k d p = some o := by
 obtain ⟨o, ho⟩ := (all_total b (b.length - p)).1 d p (Nat.le_refl _);exact ⟨_, o, ho⟩
def Term (post : List Int) : Prop := ∀ c, post[0]? = some c → isDigit c = false ∧ c ≠ 46 ∧ c ≠ 101 ∧ c ≠ 69
theorem Term.nil : Term [] := fun c h => by simp at h
section
variable {b t post : List Int} {p : Nat} (hb : b.drop p = t ++ post)
include hb
end
def Bytes (b : List Int) : Prop := ∀ x ∈ b, 0 ≤ x ∧ x ≤ 255
end Go.Proofs.YteighppcdpaekaaDoor.Js
end
section
namespace Go.Proofs.YteighppcdpaekaaDoor.Rf
open Go.RowKit Go.Proofs.YteighppcdpaekaaDoorW.PrintWords Go.Proofs.YteighppcdpaekaaDoor Go.Proofs.YteighppcdpaekaaDoor.P
variable {b : List Int}
def tailF (b : List Int) (x : S44) (u : St4) : Option (S44 × Int × Int) :=
 (if (u.2.2.1 == 0 && decide (u.1 < b.length)) = true then RRq_fail.f b u.1 u.2.1 u.2.2.1 u.2.2.2 12 u.1 else some u).bind fun z =>
  if (z.2.2.1 != 0) = true then some (⟨0, ⟨#[]⟩, [], []⟩, z.2.2.2, z.2.2.1) else some (x, 0, 0)
theorem tail_bad {x : S44} {a d e B : Int} (he : e ≠ 0) : tailF b x (a, d, e, B) = some (⟨0, ⟨#[]⟩, [], []⟩, B, e) := by
 unfold tailF;rw [if_neg (by simp [he])]
 show (if (e != 0) = true then _ else _) = _
 rw [if_pos (by simpa using he)]
theorem tail_more {x : S44} {a d B : Int} (ha : a < b.length) : tailF b x (a, d, 0, B) = some (⟨0, ⟨#[]⟩, [], []⟩, a, 12) := by
 unfold tailF;rw [if_pos (by simpa using ha)]
 show (RRq_fail.f b a d 0 B 12 a).bind _ = _
 rw [fail_0]
 rfl
theorem tail_ok {x : S44} {d B : Int} : tailF b x ((b.length : Int), d, 0, B) = some (x, 0, 0) := by
 unfold tailF;rw [if_neg (by simp)]
 rfl
theorem parse_ends (hb : Bs b) : (∃ x a e, e ≠ 0 ∧ Ev (fun k => parseF k b) (x, a, e)) ∨ ∃ v j q, Js.value b j 0 (Js.blank b 0) = some (.ok v q) ∧ Js.blank b q = b.length ∧ Ev (fun k => parseF k b) (toR v, 0, 0) := by
 obtain ⟨t, ht⟩ := valid_ends (b := b) hb.2;by_cases h0 : t.2 = 0
 case neg =>
  refine .inl ⟨⟨0, ⟨#[]⟩, [], []⟩, t.1, 10, by decide, ?_⟩;unfold parseF;exact Ev.bind ht (evT (by simpa using h0) (Ev.now _))
 have on : ∀ {r}, Ev (fun k => (RRq_blank.f k b 0 0 0 0).bind fun s => (valF b k s.1 s.2.1 s.2.2.1 s.2.2.2).bind fun v =>
   (RRq_blank.f k b v.2.1 v.2.2.1 v.2.2.2.1 v.2.2.2.2).bind fun u => tailF b v.1 u) r → Ev (fun k => parseF k b) r := by
  intro r hr;unfold parseF;exact Ev.bind ht (evF (by simp [h0]) hr)
 have hbl := Js.blank_le (b := b) (p := 0) (by omega);have hB : Ev (fun k => RRq_blank.f k b 0 0 0 0) ((Js.blank b 0 : Nat), 0, 0, 0) := blank_ok (d := 0) (B := 0) (p := 0) hb (by omega);obtain ⟨j, o, ho⟩ := Js.value_total b 0 (Js.blank b 0);have hV := (ring_ends hb j).1 (Js.blank b 0) 0 0 o hbl.2 (by omega) ho
 cases o with
 | no y e =>
  obtain ⟨x, a, d', e', B', he, hV⟩ := hV;exact .inl ⟨⟨0, ⟨#[]⟩, [], []⟩, B', e', he, on (Ev.bind hB (Ev.bind hV (Ev.bind (blank_bad he) (evC (tail_bad he)))))⟩
 | ok v q =>
  have hV : Ev (fun k => valF b k (Js.blank b 0 : Nat) 0 0 0) (toR v, (q : Int), 0, 0, 0) := hV;have hvl := Js.value_le ho;have hB2 := blank_ok (d := 0) (B := 0) (p := q) hb hvl.2;have hbq := Js.blank_le (b := b) (p := q) hvl.2;by_cases hq : Js.blank b q = b.length
  ·refine .inr ⟨v, j, q, ho, hq, on (Ev.bind hB (Ev.bind hV (Ev.bind hB2 (evC ?_))))⟩
   rw [hq];exact tail_ok
  ·exact .inl ⟨⟨0, ⟨#[]⟩, [], []⟩, _, 12, n12, on (Ev.bind hB (Ev.bind hV (Ev.bind hB2 (evC (tail_more (by omega))))))⟩
end Go.Proofs.YteighppcdpaekaaDoor.Rf
end
section
namespace Go.Proofs.YteighppcdpaekaaDoor.Rf
open Go.RowKit Go.Proofs.YteighppcdpaekaaDoorW.PrintWords Go.Proofs.YteighppcdpaekaaDoor Go.Proofs.YteighppcdpaekaaDoor.P
mutual
theorem toR_ofS : ∀ v : Js.Val, toR v = Eq4.ofS (Rd.toS v)
 | .mk k t ks l => by
  rw [toR, Rd.toS, Eq4.ofS_eq];simp only;rw [toRs_ofL l]
theorem toRs_ofL : ∀ l : List Js.Val, toRs l = Eq4.ofL (Rd.toSs l)
 | [] => rfl
 | v :: r => by
  rw [toRs, Rd.toSs, Eq4.ofL_map, List.map_cons, ← Eq4.ofL_map, toR_ofS v, toRs_ofL r]
end
end Go.Proofs.YteighppcdpaekaaDoor.Rf
end
