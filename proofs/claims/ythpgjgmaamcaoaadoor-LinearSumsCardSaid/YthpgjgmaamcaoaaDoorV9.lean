/- Walks and words of this session, put together by a program of this session (pack.py). Conditions: as each text says. -/
import Derived.RangeFuncNested
import Derived.Shelf.Strings.Builder1
import Derived.Shelf.Strings.BuilderF
import Derived.Shelf.Strings.BuilderK
import Derived.Shelf.Strconv.Itoa0
import Derived.Shelf.Strconv.Itoa1
import Derived.Shelf.LaysM
import Derived.Shelf.Strconv.Itoa2
import Derived.Shelf.Strconv.Itoa3
import Derived.Test.YthpgjgmaamcaoaaDoorProg
import Derived.Maps.AppendAt
import Derived.Lib.AppendStr
import Derived.Lib.ItoaNum
import Derived.Test.YthpgjgmaamcaoaaDoorV1
import Derived.Test.YthpgjgmaamcaoaaDoorV3
import Derived.Test.YthpgjgmaamcaoaaDoorV4
import Derived.Test.YthpgjgmaamcaoaaDoorV6
import Derived.Test.YthpgjgmaamcaoaaDoorV7
import Derived.Test.YthpgjgmaamcaoaaDoorV8
set_option linter.unusedVariables false
set_option linter.unusedSimpArgs false
section
namespace Go.Proofs.YthpgjgmaamcaoaaDoor.P.R
open Go.RowKit Go.Shelf Go.Proofs.YthpgjgmaamcaoaaDoor.P Go.Proofs.YthpgjgmaamcaoaaDoorW.PrintWords Go.Proofs.YthpgjgmaamcaoaaDoorW.PrintLast Go.Proofs.YthpgjgmaamcaoaaDoorW.PrintMore Go.Proofs.YthpgjgmaamcaoaaDoor.Nm
set_option maxRecDepth 100000
set_option linter.unusedVariables false
set_option linter.unusedSimpArgs false
theorem law_same.tab6 : tabOf (opsOf Tryd.f11 6) = ([some 28, some 29, some 30, some 31, some 32, some 33, some 34, some 35, some 36, some 37, some 38, some 39, some 40, some 41, some 42, some 43, some 44, some 45, some 46, some 47, some 48, some 49, some 50, some 51, some 52, some 53, some 54, some 55, some 56], [[], [0], [], [1, 2], [3], [4], [], [6], [], [7, 8], [9], [10], [5, 11], [12], [13], [14, 13], [13], [15, 16, 13], [17, 13], [18, 13], [13], [20, 13], [13], [21, 22, 13], [23, 13], [24, 13], [19, 25, 13, 13], [26, 13], [13, 27]]) := by kernel_rfl
theorem law_sameT (n : Int) (u v : Value) (w0 : World) (h : Kv k24 (fun _ => True) w0 u (can n)) (h' : Kv k34 (fun _ => True) w0 v (cn n)) (hx : Big (can n)) (hy : Dec (cn n)) :
  Calls Tryd.prog 33 #[u, v] w0 fun e w' => ∃ v, e = .returned v ∧ v = .bool true ∧ Below w0.heap.size w0 w' :=
 (law_sameNum n u v (cn n) w0 h h' hy (nv_cn n) hx).mono (fun e w' he => ⟨_, he.1, rfl, he.2⟩)
set_option maxHeartbeats 6400000 in
theorem law_same (u v : Value) (k : Int) (ps : LnP.Ps) (w0 : World) (h : Kv kTB (fun _ => True) w0 u (Go.Proofs.YthpgjgmaamcaoaaDoor.P.tt k ps)) (h' : Kv kTR (fun _ => True) w0 v (tt k ps)) (hk : Big (can k) ∧ Dec (cn k)) (hp : ∀ p ∈ ps, Big (can p.2) ∧ Dec (cn p.2)) (hl : ps.length ≤ 39) :
  Calls Tryd.prog 11 #[u, v] w0 fun e w' => e = .returned (.bool true) ∧ Below w0.heap.size w0 w' := by
 obtain ⟨A, c, B, d, rfl, hk1, hp1⟩ := h.openTB;obtain ⟨A2, c2, B2, d2, rfl, hk2, hp2⟩ := h'.openTR;have e1 : (Go.Proofs.YthpgjgmaamcaoaaDoor.P.tt k ps).f1.length = ps.length := List.length_map _;have e2 : (tt k ps).f1.length = ps.length := List.length_map _;have e3 : (Go.Proofs.YthpgjgmaamcaoaaDoor.P.tt k ps).f0 = can k := rfl;have e4 : (tt k ps).f0 = cn k := rfl;simp only [e1, e2, e3, e4] at hk1 hp1 hk2 hp2 ⊢
 obtain ⟨n, en⟩ : ∃ n, n = ps.length := ⟨_, rfl⟩
 simp only [← en] at hp1 hp2 ⊢;have C := Ctx.new (cs := [.bool (cn k).f0, .slice A2 (cn k).f1.length c2, .slice B2 n d2]) (t := 37) (Ctx.new (cs := [.bool (can k).f0, .slice A (can k).f1.length c, .slice B n d]) (t := 27) (Ctx.cons (uB w0) (Below.refl _ _) (Ctx.cons (uK k24 (fun _ => True) (.agg #[.bool (can k).f0, .slice A (can k).f1.length c]) (can k)) hk1 (Ctx.cons (uK k34 (fun _ => True) (.agg #[.bool (cn k).f0, .slice A2 (cn k).f1.length c2]) (cn k)) hk2 (Ctx.cons (uCv k44 (fun _ => True) (ps.map Go.Proofs.YthpgjgmaamcaoaaDoor.P.cp) (.slice B n d)) hp1 (Ctx.cons (uCv k66 (fun _ => True) (ps.map cp) (.slice B2 n d2)) hp2 Ctx.nil))))));simp only [World.size_alloc] at C;have hpp := Sdq.mk hp;have hn := Sdq.mk en
 have hn39 : n ≤ 39 := by rw [en]; exact hl
 have hkk := Sdq.mk hk;clear h h' hk1 hp1 hk2 hp2 e1 e2 e3 e4 en hp hl hk;go_enter Tryd.func11, Tryd.ntmps11
 go_upto_region 1 with fail
 refine absW _ C ?_;clear C;intro w1 C;have y0 := Ctx.blk C.2.1 0 rfl;have y1 := Ctx.blk C.2.1 1 rfl;have z0 := Ctx.blk C.1 0 rfl;have z1 := Ctx.blk C.1 1 rfl;have hs0 := law_sameT k _ _ w1 C.2.2.2.1 C.2.2.2.2.1 hkk.out.1 hkk.out.2;have C := Sdq.mk C
 go_upto_region 3 with (go_at_call 33; refine hs0.mono ?_; rintro e3 w3 ⟨v3, rfl, rfl, hb3⟩; have C3 := C.out.below hb3; have y2 := Ctx.blk C3.2.1 2 rfl; have z2 := Ctx.blk C3.1 2 rfl)
 clear C y0 y1 z0 z1 hs0 hb3 y2 z2;have C := Sdq.mk C3;clear C3
 go_wp2_with fail
 go_loopg [5] n (fun gk s5 wr => ∃ i : Nat, gk + i = n ∧ s5 = .int .i64 (i : Int) ∧ Sdq (Below w3.heap.size w3 wr))
 case atStart => exact ⟨0, by omega, rfl, ⟨Below.refl _ _⟩⟩
 case round =>
  obtain ⟨i, hgi, rfl, hb⟩ := hrel;have C2 := Sdq.mk (C.out.below hb.out);have y2 := Ctx.blk C2.out.2.1 2 rfl
  cases gk with
  | zero =>
   obtain rfl : i = n := by omega
   go_wp2_with fail
   go_ret;exact ⟨rfl, C2.out.2.2.1⟩
  | succ j =>
   have hin : i < ps.length := by have := hn.out; omega
   obtain ⟨B', d', e1, -, hF⟩ := C2.out.2.2.2.2.2.1
   injection e1 with e2 e9 e3
   subst e2;subst e3;clear e9;obtain ⟨B', d', e1, -, hG⟩ := C2.out.2.2.2.2.2.2.1
   injection e1 with e2 e9 e3
   subst e2;subst e3;clear e9;obtain ⟨ad, e, rfl, x0, x1, x2, hfk⟩ := Go.Proofs.YthpgjgmaamcaoaaDoor.P.row_el hF (i := i) (by rw [List.length_map]; exact hin);obtain ⟨bd, f, rfl, u0, u1, u2, hgk⟩ := row_el hG (i := i) (by rw [List.length_map]; exact hin);rw [List.getElem_map] at hfk hgk;have hpb := hpp.out _ (List.getElem_mem hin)
   obtain ⟨p, ep⟩ : ∃ p, p = ps[i] := ⟨_, rfl⟩
   rw [← ep] at hfk hgk hpb;obtain ⟨ev, eb, eA, en, ec⟩ := e;obtain ⟨fv, fb, fA, fn, fc⟩ := f;have a1 := Go.Proofs.YthpgjgmaamcaoaaDoor.P.fk_el hfk;have a2 := fk_el hgk
   obtain ⟨rfl, rfl, rfl, -, -⟩ : ev = p.1 ∧ eb = (can p.2).f0 ∧ en = (can p.2).f1.length ∧ True ∧ True := ⟨a1.1, a1.2.1, a1.2.2.1, trivial, trivial⟩
   obtain ⟨rfl, rfl, rfl, -, -⟩ : fv = p.1 ∧ fb = (cn p.2).f0 ∧ fn = (cn p.2).f1.length ∧ True ∧ True := ⟨a2.1, a2.2.1, a2.2.2.1, trivial, trivial⟩
   have hin2 : i < n := by have := hn.out; omega
   have HP := Sdq.mk hgi
   have C6 : Ctx [uBlk w0.heap.size [.bool (can k).f0, .slice A (can k).f1.length c, .slice (some ad) n d] 27, uBlk (w0.heap.size + 1) [.bool (cn k).f0, .slice A2 (cn k).f1.length c2, .slice (some bd) n d2] 37, uEl ad i ⟨p.1, (can p.2).f0, eA, (can p.2).f1.length, ec⟩, uEl bd i ⟨p.1, (cn p.2).f0, fA, (cn p.2).f1.length, fc⟩, uK k24 (fun _ => True) (.agg #[.bool (can p.2).f0, .slice eA (can p.2).f1.length ec]) (can p.2), uK k34 (fun _ => True) (.agg #[.bool (cn p.2).f0, .slice fA (cn p.2).f1.length fc]) (cn p.2), uB w3] wr := ⟨C2.out.2.1, C2.out.1, ⟨x0, x1, x2⟩, ⟨u0, u1, u2⟩, Go.Proofs.YthpgjgmaamcaoaaDoor.P.el_kv hfk, el_kv hgk, hb.out, trivial⟩
   have hS := Sdq.mk (fun (W : World) (hC : Ctx [uBlk w0.heap.size [.bool (can k).f0, .slice A (can k).f1.length c, .slice (some ad) n d] 27, uBlk (w0.heap.size + 1) [.bool (cn k).f0, .slice A2 (cn k).f1.length c2, .slice (some bd) n d2] 37, uEl ad i ⟨p.1, (can p.2).f0, eA, (can p.2).f1.length, ec⟩, uEl bd i ⟨p.1, (cn p.2).f0, fA, (cn p.2).f1.length, fc⟩, uK k24 (fun _ => True) (.agg #[.bool (can p.2).f0, .slice eA (can p.2).f1.length ec]) (can p.2), uK k34 (fun _ => True) (.agg #[.bool (cn p.2).f0, .slice fA (cn p.2).f1.length fc]) (cn p.2), uB w3] W) => law_sameT p.2 _ _ W hC.2.2.2.2.1 hC.2.2.2.2.2.1 hpb.1 hpb.2);clear hF hG hfk hgk hpb ep a1 a2 x0 x1 x2 u0 u1 u2 hgi hin
   go_upto_region 6 with fail
   clear y2;refine absW _ C6 ?_;clear C6;intro w6 C;refine flowT (n := 29) law_same.tab6 rfl (Ctx _) (Rl [uEq (.pointer (some ⟨w0.heap.size, 2, none⟩)), uEq (.slice (some ad) n d), uEq (.int .i64 (i : Int)), uEq (.pointer (some (Addr.add ad (i * 3)))), uEq (.pointer (some (Addr.add ad (i * 3)))), uEq (.int .i64 p.1), uEq (.pointer (some ⟨w0.heap.size + 1, 2, none⟩)), uEq (.slice (some bd) n d2), uEq (.int .i64 (i : Int)), uEq (.pointer (some (Addr.add bd (i * 3)))), uEq (.pointer (some (Addr.add bd (i * 3)))), uEq (.int .i64 p.1), uEq (.bool false), uEq (.bool false), uEq (.pointer (some ⟨w0.heap.size, 2, none⟩)), uEq (.slice (some ad) n d), uEq (.int .i64 (i : Int)), uEq (.pointer (some (Addr.add ad (i * 3)))), uEq (.pointer (some ⟨(Addr.add ad (i * 3)).block, (Addr.add ad (i * 3)).off + 1, none⟩)), uEq (.agg #[.bool (can p.2).f0, .slice eA (can p.2).f1.length ec]), uEq (.pointer (some ⟨w0.heap.size + 1, 2, none⟩)), uEq (.slice (some bd) n d2), uEq (.int .i64 (i : Int)), uEq (.pointer (some (Addr.add bd (i * 3)))), uEq (.pointer (some ⟨(Addr.add bd (i * 3)).block, (Addr.add bd (i * 3)).off + 1, none⟩)), uEq (.agg #[.bool (cn p.2).f0, .slice fA (cn p.2).f1.length fc]), uEq (.bool true), uEq (.bool false), uEq (.bool false)]) rfl (by kernel_rfl) (fun _ _ h hb => h.below hb) (Rl.up _) C ⟨⟨⟨⟨⟨⟨⟨⟨⟨⟨⟨⟨⟨⟨⟨⟨⟨⟨⟨⟨⟨⟨⟨⟨⟨⟨⟨⟨⟨trivial, ?_⟩, ?_⟩, ?_⟩, ?_⟩, ?_⟩, ?_⟩, ?_⟩, ?_⟩, ?_⟩, ?_⟩, ?_⟩, ?_⟩, ?_⟩, ?_⟩, ?_⟩, ?_⟩, ?_⟩, ?_⟩, ?_⟩, ?_⟩, ?_⟩, ?_⟩, ?_⟩, ?_⟩, ?_⟩, ?_⟩, ?_⟩, ?_⟩, ?_⟩ ?_
   ·refine At.of _ rfl (fun e_ a w hC hd hb K hK => ?_)
    have b2 : a.tmps[2]? = some (.pointer (some ⟨w0.heap.size, 0, none⟩)) := hb 2 (by decide);refine value_ (w1 := w) (v := .pointer (some ⟨w0.heap.size, 2, none⟩)) (by rfl) rfl ?_ (hK.out _ _ (Below.refl _ _) rfl);clear hC hd hb hK hS
    first | (go_simp; done) | (go_simp; rfl)
   ·refine At.of _ rfl (fun e_ a w hC hd hb K hK => ?_)
    have q28 := (hd 0 (by decide)).2 28 rfl;rw [show e_ 0 = _ from (hd 0 (by decide)).1] at q28;have cc2 : w.cell? ⟨w0.heap.size, 2, none⟩ = some (.slice (some ad) n d) := Ctx.blk hC.1 2 rfl;refine value_ (w1 := w) (v := .slice (some ad) n d) (by rfl) rfl ?_ (hK.out _ _ (Below.refl _ _) rfl);clear hC hd hb hK hS
    first | (go_simp; done) | (go_simp; rfl)
   ·refine At.of _ rfl (fun e_ a w hC hd hb K hK => ?_)
    have b5 : a.tmps[5]? = some (.int .i64 (i : Int)) := hb 5 (by decide);refine value_ (w1 := w) (v := .int .i64 (i : Int)) (by rfl) rfl ?_ (hK.out _ _ (Below.refl _ _) rfl);clear hC hd hb hK hS
    first | (go_simp; done) | (go_simp; rfl)
   ·refine At.of _ rfl (fun e_ a w hC hd hb K hK => ?_)
    have q29 := (hd 1 (by decide)).2 29 rfl;rw [show e_ 1 = _ from (hd 1 (by decide)).1] at q29;have q30 := (hd 2 (by decide)).2 30 rfl;rw [show e_ 2 = _ from (hd 2 (by decide)).1] at q30;refine value_ (w1 := w) (v := .pointer (some (Addr.add ad (i * 3)))) (by rfl) rfl ?_ (hK.out _ _ (Below.refl _ _) rfl);clear hC hd hb hK hS
    first | (go_simp; done) | (go_simp; rfl)
   ·refine At.of _ rfl (fun e_ a w hC hd hb K hK => ?_)
    have q31 := (hd 3 (by decide)).2 31 rfl;rw [show e_ 3 = _ from (hd 3 (by decide)).1] at q31;refine value_ (w1 := w) (v := .pointer (some (Addr.add ad (i * 3)))) (by rfl) rfl ?_ (hK.out _ _ (Below.refl _ _) rfl);clear hC hd hb hK hS
    first | (go_simp; done) | (go_simp; rfl)
   ·refine At.of _ rfl (fun e_ a w hC hd hb K hK => ?_)
    have q32 := (hd 4 (by decide)).2 32 rfl;rw [show e_ 4 = _ from (hd 4 (by decide)).1] at q32;obtain ⟨x0, x1, x2⟩ := hC.2.2.1
    dsimp only at x0 x1 x2
    refine value_ (w1 := w) (v := .int .i64 p.1) (by rfl) rfl ?_ (hK.out _ _ (Below.refl _ _) rfl);clear hC hd hb hK hS
    first | (go_simp; done) | (go_simp; rfl)
   ·refine At.of _ rfl (fun e_ a w hC hd hb K hK => ?_)
    have b3 : a.tmps[3]? = some (.pointer (some ⟨w0.heap.size + 1, 0, none⟩)) := hb 3 (by decide);refine value_ (w1 := w) (v := .pointer (some ⟨w0.heap.size + 1, 2, none⟩)) (by rfl) rfl ?_ (hK.out _ _ (Below.refl _ _) rfl);clear hC hd hb hK hS
    first | (go_simp; done) | (go_simp; rfl)
   ·refine At.of _ rfl (fun e_ a w hC hd hb K hK => ?_)
    have q34 := (hd 6 (by decide)).2 34 rfl;rw [show e_ 6 = _ from (hd 6 (by decide)).1] at q34;have cc2 : w.cell? ⟨w0.heap.size + 1, 2, none⟩ = some (.slice (some bd) n d2) := Ctx.blk hC.2.1 2 rfl;refine value_ (w1 := w) (v := .slice (some bd) n d2) (by rfl) rfl ?_ (hK.out _ _ (Below.refl _ _) rfl);clear hC hd hb hK hS
    first | (go_simp; done) | (go_simp; rfl)
   ·refine At.of _ rfl (fun e_ a w hC hd hb K hK => ?_)
    have b5 : a.tmps[5]? = some (.int .i64 (i : Int)) := hb 5 (by decide);refine value_ (w1 := w) (v := .int .i64 (i : Int)) (by rfl) rfl ?_ (hK.out _ _ (Below.refl _ _) rfl);clear hC hd hb hK hS
    first | (go_simp; done) | (go_simp; rfl)
   ·refine At.of _ rfl (fun e_ a w hC hd hb K hK => ?_)
    have q35 := (hd 7 (by decide)).2 35 rfl;rw [show e_ 7 = _ from (hd 7 (by decide)).1] at q35;have q36 := (hd 8 (by decide)).2 36 rfl;rw [show e_ 8 = _ from (hd 8 (by decide)).1] at q36;refine value_ (w1 := w) (v := .pointer (some (Addr.add bd (i * 3)))) (by rfl) rfl ?_ (hK.out _ _ (Below.refl _ _) rfl);clear hC hd hb hK hS
    first | (go_simp; done) | (go_simp; rfl)
   ·refine At.of _ rfl (fun e_ a w hC hd hb K hK => ?_)
    have q37 := (hd 9 (by decide)).2 37 rfl;rw [show e_ 9 = _ from (hd 9 (by decide)).1] at q37;refine value_ (w1 := w) (v := .pointer (some (Addr.add bd (i * 3)))) (by rfl) rfl ?_ (hK.out _ _ (Below.refl _ _) rfl);clear hC hd hb hK hS
    first | (go_simp; done) | (go_simp; rfl)
   ·refine At.of _ rfl (fun e_ a w hC hd hb K hK => ?_)
    have q38 := (hd 10 (by decide)).2 38 rfl;rw [show e_ 10 = _ from (hd 10 (by decide)).1] at q38;obtain ⟨x0, x1, x2⟩ := hC.2.2.2.1
    dsimp only at x0 x1 x2
    refine value_ (w1 := w) (v := .int .i64 p.1) (by rfl) rfl ?_ (hK.out _ _ (Below.refl _ _) rfl);clear hC hd hb hK hS
    first | (go_simp; done) | (go_simp; rfl)
   ·refine At.of _ rfl (fun e_ a w hC hd hb K hK => ?_)
    have q33 := (hd 5 (by decide)).2 33 rfl;rw [show e_ 5 = _ from (hd 5 (by decide)).1] at q33;have q39 := (hd 11 (by decide)).2 39 rfl;rw [show e_ 11 = _ from (hd 11 (by decide)).1] at q39;refine value_ (w1 := w) (v := .bool false) (by rfl) rfl ?_ (hK.out _ _ (Below.refl _ _) rfl);clear hC hd hb hK hS
    first | (go_simp; done) | (go_simp; rfl)
   ·refine At.of _ rfl (fun e_ a w hC hd hb K hK => ?_)
    have q40 := (hd 12 (by decide)).2 40 rfl;rw [show e_ 12 = _ from (hd 12 (by decide)).1] at q40;refine value_ (w1 := w) (v := .bool false) (by rfl) rfl ?_ (hK.out _ _ (Below.refl _ _) rfl);clear hC hd hb hK hS
    first | (go_simp; done) | (go_simp; rfl)
   ·refine At.of _ rfl (fun e_ a w hC hd hb K hK => ?_)
    have gg41 := (hd 13 (by decide)).2 41 rfl;rw [show e_ 13 = _ from (hd 13 (by decide)).1] at gg41;have b2 : a.tmps[2]? = some (.pointer (some ⟨w0.heap.size, 0, none⟩)) := hb 2 (by decide);refine value_ (w1 := w) (v := .pointer (some ⟨w0.heap.size, 2, none⟩)) (by simp [Region.wanted, yielded, gg41]) rfl ?_ (hK.out _ _ (Below.refl _ _) rfl);clear hC hd hb hK hS
    first | (go_simp; done) | (go_simp; rfl)
   ·refine At.of _ rfl (fun e_ a w hC hd hb K hK => ?_)
    have gg41 := (hd 13 (by decide)).2 41 rfl;rw [show e_ 13 = _ from (hd 13 (by decide)).1] at gg41;have q42 := (hd 14 (by decide)).2 42 rfl;rw [show e_ 14 = _ from (hd 14 (by decide)).1] at q42;have cc2 : w.cell? ⟨w0.heap.size, 2, none⟩ = some (.slice (some ad) n d) := Ctx.blk hC.1 2 rfl;refine value_ (w1 := w) (v := .slice (some ad) n d) (by simp [Region.wanted, yielded, gg41]) rfl ?_ (hK.out _ _ (Below.refl _ _) rfl);clear hC hd hb hK hS
    first | (go_simp; done) | (go_simp; rfl)
   ·refine At.of _ rfl (fun e_ a w hC hd hb K hK => ?_)
    have gg41 := (hd 13 (by decide)).2 41 rfl;rw [show e_ 13 = _ from (hd 13 (by decide)).1] at gg41;have b5 : a.tmps[5]? = some (.int .i64 (i : Int)) := hb 5 (by decide);refine value_ (w1 := w) (v := .int .i64 (i : Int)) (by simp [Region.wanted, yielded, gg41]) rfl ?_ (hK.out _ _ (Below.refl _ _) rfl);clear hC hd hb hK hS
    first | (go_simp; done) | (go_simp; rfl)
   ·refine At.of _ rfl (fun e_ a w hC hd hb K hK => ?_)
    have gg41 := (hd 13 (by decide)).2 41 rfl;rw [show e_ 13 = _ from (hd 13 (by decide)).1] at gg41;have q43 := (hd 15 (by decide)).2 43 rfl;rw [show e_ 15 = _ from (hd 15 (by decide)).1] at q43;have q44 := (hd 16 (by decide)).2 44 rfl;rw [show e_ 16 = _ from (hd 16 (by decide)).1] at q44;refine value_ (w1 := w) (v := .pointer (some (Addr.add ad (i * 3)))) (by simp [Region.wanted, yielded, gg41]) rfl ?_ (hK.out _ _ (Below.refl _ _) rfl);clear hC hd hb hK hS
    first | (go_simp; done) | (go_simp; rfl)
   ·refine At.of _ rfl (fun e_ a w hC hd hb K hK => ?_)
    have gg41 := (hd 13 (by decide)).2 41 rfl;rw [show e_ 13 = _ from (hd 13 (by decide)).1] at gg41;have q45 := (hd 17 (by decide)).2 45 rfl;rw [show e_ 17 = _ from (hd 17 (by decide)).1] at q45;refine value_ (w1 := w) (v := .pointer (some ⟨(Addr.add ad (i * 3)).block, (Addr.add ad (i * 3)).off + 1, none⟩)) (by simp [Region.wanted, yielded, gg41]) rfl ?_ (hK.out _ _ (Below.refl _ _) rfl);clear hC hd hb hK hS
    first | (go_simp; done) | (go_simp; rfl)
   ·refine At.of _ rfl (fun e_ a w hC hd hb K hK => ?_)
    have gg41 := (hd 13 (by decide)).2 41 rfl;rw [show e_ 13 = _ from (hd 13 (by decide)).1] at gg41;have q46 := (hd 18 (by decide)).2 46 rfl;rw [show e_ 18 = _ from (hd 18 (by decide)).1] at q46;obtain ⟨x0, x1, x2⟩ := hC.2.2.1
    dsimp only at x0 x1 x2
    refine value_ (w1 := w) (v := .agg #[.bool (can p.2).f0, .slice eA (can p.2).f1.length ec]) (by simp [Region.wanted, yielded, gg41]) rfl ?_ (hK.out _ _ (Below.refl _ _) rfl);clear hC hd hb hK hS
    first | (go_simp; done) | (go_simp; rfl)
   ·refine At.of _ rfl (fun e_ a w hC hd hb K hK => ?_)
    have gg41 := (hd 13 (by decide)).2 41 rfl;rw [show e_ 13 = _ from (hd 13 (by decide)).1] at gg41;have b3 : a.tmps[3]? = some (.pointer (some ⟨w0.heap.size + 1, 0, none⟩)) := hb 3 (by decide);refine value_ (w1 := w) (v := .pointer (some ⟨w0.heap.size + 1, 2, none⟩)) (by simp [Region.wanted, yielded, gg41]) rfl ?_ (hK.out _ _ (Below.refl _ _) rfl);clear hC hd hb hK hS
    first | (go_simp; done) | (go_simp; rfl)
   ·refine At.of _ rfl (fun e_ a w hC hd hb K hK => ?_)
    have gg41 := (hd 13 (by decide)).2 41 rfl;rw [show e_ 13 = _ from (hd 13 (by decide)).1] at gg41;have q48 := (hd 20 (by decide)).2 48 rfl;rw [show e_ 20 = _ from (hd 20 (by decide)).1] at q48;have cc2 : w.cell? ⟨w0.heap.size + 1, 2, none⟩ = some (.slice (some bd) n d2) := Ctx.blk hC.2.1 2 rfl;refine value_ (w1 := w) (v := .slice (some bd) n d2) (by simp [Region.wanted, yielded, gg41]) rfl ?_ (hK.out _ _ (Below.refl _ _) rfl);clear hC hd hb hK hS
    first | (go_simp; done) | (go_simp; rfl)
   ·refine At.of _ rfl (fun e_ a w hC hd hb K hK => ?_)
    have gg41 := (hd 13 (by decide)).2 41 rfl;rw [show e_ 13 = _ from (hd 13 (by decide)).1] at gg41;have b5 : a.tmps[5]? = some (.int .i64 (i : Int)) := hb 5 (by decide);refine value_ (w1 := w) (v := .int .i64 (i : Int)) (by simp [Region.wanted, yielded, gg41]) rfl ?_ (hK.out _ _ (Below.refl _ _) rfl);clear hC hd hb hK hS
    first | (go_simp; done) | (go_simp; rfl)
   ·refine At.of _ rfl (fun e_ a w hC hd hb K hK => ?_)
    have gg41 := (hd 13 (by decide)).2 41 rfl;rw [show e_ 13 = _ from (hd 13 (by decide)).1] at gg41;have q49 := (hd 21 (by decide)).2 49 rfl;rw [show e_ 21 = _ from (hd 21 (by decide)).1] at q49;have q50 := (hd 22 (by decide)).2 50 rfl;rw [show e_ 22 = _ from (hd 22 (by decide)).1] at q50;refine value_ (w1 := w) (v := .pointer (some (Addr.add bd (i * 3)))) (by simp [Region.wanted, yielded, gg41]) rfl ?_ (hK.out _ _ (Below.refl _ _) rfl);clear hC hd hb hK hS
    first | (go_simp; done) | (go_simp; rfl)
   ·refine At.of _ rfl (fun e_ a w hC hd hb K hK => ?_)
    have gg41 := (hd 13 (by decide)).2 41 rfl;rw [show e_ 13 = _ from (hd 13 (by decide)).1] at gg41;have q51 := (hd 23 (by decide)).2 51 rfl;rw [show e_ 23 = _ from (hd 23 (by decide)).1] at q51;refine value_ (w1 := w) (v := .pointer (some ⟨(Addr.add bd (i * 3)).block, (Addr.add bd (i * 3)).off + 1, none⟩)) (by simp [Region.wanted, yielded, gg41]) rfl ?_ (hK.out _ _ (Below.refl _ _) rfl);clear hC hd hb hK hS
    first | (go_simp; done) | (go_simp; rfl)
   ·refine At.of _ rfl (fun e_ a w hC hd hb K hK => ?_)
    have gg41 := (hd 13 (by decide)).2 41 rfl;rw [show e_ 13 = _ from (hd 13 (by decide)).1] at gg41;have q52 := (hd 24 (by decide)).2 52 rfl;rw [show e_ 24 = _ from (hd 24 (by decide)).1] at q52;obtain ⟨x0, x1, x2⟩ := hC.2.2.2.1
    dsimp only at x0 x1 x2
    refine value_ (w1 := w) (v := .agg #[.bool (cn p.2).f0, .slice fA (cn p.2).f1.length fc]) (by simp [Region.wanted, yielded, gg41]) rfl ?_ (hK.out _ _ (Below.refl _ _) rfl);clear hC hd hb hK hS
    first | (go_simp; done) | (go_simp; rfl)
   ·refine At.of _ rfl (fun e_ a w hC hd hb K hK => ?_)
    have gg41 := (hd 13 (by decide)).2 41 rfl;rw [show e_ 13 = _ from (hd 13 (by decide)).1] at gg41;have q47 := (hd 19 (by decide)).2 47 rfl;rw [show e_ 19 = _ from (hd 19 (by decide)).1] at q47;have q53 := (hd 25 (by decide)).2 53 rfl;rw [show e_ 25 = _ from (hd 25 (by decide)).1] at q53;refine goes_ Tryd.func33 (by kernel_rfl) rfl #[.agg #[.bool (can p.2).f0, .slice eA (can p.2).f1.length ec], .agg #[.bool (cn p.2).f0, .slice fA (cn p.2).f1.length fc]] (by simp [Region.wanted, yielded, gg41]) rfl rfl (by first | (simp [Act.eval, q47, q53]; done) | (simp [Act.eval, q47, q53]; rfl)) ?_;refine (hS.out w hC).mono ?_;rintro en w' ⟨v, rfl, hv, hb'⟩;exact ⟨v, rfl, hK.out v w' hb' hv⟩
   ·refine At.of _ rfl (fun e_ a w hC hd hb K hK => ?_)
    have gg41 := (hd 13 (by decide)).2 41 rfl;rw [show e_ 13 = _ from (hd 13 (by decide)).1] at gg41;have q54 := (hd 26 (by decide)).2 54 rfl;rw [show e_ 26 = _ from (hd 26 (by decide)).1] at q54;refine value_ (w1 := w) (v := .bool false) (by simp [Region.wanted, yielded, gg41]) rfl ?_ (hK.out _ _ (Below.refl _ _) rfl);clear hC hd hb hK hS
    first | (go_simp; done) | (go_simp; rfl)
   ·refine At.of _ rfl (fun e_ a w hC hd hb K hK => ?_)
    have q41 := (hd 13 (by decide)).2 41 rfl;rw [show e_ 13 = _ from (hd 13 (by decide)).1] at q41;have q55 := (hd 27 (by decide)).2 55 rfl;rw [show e_ 27 = _ from (hd 27 (by decide)).1] at q55;refine value_ (w1 := w) (v := .bool false) (by rfl) rfl ?_ (hK.out _ _ (Below.refl _ _) rfl);clear hC hd hb hK hS
    first | (go_simp; done) | (go_simp; rfl)
   ·intro e_ w10 C hr
    have r28 : e_ 28 = .bool false := hr.2;simp only [fill, Act.put, r28, if_true, List.setIfInBounds_toArray, List.set_cons_zero, List.set_cons_succ];have hb10 := Sdq.mk (show Below w3.heap.size w3 w10 from C.2.2.2.2.2.2.1);clear hr r28 C hS
    go_wp2_with fail
    go_roundg j
    case measure => go_light; omega
    case rel => go_light; exact ⟨i + 1, by have := HP.out; omega, by go_num, hb10⟩
end Go.Proofs.YthpgjgmaamcaoaaDoor.P.R
end
section
namespace Go.Proofs.YthpgjgmaamcaoaaDoor.P
open Go.RowKit Go.Shelf Go.Proofs.YthpgjgmaamcaoaaDoorW.PrintWords Go.Proofs.YthpgjgmaamcaoaaDoorW.PrintLast Go.Proofs.YthpgjgmaamcaoaaDoorW.PrintMore Go.Proofs.YthpgjgmaamcaoaaDoor.Nm
set_option maxRecDepth 100000
set_option linter.unusedVariables false
def SeqX {α : Type} (n : Nat) (P : Program) (g : Nat) (lb : Array Value) (encs : α → Array Value) (RX : α → World → Prop) (Kp : World → World → Prop) (S Sp : List α → Prop) (N : Nat) (w : World) : Prop :=
 ∀ (l : Nat) (J Jx : List α → World → Prop) (W : World), Below w.heap.size w W → w.heap.size + 2 ≤ W.heap.size → AbidesFrom W.heap.size J → AbidesFrom W.heap.size Jx →
  (∀ pre x V, J pre V → RX x V → pre.length < N → YieldAt Fence.wide (n - 1) P l (encs x) V fun e V' =>
   (e = .returned (.bool true) ∧ J (pre ++ [x]) V' ∧ Kp V V') ∨ (e = .returned (.bool false) ∧ Jx (pre ++ [x]) V')) →
  J [] W →
  CallsIn Fence.wide n P g (#[.func (.yield l) #[] #[]] ++ lb) W fun e W' => (∃ v, e = .returned v) ∧ ((∃ xs, S xs ∧ J xs W') ∨ (∃ pre, Sp pre ∧ Jx pre W'))
theorem not_cells {w W1 A B : World} (hs : w.heap.size ≤ W1.heap.size) {row : Option Nat} (hr : ∀ r, row = some r → W1.heap.size ≤ r ∧ ∃ o : Obj, A.heap[r]? = some o ∧ o.isWalk = true) : ∀ r, row = some r → w.heap.size ≤ r ∧ ∃ o : Obj, A.heap[r]? = some o ∧ o.isCells = false := fun r e => by
 obtain ⟨h1, o, h2, h3⟩ := hr r e;exact ⟨Nat.le_trans hs h1, o, h2, Obj.not_cells_of_walk h3⟩
set_option maxHeartbeats 1600000 in
theorem wp_rangeX {P : Program} {α : Type} {g : Operand} {ps : Array Tmp} {assign body : Code} {Q : Exit → Act → World → Prop} {a : Act} {w : World}
  {gf : Nat} {lb : Array Value} (hg : a.eval g = .func (.func gf) #[] lb) (eg : ∀ args w, (callFunc gf args).run P w = .ok (.enter gf args) w)
  {encs : α → Array Value} {RX : α → World → Prop} {Kp : World → World → Prop} {S Sp : List α → Prop} {N : Nat} (hseq : SeqX 2 P gf lb encs RX Kp S Sp N w)
  (hKt : ∀ {A B C : World}, Kp A B → Kp B C → Kp A C) (hKb : ∀ (W : World) (o o' : Obj), W.heap[w.heap.size + 1]? = some o → Kp W (W.putObj (w.heap.size + 1) o')) (hps : ∀ x, (encs x).size = ps.size)
  (I : List α → World → Prop) (Ix : Code → List α → World → Prop) (hI : OwnFrom w.heap.size I) (hIx : ∀ c, OwnFrom w.heap.size (Ix c)) (h0 : I [] w) (Ax : α → Act → World → Prop) (hAx : ∀ x a' W o o', Ax x a' W → W.heap[w.heap.size + 1]? = some o → o.isCells = false → Ax x a' (W.putObj (w.heap.size + 1) o'))
  (hassign : ∀ (l : Nat) (pre : List α) (x : α) (W : World) (K : Act → World → Prop), w.heap.size + 2 ≤ W.heap.size → I pre W → RX x W → (∀ a' W', KeepsFrom w.heap.size W W' → Kp W W' → I pre W' → Ax x a' W' → K a' W') →
   assign.wpIn (Fence.wide.inRound l) 1 P (Exit.then K (fun _ _ _ => False)) { tmps := (ps.zip (encs x)).foldl (fun t (p, v) => t.setIfInBounds p v) a.tmps, defers := [] } W)
  (hbody : ∀ (l : Nat) (pre : List α) (x : α) (a' : Act) (W : World), I pre W → Ax x a' W → pre.length < N → body.wpIn (Fence.wide.inRound l) 1 P (ownPostG w.heap.size Kp I Ix (pre ++ [x]) W) a' W)
  (hdone : ∀ (D : Nat) (xs : List α) (W : World), w.heap.size ≤ D → S xs → I xs W → W.heap[D]? = some (.deferred (some [])) → Q .normal { a with defers := { target := .collected D, args := #[] } :: a.defers } W)
  (hstop : ∀ (D : Nat) (c : Code) (pre : List α) (W : World), w.heap.size ≤ D → Sp pre → Ix c pre W → W.heap[D]? = some (.deferred (some [])) → c.wp P Q { a with defers := { target := .collected D, args := #[] } :: a.defers } W) :
  (Code.rangeFunc g ps assign body).wp P Q a w := by
 refine wpIn_wide.1 (show (Code.rangeFunc g ps assign body).wpIn Fence.wide 3 P Q a w from ?_)
 refine wpIn_rangeFunc fun fn hfn => ?_
 rw [show (Fence.wide).round = none from rfl]
 obtain ⟨rc, erc⟩ : ∃ rc : LoopState → Option Code → Loop, rc = fun st pe => { state := st, pending := pe, fn, tmps := a.tmps, params := ps, assign, body, defers := w.heap.size } := ⟨_, rfl⟩
 obtain ⟨V, eV⟩ : ∃ V, (w.alloc (.deferred (some []))).alloc (.loop (rc .ready none)) = V := ⟨_, rfl⟩
 have sV : w.heap.size ≤ V.heap.size := by rw [← eV]; simp; omega
 have hR : V.heap[w.heap.size + 1]? = some (.loop (rc .ready none)) := by
  rw [← eV]; have := World.alloc_heap_new (w.alloc (.deferred (some []))) (.loop (rc .ready none)); rwa [World.size_alloc] at this
 have hD : V.heap[w.heap.size]? = some (.deferred (some [])) := by
  rw [← eV]; exact (Below.heap_alloc _ _ _ (by simp)).trans (World.alloc_heap_new w _)
 have hIV : I [] V := by rw [← eV]; exact hI.alloc _ (hI.alloc _ h0)
 have hbV : Below w.heap.size w V := by
  rw [← eV]; exact (((Below.refl _ w).alloc (Nat.le_refl _) _).alloc (by simp) _)
 have hsV : w.heap.size + 2 ≤ V.heap.size := by rw [← eV]; simp
 refine ⟨w.heap.size + 1, [{ target := .collected w.heap.size, args := #[] }], V, { target := .fn (.func gf) lb, args := #[.func (.yield (w.heap.size + 1)) #[] #[]] }, V, gf,
  #[.func (.yield (w.heap.size + 1)) #[] #[]] ++ lb, V, ?_, ?_, ?_, ?_, fun _ => by decide, ?_⟩
 ·rw [← eV, erc]; exact run_enterLoop_outer _ _ _ _ _
 ·simp only [resolve, hg]
  simp [go_sem]
 ·intro f' hf'; trivial
 ·simp [invoke, go_sem, eg]
 have keepR : ∀ {A B : World} {row : Option Nat} {k : Nat} {o : Obj}, A.grownBy B row → (∀ r, row = some r → V.heap.size ≤ r ∧ ∃ o : Obj, A.heap[r]? = some o ∧ o.isWalk = true) → A.heap[k]? = some o → o.isWalk = false → B.heap[k]? = some o := fun hg hr hk ho =>
  (grownBy_keeps hg (fun r e => (hr r e).2) hk ho).trans hk
 refine (hseq (w.heap.size + 1) (fun pre W => I pre W ∧ W.heap[w.heap.size + 1]? = some (.loop (rc .ready none)) ∧ W.heap[w.heap.size]? = some (.deferred (some [])))
  (fun pre W => ∃ c, Ix c pre W ∧ W.heap[w.heap.size + 1]? = some (.loop (rc .done (some c))) ∧ W.heap[w.heap.size]? = some (.deferred (some [])))
  V hbV hsV (fun s A B row hs hg' hr => ⟨hI s A B row hs.1 hg' (not_cells (B := B) sV hr), keepR hg' hr hs.2.1 rfl, keepR hg' hr hs.2.2 rfl⟩)
  (fun s A B row hs hg' hr => by
   obtain ⟨c, h1, h2, h3⟩ := hs
   exact ⟨c, hIx c s A B row h1 hg' (not_cells (B := B) sV hr), keepR hg' hr h2 rfl, keepR hg' hr h3 rfl⟩) ?_ ⟨hIV, hR, hD⟩).mono ?_
 ·rintro pre x X ⟨hi, hl, hk⟩ hrx hlen
  have hy := run_yield (P := P) (args := encs x) hl (by rw [erc]; exact hps x);rw [erc] at hy;refine ⟨fn, _, assign, body, hy, roundIn_of_wpIn hfn (hassign _ pre x X _ (Array.getElem?_eq_some_iff.1 hl).1 hi hrx fun a' Y hkf hkp hiY hax => ?_)⟩;have hlY := hkf.same _ _ (by omega) hl rfl;have hkY := hkf.same _ _ (Nat.le_refl _) hk rfl;have hlt : w.heap.size + 1 < Y.heap.size := (Array.getElem?_eq_some_iff.1 hlY).1;refine ⟨_, run_beginRound hlY (by rw [erc]), ?_⟩;have hl2 : (Y.putObj (w.heap.size + 1) (.loop { rc .ready none with state := .busy })).heap[w.heap.size + 1]? = some (.loop { rc .ready none with state := .busy }) := World.putObj_heap_same hlt;have hk2 : (Y.putObj (w.heap.size + 1) (.loop { rc .ready none with state := .busy })).heap[w.heap.size]? = some (.deferred (some [])) := (World.putObj_heap_other (by omega)).trans hkY;refine wpIn_mono (hbody _ pre x a' _ (hI.putObj _ hiY (by omega) hlY rfl) (hAx x a' _ _ _ hax hlY rfl) hlen) ?_
  have fin : ∀ (j : Option Code) (Z : World), KeepsFrom w.heap.size (Y.putObj (w.heap.size + 1) (.loop { rc .ready none with state := .busy })) Z →
    (Instr.endRound (w.heap.size + 1) j).run P Z = .ok (.bool j.isNone) (Z.putObj (w.heap.size + 1) (.loop (rc (if j.isNone then .ready else .done) j))) ∧ Z.heap[w.heap.size + 1]? = some (.loop { rc .ready none with state := .busy }) ∧
    (Z.putObj (w.heap.size + 1) (.loop (rc (if j.isNone then .ready else .done) j))).heap[w.heap.size + 1]? = some (.loop (rc (if j.isNone then .ready else .done) j)) ∧ (Z.putObj (w.heap.size + 1) (.loop (rc (if j.isNone then .ready else .done) j))).heap[w.heap.size]? = some (.deferred (some [])) := fun j Z hZ => by
   have h3 := hZ.same _ _ (by omega) hl2 rfl;have h4 := run_endRound (P := P) j h3;rw [erc] at h3 h4 ⊢;exact ⟨h4, h3, World.putObj_heap_same (Array.getElem?_eq_some_iff.1 h3).1, (World.putObj_heap_other (by omega)).trans (hZ.same _ _ (Nat.le_refl _) hk2 rfl)⟩
  have out : ∀ (c : Code) (Z : World), KeepsFrom w.heap.size (Y.putObj (w.heap.size + 1) (.loop { rc .ready none with state := .busy })) Z → Ix c (pre ++ [x]) Z → ∃ c', Ix c' (pre ++ [x]) (Z.putObj (w.heap.size + 1) (.loop (rc .done (some c)))) ∧ (Z.putObj (w.heap.size + 1) (.loop (rc .done (some c)))).heap[w.heap.size + 1]? = some (.loop (rc .done (some c'))) ∧ (Z.putObj (w.heap.size + 1) (.loop (rc .done (some c)))).heap[w.heap.size]? = some (.deferred (some [])) := fun c Z hZ hi => by
   obtain ⟨_, h3, h4, h5⟩ := fin (some c) Z hZ;exact ⟨c, (hIx c).putObj _ hi (by omega) h3 rfl, h4, h5⟩
  rintro e a3 Z hp
  cases e with
  | normal =>
   obtain ⟨hZ, hkZ, hiZ⟩ := hp;obtain ⟨h2, h3, h4, h5⟩ := fin none Z hZ;exact ⟨_, _, h2, .inl ⟨rfl, ⟨hI.putObj _ hiZ (by omega) h3 rfl, h4, h5⟩, hKt hkp (hKt (hKt (hKb _ _ _ hlY) hkZ) (hKb _ _ _ h3))⟩⟩
  | ret => exact ⟨_, _, (fin (some .ret) Z hp.1).1, .inr ⟨rfl, out _ Z hp.1 hp.2⟩⟩
  | exit id => exact ⟨_, _, (fin (some (.exit id)) Z hp.1).1, .inr ⟨rfl, out _ Z hp.1 hp.2⟩⟩
  | goto t => exact ⟨_, _, (fin (some (.goto t)) Z hp.1).1, .inr ⟨rfl, out _ Z hp.1 hp.2⟩⟩
  | panic ch => exact hp.elim
  | outgrown => exact hp.elim
 ·rintro e Z ⟨⟨v, rfl⟩, (⟨xs, hS, hi, hl, hk⟩ | ⟨pre, hSp, c, hi, hl, hk⟩)⟩
  ·exact ⟨none, _, by have := run_endLoop (P := P) hl (by rw [erc]; simp); rw [erc] at this; exact this, hdone _ xs _ (Nat.le_refl _) hS (hI.putObj _ hi (by omega) hl rfl) ((World.putObj_heap_other (by omega)).trans hk)⟩
  ·exact ⟨some c, _, by have := run_endLoop (P := P) hl (by rw [erc]; simp); rw [erc] at this; exact this, wpIn_wide.2 (hstop _ c pre _ (Nat.le_refl _) hSp ((hIx c).putObj _ hi (by omega) hl rfl) ((World.putObj_heap_other (by omega)).trans hk))⟩
end Go.Proofs.YthpgjgmaamcaoaaDoor.P
end
section
namespace Go.Proofs.YthpgjgmaamcaoaaDoor
open Go.Shelf
def Tryd.lays170_ren : Go.Shelf.Ren := ⟨fun | 170 => 60 | n => n, fun | 70 => 101 | 3 => 3 | 0 => 0 | 72 => 104 | 37 => 102 | 5 => 5 | n => n, fun | n => n⟩
theorem Tryd.lays170 : Go.Proofs.Lays.n170 Tryd.prog Tryd.lays170_ren := {
 mixed := by kernel_rfl
 f170 := Tryd.func60.trans (congrArg some (by kernel_rfl))
 t0 := Tryd.underlying0
 a0 := Tryd.isAgg0
 z0 := Tryd.sizeOf0
 v0 := Tryd.zeroValue0
 t3 := Tryd.underlying3
 a3 := Tryd.isAgg3
 z3 := Tryd.sizeOf3
 v3 := Tryd.zeroValue3
 t37 := Tryd.underlying102
 a37 := Tryd.isAgg102
 z37 := Tryd.sizeOf102
 v37 := Tryd.zeroValue102
 t70 := Tryd.underlying101
 a70 := Tryd.isAgg101
 z70 := Tryd.sizeOf101
 v70 := Tryd.zeroValue101
 t72 := Tryd.underlying104
 a72 := Tryd.isAgg104
 z72 := Tryd.sizeOf104
 v72 := Tryd.zeroValue104 }
open Go.RowKit in
theorem Tryd.Builder_Len (B b : Nat) (bs : List Value) (w : World) (h : Lib.IsBuilder 104 5 B b bs w) :
  Calls Tryd.prog 60 #[.pointer (some ⟨b, 0, none⟩)] w fun e w' => e = .returned (.int .i64 bs.length) ∧ w' = w := Any.Builder_Len Tryd.lays170 B b bs w h
def Tryd.lays169_ren : Go.Shelf.Ren := ⟨fun | 169 => 65 | n => n, fun | 70 => 101 | 9 => 9 | 0 => 0 | 72 => 104 | 37 => 102 | 127 => 136 | 3 => 3 | 5 => 5 | n => n, fun | n => n⟩
theorem Tryd.lays169 : Go.Proofs.Lays.n169 Tryd.prog Tryd.lays169_ren := {
 mixed := by kernel_rfl
 f169 := Tryd.func65.trans (congrArg some (by kernel_rfl))
 t0 := Tryd.underlying0
 a0 := Tryd.isAgg0
 z0 := Tryd.sizeOf0
 v0 := Tryd.zeroValue0
 t3 := Tryd.underlying3
 a3 := Tryd.isAgg3
 z3 := Tryd.sizeOf3
 v3 := Tryd.zeroValue3
 t9 := Tryd.underlying9
 a9 := Tryd.isAgg9
 z9 := Tryd.sizeOf9
 v9 := Tryd.zeroValue9
 t37 := Tryd.underlying102
 a37 := Tryd.isAgg102
 z37 := Tryd.sizeOf102
 v37 := Tryd.zeroValue102
 t70 := Tryd.underlying101
 a70 := Tryd.isAgg101
 z70 := Tryd.sizeOf101
 v70 := Tryd.zeroValue101
 t72 := Tryd.underlying104
 a72 := Tryd.isAgg104
 z72 := Tryd.sizeOf104
 v72 := Tryd.zeroValue104
 t127 := Tryd.underlying136
 a127 := Tryd.isAgg136
 z127 := Tryd.sizeOf136
 v127 := Tryd.zeroValue136 }
theorem Tryd.Builder_Extra_169 : Builder.Extra Tryd.prog Tryd.lays169_ren := {
 sizeBuilder := by kernel_rfl
 liesBuilder := by kernel_rfl
 t5 := Tryd.underlying5
 a5 := Tryd.isAgg5
 z5 := Tryd.sizeOf5
 v5 := Tryd.zeroValue5
 infoByte := by kernel_rfl
 cellsByte := by kernel_rfl
 sizeByte := by kernel_rfl
 neB5 := by decide }
open Go.RowKit in
theorem Tryd.Builder_String_any_k (B b : Nat) (l : List UInt8) (w : World) (h : Lib.IsBuilderF 104 5 B b (Lib.byteCells l) w) (hBw : B ≤ w.heap.size) :
  Calls Tryd.prog 65 #[.pointer (some ⟨b, 0, none⟩)] w fun e w' => e = .returned (.string ⟨l.toArray⟩) ∧ (Lib.IsBuilderF 104 5 B b (Lib.byteCells l) w' ∧ Below B w w' ∧ Lib.OthersKept 5 (some b) w w') := Any.Builder_String_any_k Tryd.lays169 Tryd.Builder_Extra_169 B b l w h hBw
def Tryd.laysM171_ren : Go.Shelf.Ren := ⟨fun | 171 => 64 | 243 => 90 | 246 => 105 | 283 => 108 | 284 => 109 | 285 => 110 | 286 => 111 | 129 => 114 | 317 => 113 | 318 => 115 | 319 => 116 | 320 => 117 | 337 => 118 | 338 => 119 | n => n, fun | 3 => 3 | 9 => 9 | 2 => 2 | 4 => 4 | 171 => 158 | 0 => 0 | 53 => 61 | 37 => 102 | 5 => 5 | 173 => 161 | 212 => 165 | 51 => 93 | 20 => 20 | 213 => 166 | 46 => 148 | 232 => 169 | 233 => 170 | n => n, fun | 17 => 0 | 18 => 1 | 19 => 2 | n => n⟩
theorem Tryd.laysM171 : Go.Proofs.LaysM.n171 Tryd.prog Tryd.laysM171_ren := {
 mixed := by kernel_rfl
 f129 := Tryd.func114.trans (congrArg some (by kernel_rfl))
 f171 := Tryd.func64.trans (congrArg some (by kernel_rfl))
 f243 := Tryd.func90.trans (congrArg some (by kernel_rfl))
 f246 := Tryd.func105.trans (congrArg some (by kernel_rfl))
 f283 := Tryd.func108.trans (congrArg some (by kernel_rfl))
 f284 := Tryd.func109.trans (congrArg some (by kernel_rfl))
 f285 := Tryd.func110.trans (congrArg some (by kernel_rfl))
 f286 := Tryd.func111.trans (congrArg some (by kernel_rfl))
 f317 := Tryd.func113.trans (congrArg some (by kernel_rfl))
 f318 := Tryd.func115.trans (congrArg some (by kernel_rfl))
 f319 := Tryd.func116.trans (congrArg some (by kernel_rfl))
 f320 := Tryd.func117.trans (congrArg some (by kernel_rfl))
 f337 := Tryd.func118.trans (congrArg some (by kernel_rfl))
 f338 := Tryd.func119.trans (congrArg some (by kernel_rfl))
 t0 := Tryd.underlying0
 a0 := Tryd.isAgg0
 z0 := Tryd.sizeOf0
 v0 := Tryd.zeroValue0
 t2 := Tryd.underlying2
 a2 := Tryd.isAgg2
 z2 := Tryd.sizeOf2
 v2 := Tryd.zeroValue2
 t3 := Tryd.underlying3
 a3 := Tryd.isAgg3
 z3 := Tryd.sizeOf3
 v3 := Tryd.zeroValue3
 t4 := Tryd.underlying4
 a4 := Tryd.isAgg4
 z4 := Tryd.sizeOf4
 v4 := Tryd.zeroValue4
 t5 := Tryd.underlying5
 a5 := Tryd.isAgg5
 z5 := Tryd.sizeOf5
 v5 := Tryd.zeroValue5
 t9 := Tryd.underlying9
 a9 := Tryd.isAgg9
 z9 := Tryd.sizeOf9
 v9 := Tryd.zeroValue9
 t20 := Tryd.underlying20
 a20 := Tryd.isAgg20
 z20 := Tryd.sizeOf20
 v20 := Tryd.zeroValue20
 t37 := Tryd.underlying102
 a37 := Tryd.isAgg102
 z37 := Tryd.sizeOf102
 v37 := Tryd.zeroValue102
 t46 := Tryd.underlying148
 a46 := Tryd.isAgg148
 z46 := Tryd.sizeOf148
 v46 := Tryd.zeroValue148
 t51 := Tryd.underlying93
 a51 := Tryd.isAgg93
 z51 := Tryd.sizeOf93
 v51 := Tryd.zeroValue93
 t53 := Tryd.underlying61
 a53 := Tryd.isAgg61
 z53 := Tryd.sizeOf61
 v53 := Tryd.zeroValue61
 t171 := Tryd.underlying158
 a171 := Tryd.isAgg158
 z171 := Tryd.sizeOf158
 v171 := Tryd.zeroValue158
 t173 := Tryd.underlying161
 a173 := Tryd.isAgg161
 z173 := Tryd.sizeOf161
 v173 := Tryd.zeroValue161
 t212 := Tryd.underlying165
 a212 := Tryd.isAgg165
 z212 := Tryd.sizeOf165
 v212 := Tryd.zeroValue165
 t213 := Tryd.underlying166
 a213 := Tryd.isAgg166
 z213 := Tryd.sizeOf166
 t232 := Tryd.underlying169
 a232 := Tryd.isAgg169
 z232 := Tryd.sizeOf169
 v232 := Tryd.zeroValue169
 t233 := Tryd.underlying170
 a233 := Tryd.isAgg170
 z233 := Tryd.sizeOf170
 v233 := Tryd.zeroValue170
 g17 := by kernel_rfl
 g18 := by kernel_rfl
 g19 := by kernel_rfl
 i0 := by kernel_rfl
 i2 := by kernel_rfl
 i3 := by kernel_rfl
 i4 := by kernel_rfl
 i5 := by kernel_rfl
 i9 := by kernel_rfl
 i20 := by kernel_rfl
 i37 := by kernel_rfl
 i46 := by kernel_rfl
 i51 := by kernel_rfl
 i53 := by kernel_rfl
 i171 := by kernel_rfl
 i173 := by kernel_rfl
 i212 := by kernel_rfl
 i232 := by kernel_rfl
 i233 := by kernel_rfl
 m17 := by kernel_rfl
 m18 := by kernel_rfl
 m19 := by kernel_rfl }
open Go.RowKit Go.Sort Go.Lib in
theorem Tryd.strconv_Itoa (n : Int) (h0 : -9223372036854775808 ≤ n) (h1 : n ≤ 9223372036854775807) (w : World) (htab : Lib.TabIs Tryd.prog w "internal/strconv.uint64pow10" .u64 Lib.pow10Tab) :
  Calls Tryd.prog 64 #[.int .i64 n] w fun e w' => e = .returned (.string ⟨(Lib.itoa n).toArray⟩) ∧ ∃ k os, w' = grow (w.drewN k) os := Any.strconv_Itoa Tryd.laysM171 n h0 h1 w htab
end Go.Proofs.YthpgjgmaamcaoaaDoor
end
section
namespace Go.Proofs.YthpgjgmaamcaoaaDoor.P
open Go.RowKit Go.Shelf Go.Proofs.YthpgjgmaamcaoaaDoorW.PrintWords Go.Proofs.YthpgjgmaamcaoaaDoorW.PrintLast Go.Proofs.YthpgjgmaamcaoaaDoorW.PrintMore
set_option maxRecDepth 100000
set_option linter.unusedVariables false
set_option linter.unusedSimpArgs false
def bufOf (W : World) (b : Nat) : Option Nat := (W.cell? ⟨b, 1, none⟩).bind Value.ownBlock
structure KpB (b R : Nat) (W W' : World) : Prop where
 size : W.heap.size ≤ W'.heap.size
 keep : ∀ k, k < W.heap.size → k ≠ b → k ≠ R → some k ≠ bufOf W b → W'.heap[k]? = W.heap[k]?
 buf : ∀ g, bufOf W' b = some g → bufOf W b = some g ∨ W.heap.size ≤ g
section
variable {b R : Nat} {X Y Z : World}
theorem KpB.refl (W : World) : KpB b R W W := ⟨Nat.le_refl _, fun _ _ _ _ _ => rfl, fun _ h => .inl h⟩
theorem KpB.trans (h : KpB b R X Y) (k : KpB b R Y Z) : KpB b R X Z :=
 ⟨Nat.le_trans h.size k.size, fun i hi h1 h2 h3 => (k.keep i (Nat.lt_of_lt_of_le hi h.size) h1 h2 (fun e => (h.buf i e.symm).elim (fun e2 => h3 e2.symm) (fun hle => by omega))).trans (h.keep i hi h1 h2 h3), fun g hg => (k.buf g hg).elim (fun e => h.buf g e) (fun hle => .inr (Nat.le_trans h.size hle))⟩
theorem bufOf_eq (h : Y.heap[b]? = X.heap[b]?) : bufOf Y b = bufOf X b := by unfold bufOf World.cell?; rw [h]
theorem KpB.below (hb : Below X.heap.size X Y) (hlt : b < X.heap.size) : KpB b R X Y := ⟨hb.size, fun k hk _ _ _ => hb.block k hk, fun g hg => .inl (by rw [← bufOf_eq (hb.block b hlt)]; exact hg)⟩
theorem KpB.putR (W : World) (o : Obj) (hne : b ≠ R) : KpB b R W (W.putObj R o) :=
 ⟨by simp [World.putObj], fun k _ _ h2 _ => World.putObj_heap_other h2, fun g hg => .inl (by rw [← hg]; exact (bufOf_eq (World.putObj_heap_other hne)).symm)⟩
end
theorem infoU8 : (Tryd.prog.info? 5).map (fun i => (i.zero, i.size, i.bytes)) = some (some (.int .u8 0), 1, 1) := by kernel_rfl
theorem infoSB : (Tryd.prog.info? 104).map (·.size) = some 2 := by kernel_rfl
theorem liesSB : liesAt Tryd.prog Tryd.prog.depth 104 (2 / Tryd.prog.cellsOf 104) 0 104 1 = true := by kernel_rfl
set_option maxHeartbeats 1000000 in
theorem sb_copyCheck (B b R : Nat) (bs : List Value) (w : World) (h : Lib.IsBuilder 104 5 B b bs w) :
  Calls Tryd.prog 88 #[.pointer (some ⟨b, 0, none⟩)] w fun e w' => e = .returned (.tuple #[]) ∧ Lib.BuilderAt 104 5 B b (.pointer (some ⟨b, 0, none⟩)) bs w' ∧ Below B w w' ∧ KpB b R w w' ∧ KeepsOthers w w' := by
 obtain ⟨j, hj, hjs⟩ := Option.map_eq_some_iff.1 infoSB
 rcases h with h | h
 ·have h0 := h.cell0
  have hsh := h.shape;have hfz := h.frozen0
  have hE : Lib.BuilderAt 104 5 B b (.pointer (some ⟨b, 0, none⟩)) bs (w.setCell ⟨b, 0, none⟩ (.pointer (some ⟨b, 0, none⟩))) ∧ Below B w (w.setCell ⟨b, 0, none⟩ (.pointer (some ⟨b, 0, none⟩))) ∧ KpB b R w (w.setCell ⟨b, 0, none⟩ (.pointer (some ⟨b, 0, none⟩))) ∧ KeepsOthers w (w.setCell ⟨b, 0, none⟩ (.pointer (some ⟨b, 0, none⟩))) := by
   refine ⟨h.used _, (Below.refl B w).setCell (p := ⟨b, 0, none⟩) h.1 _, ⟨by simp, fun k _ h1 _ _ => Below.heap_setCell _ _ _ _ h1, fun g hg => .inl ?_⟩, KeepsOthers.setCell _ _ _⟩;rw [← hg];unfold bufOf
   congr 1
   exact (World.cell?_setCell_other w ⟨b, 0, none⟩ ⟨b, 1, none⟩ _ (by simp)).symm
  have hE := Sdq.mk hE;clear h;go_enter Tryd.func88, Tryd.ntmps88;go_wp2;rw [Lib.run_to_unsafe w ⟨b, 0, none⟩ Tryd.underlying101 Tryd.underlying152 hj (by rw [hjs]; decide) hsh (Nat.zero_lt_succ 1)];simp only [Result.andThen];rw [Oper.upon_value];go_wp2;rw [run_callFunc_extern Tryd.func103 (by kernel_rfl) (by kernel_rfl) (by kernel_rfl) (e := Extern.AbiNoEscape.same) (by kernel_rfl)];rw [Lib.run_noEscape];simp only [Result.andThen];rw [Oper.upon_value];go_wp2;rw [Lib.run_from_unsafe w ⟨b, 0, none⟩ Tryd.underlying152 Tryd.underlying101 hj hsh liesSB];simp only [Result.andThen];rw [Oper.upon_value];go_wp2
  go_end0
  exact ⟨rfl, hE.out⟩
 ·have h0 := h.cell0
  have hE := Sdq.mk h;clear h;go_enter Tryd.func88, Tryd.ntmps88;go_wp2;rw [Lib.run_neq_ptr_same w _ Tryd.underlying101 hj];go_wp2
  go_end0
  exact ⟨rfl, hE.out, Below.refl _ _, KpB.refl _, KeepsOthers.refl _⟩
theorem kpB_grow {b R B : Nat} {w w1 w2 : World} {v v' : Value} {n : Nat} {bs' : List Value} (hk : KpB b R w w1) (hc : w1.cell? ⟨b, 1, none⟩ = some v) (hg : w1.grownBy w2 v.ownBlock) (hown : w2.ownsRow B 5 1 v' n bs') (hnew : ∀ g, v'.ownBlock = some g → v.ownBlock = some g ∨ w1.heap.size ≤ g) (hb : b < w1.heap.size) (hne : v.ownBlock ≠ some b) : KpB b R w (w2.setCell ⟨b, 1, none⟩ v') := by
 refine hk.trans ⟨by simpa using hg.size, fun k hk h1 h2 h3 => ?_, fun g hg2 => ?_⟩
 ·refine (Below.heap_setCell _ _ _ _ h1).trans (hg.block k hk ?_)
  unfold bufOf at h3;rw [hc] at h3;exact h3
 ·have hc2 : w2.cell? ⟨b, 1, none⟩ = some v := by rw [← hc]; exact World.cell?_of_block (hg.block b hb (fun e => hne e.symm))
  have h1 : bufOf (w2.setCell ⟨b, 1, none⟩ v') b = v'.ownBlock := by
   unfold bufOf;rw [World.cell?_setCell_same' w2 ⟨b, 1, none⟩ v' (by rw [hc2]; rfl)]
   rfl
  rw [h1] at hg2;unfold bufOf;rw [hc];exact hnew g hg2
theorem below_grown {W W' : World} (h : Below W.heap.size W W') : W.grownBy W' none := ⟨h.os, h.tape, h.output, h.size, fun k hk _ => h.block k hk⟩
theorem own_kept {W W' : World} {base e size n : Nat} {v : Value} {xs : List Value} (h : W.ownsRow base e size v n xs) (hg : W.grownBy W' v.ownBlock) : KeepsOthers W W' :=
 ⟨hg.size, fun k o hk ho => (hg.block k (Array.getElem?_eq_some_iff.1 hk).1 (fun e => by
  rcases h.2 with ⟨h2, _⟩ | ⟨g', cap', cur, h2, hb, hc, _⟩
  ·rw [h2] at e; cases e
  ·rw [h2] at e
   simp only [Value.ownBlock, Option.some.injEq] at e;rw [e, hc] at hk;cases hk
   cases ho)).trans hk⟩
theorem str_lies {P : Program} (w : World) (base : Nat) (t u ty e : TypeId) (i : TypeInfo) (ht : P.underlying t = some (.slice e)) (hu : P.underlying u = some .string) (hi : P.info? e = some i) (hz : i.zero = some (.int .u8 0))
  (hsize : i.size = 1) (hby : i.bytes = 1) (v : Value) (n : Nat) (xs : List Value) (hown : w.ownsRow base e 1 v n xs) (s : ByteArray) (h63 : n + s.size ≤ maxLen) (hbytes : n + s.size ≤ 140737488355328)
  {v' : Value} {w' : World} (h : (Builtin.append_ #[t, u] ty #[v, .string s]).run P w = .ok v' w') : v'.ownBlock = v.ownBlock ∨ ∃ b, v'.ownBlock = some b ∧ w.heap.size ≤ b := by
 have hsmall : n + s.size ≤ 9223372036854775807 := by simp only [maxLen] at h63; omega
 have hxl : xs.length = n := by simpa using hown.1
 rcases hown.2 with ⟨rfl, rfl⟩ | ⟨g, cap, cur, rfl, hbg, hg, hnc, hcm, hcs, htake⟩
 ·by_cases hm : s.size = 0
  ·have hf := Lib.run_firstCells_string (P := P) w 1 s
   rw [hm] at hf
   simp [Builtin.append_, run_underlying ht, run_underlying hu, sizeOf, typeInfo, hi, hsize, Builtin.lenOf, hm, hf] at h
   rw [← h.1];exact .inl rfl
  ·have hr := run_append_nil_string (P := P) w t u ty e i (.int .u8 0) ht hu hi hz s (by omega) (by omega) (by rw [hby]; omega)
   rw [hr] at h
   injection h with h1 h2
   rw [← h1];exact .inr ⟨w.heap.size, rfl, Nat.le_refl _⟩
 ·by_cases hroom : n + s.size ≤ cap
  ·have hcs' : cur.size = cap := by simpa using hcs
   have hr := Lib.run_append_room_string (P := P) w t u ty e i ht hu hi hsize g n cap cur hg s hroom (by omega);rw [hr] at h
   injection h with h1 h2
   rw [← h1];exact .inl rfl
  ·have holds : ∀ j u, xs[j]? = some u → w.cell? ((⟨g, 0, none⟩ : Addr).add j) = some u := hown.cells (g := g) rfl
   have hr := Lib.run_append_grow_string (P := P) w t u ty e i (.int .u8 0) ht hu hi hz ⟨g, 0, none⟩ n cap xs (by rw [hsize]; simpa using hxl) holds s (by omega) (by omega) (by rw [hby]; exact growslice_fits (by omega) (by omega));rw [hr] at h
   injection h with h1 h2
   rw [← h1];exact .inr ⟨w.heap.size, rfl, Nat.le_refl _⟩
theorem wpl_append_str {P : Program} {w : World} {ops : Array Oper} {rest : List Oper} {o : Oper} {a : Act} {Q : Exit → Act → World → Prop} (hgd : o.guard = none) (sl x : Operand) (t u : TypeId)
  (ho : o.op = .call { callee := .builtin .append, args := #[sl, x], argTypes := #[t, u] })
  (base : Nat) (e : TypeId) (i : TypeInfo) (ht : P.underlying t = some (.slice e)) (hu : P.underlying u = some .string) (hi : P.info? e = some i) (hz : i.zero = some (.int .u8 0))
  (hsize : i.size = 1) (hby : i.bytes = 1)
  (v : Value) (n : Nat) (xs : List Value) (hs : a.eval sl = v) (hown : w.ownsRow base e 1 v n xs) (s : ByteArray) (hx : a.eval x = .string s)
  (h63 : n + s.size ≤ maxLen) (hbytes : n + s.size ≤ 140737488355328) (hbase : base ≤ w.heap.size)
  (h : ∀ v' w', w'.ownsRow base e 1 v' (n + s.size) (xs ++ Lib.strCells s) → w.grownBy w' v.ownBlock → (∀ g, v'.ownBlock = some g → v.ownBlock = some g ∨ w.heap.size ≤ g) → wpList P ops Q rest (a.put o.dst v') w') : wpList P ops Q (o :: rest) a w := by
 refine wpList_plain hgd fun K hK => ?_
 obtain ⟨v', w', hr, h2, h3, h4⟩ := Lib.run_append_own_string (P := P) w base t u o.type e i ht hu hi hz hsize hby v n xs hown s h63 hbytes hbase;have hat := str_lies w base t u o.type e i ht hu hi hz hsize hby v n xs hown s h63 hbytes hr;unfold Oper.wp execOp;simp only [ho, resolve, invoke, builtin, Sem.run_bind, Sem.run_pure, Result.andThen_ok, List.map_toArray, List.map_cons, List.map_nil, hs, hx, hr];refine hK _ _ (h v' w' h2 h3 (fun g hg => ?_))
 rcases hat with e1 | ⟨b, e1, hb⟩
 ·exact .inl (by rw [← e1]; exact hg)
 ·rw [e1] at hg
  injection hg with hg
  exact .inr (by omega)
set_option maxHeartbeats 1600000 in
theorem sb_WriteString (B b R : Nat) (bs : List Value) (s : ByteArray) (w : World) (h : Lib.IsBuilder 104 5 B b bs w) (hlen : bs.length + s.size ≤ 140737488355328) (hBw : B ≤ w.heap.size) :
  Calls Tryd.prog 62 #[.pointer (some ⟨b, 0, none⟩), .string s] w fun e w' => e = .returned (.tuple #[.int .i64 s.size, .nilIface]) ∧ Lib.IsBuilder 104 5 B b (bs ++ Lib.strCells s) w' ∧ Below B w w' ∧ KpB b R w w' ∧ KeepsOthers w w' := by
 obtain ⟨i0, hi, hz0, hz1, hz2⟩ := info_parts infoU8;go_enter Tryd.func62, Tryd.ntmps62;go_wp2_with (go_at_call 88; refine (sb_copyCheck B b R bs _ h).mono ?_);rintro e w1 ⟨rfl, h1, hb1, hk1, ho1⟩;obtain ⟨hB, v, hbk, hown, hne⟩ := h1
 have c0 : w1.cell? ⟨b, 0, none⟩ = some (.pointer (some ⟨b, 0, none⟩)) := by rw [Lib.cell_of_heap hbk]; rfl
 have c1 : w1.cell? ⟨b, 1, none⟩ = some v := by rw [Lib.cell_of_heap hbk]; rfl
 have hlt : b < w1.heap.size := (Array.getElem?_eq_some_iff.1 hbk).1
 go_wp2_with ((with_reducible refine gate_builtin (b := .append) (xs := #[.tmp 12, .tmp 13]) rfl ?_); at_builtin; go_loud (refine wpl_append_str rfl (.tmp 12) (.tmp 13) 102 9 rfl B 5 i0 Tryd.underlying102 Tryd.underlying9 hi hz0 hz1 hz2 _ _ _ rfl hown s rfl ?c3 ?c4 ?c5 ?_))
 case c3 => unfold maxLen; omega
 case c4 => omega
 case c5 => have := hb1.size; omega
 intro v' w2 hown' hg hnew;have hb2 : w2.heap[b]? = some (.cells #[.pointer (some ⟨b, 0, none⟩), v] 104 (0, 0)) := (hg.block b hlt (fun e => hne e.symm)).trans hbk
 have d0 : w2.cell? ⟨b, 0, none⟩ = some (.pointer (some ⟨b, 0, none⟩)) := by rw [Lib.cell_of_heap hb2]; rfl
 have d1 : w2.cell? ⟨b, 1, none⟩ = some v := by rw [Lib.cell_of_heap hb2]; rfl
 have f1 : w2.frozen? ⟨b, 1, none⟩ = false := Lib.frozen_of_heap hb2 1
 obtain ⟨ao, n', cap, rfl⟩ : ∃ ao n' cap, v' = .slice ao n' cap := by
  rcases hown'.2 with ⟨hv, _⟩ | ⟨g, cap, cur, hv, _⟩
  ·exact ⟨_, _, _, hv⟩
  ·exact ⟨_, _, _, hv⟩
 have E := Sdq.mk (show Lib.IsBuilder 104 5 B b (bs ++ Lib.strCells s) (w2.setCell ⟨b, 1, none⟩ (.slice ao n' cap)) ∧ Below B w (w2.setCell ⟨b, 1, none⟩ (.slice ao n' cap)) ∧ KpB b R w (w2.setCell ⟨b, 1, none⟩ (.slice ao n' cap)) ∧ KeepsOthers w (w2.setCell ⟨b, 1, none⟩ (.slice ao n' cap)) from
  ⟨.inr (Lib.BuilderAt.put (T := 104) (e := 5) hB hb2 (bs' := bs ++ Lib.strCells s) (by simpa [Lib.strCells_length] using hown') (by decide)), (hb1.grown hg (by have := hb1.size; omega) (own_base hown)).setCell (p := ⟨b, 1, none⟩) hB _, kpB_grow hk1 c1 hg hown' hnew hlt hne, (ho1.trans (own_kept hown hg)).trans (KeepsOthers.setCell _ _ _)⟩)
 clear hown' hg hnew hown hb2 hk1 hb1 ho1 hbk h c0 c1;go_wp2
 go_ret2
 exact ⟨rfl, E.out⟩
set_option maxHeartbeats 1600000 in
theorem sb_WriteByte (B b R : Nat) (bs : List Value) (c : Int) (w : World) (h : Lib.IsBuilder 104 5 B b bs w) (hlen : bs.length + 1 ≤ 140737488355328) (hBw : B ≤ w.heap.size) :
  Calls Tryd.prog 61 #[.pointer (some ⟨b, 0, none⟩), .int .u8 c] w fun e w' => e = .returned .nilIface ∧ Lib.IsBuilder 104 5 B b (bs ++ [.int .u8 c]) w' ∧ Below B w w' ∧ KpB b R w w' ∧ KeepsOthers w w' := by
 obtain ⟨i0, hi, hz0, hz1, hz2⟩ := info_parts infoU8;go_enter Tryd.func61, Tryd.ntmps61;go_wp2_with (go_at_call 88; refine (sb_copyCheck B b R bs _ h).mono ?_);rintro e w1 ⟨rfl, h1, hb1, hk1, ho1⟩;obtain ⟨hB, v, hbk, hown, hne⟩ := h1
 have c0 : w1.cell? ⟨b, 0, none⟩ = some (.pointer (some ⟨b, 0, none⟩)) := by rw [Lib.cell_of_heap hbk]; rfl
 have c1 : w1.cell? ⟨b, 1, none⟩ = some v := by rw [Lib.cell_of_heap hbk]; rfl
 have hlt : b < w1.heap.size := (Array.getElem?_eq_some_iff.1 hbk).1
 obtain ⟨w1', ew1⟩ : ∃ w1', w1' = w1.alloc (.cells #[.int .u8 c] 5) := ⟨_, rfl⟩
 have hba : Below w1.heap.size w1 w1' := by rw [ew1]; exact bal (Below.refl _ _) _
 have hbk' := (hba.block b hlt).trans hbk;have hown1 := hown.alloc (.cells #[.int .u8 c] 5);rw [← ew1] at hown1
 have c1' : w1'.cell? ⟨b, 1, none⟩ = some v := by rw [Lib.cell_of_heap hbk']; rfl
 have hnw : ∀ j u, ([.int .u8 c] : List Value)[j]? = some u → w1'.cell? ((⟨w1.heap.size, 0, none⟩ : Addr).add j) = some u := by
  intro j u hu
  match j, hu with
  | 0, hu =>
   simp at hu
   subst hu;rw [ew1]
   simp [Addr.add]
 have hs1 := hba.size
 go_wp2_with ((with_reducible refine gate_builtin (b := .append) (xs := #[.tmp 11, .tmp 13]) rfl ?_); at_builtin; rw [← ew1]; go_loud (refine wpList_append_own_at _ rfl (.tmp 11) (.tmp 13) 102 rfl B 5 i0 (.int .u8 0) 1 1 Tryd.underlying102 hi hz0 hz1 hz2 rfl (by decide) _ _ _ rfl hown1 ⟨w1.heap.size, 0, none⟩ 1 1 [.int .u8 c] rfl rfl hnw (by intro u hu; simp at hu; subst hu; rfl) (by unfold maxLen; omega) (by omega) (by have := hb1.size; omega) ?_))
 intro v' w2 hown' hg _ hat
 try rw [← ew1] at hg
 try rw [← ew1] at hat
 have hnew : ∀ g, v'.ownBlock = some g → v.ownBlock = some g ∨ w1'.heap.size ≤ g := fun g hg => by
  rcases hat with e1 | e1
  ·exact .inl (by rw [← e1]; exact hg)
  ·rw [e1] at hg
   exact .inr (Nat.le_of_eq ((show w1'.heap.size = w1.heap.size + 1 by rw [ew1]; exact World.size_alloc _ _).trans (Option.some.inj hg)))
 have hlt' : b < w1'.heap.size := Nat.lt_of_lt_of_le hlt hs1;have hb2 : w2.heap[b]? = some (.cells #[.pointer (some ⟨b, 0, none⟩), v] 104 (0, 0)) := (hg.block b hlt' (fun e => hne e.symm)).trans hbk'
 have d0 : w2.cell? ⟨b, 0, none⟩ = some (.pointer (some ⟨b, 0, none⟩)) := by rw [Lib.cell_of_heap hb2]; rfl
 have d1 : w2.cell? ⟨b, 1, none⟩ = some v := by rw [Lib.cell_of_heap hb2]; rfl
 have f1 : w2.frozen? ⟨b, 1, none⟩ = false := Lib.frozen_of_heap hb2 1
 obtain ⟨ao, n', cap, rfl⟩ : ∃ ao n' cap, v' = .slice ao n' cap := by
  rcases hown'.2 with ⟨hv, _⟩ | ⟨g, cap, cur, hv, _⟩
  ·exact ⟨_, _, _, hv⟩
  ·exact ⟨_, _, _, hv⟩
 have hB1 : Below B w w1' := hb1.trans (hba.mono (by have := hb1.size; omega))
 have E := Sdq.mk (show Lib.IsBuilder 104 5 B b (bs ++ [.int .u8 c]) (w2.setCell ⟨b, 1, none⟩ (.slice ao n' cap)) ∧ Below B w (w2.setCell ⟨b, 1, none⟩ (.slice ao n' cap)) ∧ KpB b R w (w2.setCell ⟨b, 1, none⟩ (.slice ao n' cap)) ∧ KeepsOthers w (w2.setCell ⟨b, 1, none⟩ (.slice ao n' cap)) from
  ⟨.inr (Lib.BuilderAt.put (T := 104) (e := 5) hB hb2 (bs' := bs ++ [.int .u8 c]) (by simpa using hown') (by decide)), (hB1.grown hg (by have := hB1.size; omega) (own_base hown1)).setCell (p := ⟨b, 1, none⟩) hB _, kpB_grow (hk1.trans (KpB.below hba hlt)) c1' hg hown' hnew hlt' hne, ((ho1.trans (KeepsOthers.of_grownBy (below_grown hba) (fun j o e _ => by cases e))).trans (own_kept hown1 hg)).trans (KeepsOthers.setCell _ _ _)⟩)
 clear hown' hg hnew hown hb2 hk1 hb1 ho1 hbk h c0 c1 hown1 hnw hbk' c1' hba ew1 hB1 hat;go_wp2;go_ret;exact ⟨rfl, E.out⟩
end Go.Proofs.YthpgjgmaamcaoaaDoor.P
end
section
namespace Go.Proofs.YthpgjgmaamcaoaaDoor.P
open Go.RowKit Go.Shelf Go.Proofs.YthpgjgmaamcaoaaDoorW.PrintWords Go.Proofs.YthpgjgmaamcaoaaDoorW.PrintLast Go.Proofs.YthpgjgmaamcaoaaDoorW.PrintMore Go.Proofs.YthpgjgmaamcaoaaDoor.Nm
set_option maxRecDepth 100000
set_option linter.unusedVariables false
set_option linter.unusedSimpArgs false
set_option maxHeartbeats 1600000 in
theorem lin_Equal (v u : Value) (x y : TB) (w0 : World) (h : Kv kTB (fun _ => True) w0 v x) (h' : Kv kTB (fun _ => True) w0 u y) (hx : SIn x) (hy : SIn y) (hxy : x.f1.length + y.f1.length ≤ 39) :
  Calls Tryd.prog 27 #[v, u] w0 fun e w' => e = .returned (.bool (decide (LnP.nrm (psB x.f1 ++ (psB y.f1).map (fun p : Int × Int => (p.1, -p.2))) = [] ∧ bv x.f0 - bv y.f0 = 0))) ∧ Below w0.heap.size w0 w' := by
 obtain ⟨A, c, B, d, rfl, -, -⟩ := h.openTB;obtain ⟨A2, c2, B2, d2, rfl, -, -⟩ := h'.openTB;have C := Ctx.new (cs := [.bool y.f0.f0, .slice A2 y.f0.f1.length c2, .slice B2 y.f1.length d2]) (t := 27) (Ctx.new (cs := [.bool x.f0.f0, .slice A x.f0.f1.length c, .slice B x.f1.length d]) (t := 27) (Ctx.cons (uB w0) (Below.refl _ _) (Ctx.cons (uK kTB (fun _ => True) (.agg #[.bool x.f0.f0, .slice A x.f0.f1.length c, .slice B x.f1.length d]) x) h (Ctx.cons (uK kTB (fun _ => True) (.agg #[.bool y.f0.f0, .slice A2 y.f0.f1.length c2, .slice B2 y.f1.length d2]) y) h' Ctx.nil))));simp only [World.size_alloc] at C
 obtain ⟨s, hsE⟩ : ∃ s, s = decide (LnP.nrm (psB x.f1 ++ (psB y.f1).map (fun p : Int × Int => (p.1, -p.2))) = [] ∧ bv x.f0 - bv y.f0 = 0) := ⟨_, rfl⟩
 rw [← hsE];have hS := Sdq.mk (fun W (hW : Ctx [uK kTB (fun _ => True) (.agg #[.bool x.f0.f0, .slice A x.f0.f1.length c, .slice B x.f1.length d]) x, uK kTB (fun _ => True) (.agg #[.bool y.f0.f0, .slice A2 y.f0.f1.length c2, .slice B2 y.f1.length d2]) y] W) => lin_Sub (fun _ => True) _ _ x y W (fun _ _ => trivial) hW.1 hW.2.1 hx hy hxy)
 obtain ⟨N, eN⟩ : ∃ N, N = LnP.nrm (psB x.f1 ++ (psB y.f1).map (fun p : Int × Int => (p.1, -p.2))) := ⟨_, rfl⟩
 obtain ⟨k, ek⟩ : ∃ k, k = bv x.f0 - bv y.f0 := ⟨_, rfl⟩
 rw [← eN, ← ek] at hS hsE;have hs := Sdq.mk hsE;clear h h' hx hy hxy eN ek hsE;go_enter Tryd.func27, Tryd.ntmps27
 go_upto_region 1 with fail
 refine absW _ C ?_;clear C;intro w1 C;have y0 := Ctx.blk C.1 0 rfl;have y1 := Ctx.blk C.1 1 rfl;have y2 := Ctx.blk C.1 2 rfl;have x0 := Ctx.blk C.2.1 0 rfl;have x1 := Ctx.blk C.2.1 1 rfl;have x2 := Ctx.blk C.2.1 2 rfl;have hS := hS.out w1 ⟨C.2.2.2.1, C.2.2.2.2.1, trivial⟩;have hbe := Sdq.mk (show Below w0.heap.size w0 w1 from C.2.2.1);clear C
 go_upto_region 2 with (go_at_call 19; refine hS.mono ?_; rintro e2 w2 ⟨v2, rfl, hv2, hb2⟩; obtain ⟨yA, yc, yB, yd, rfl, hk2, hp2⟩ := hv2.openTB)
 have hbe2 := Sdq.mk (below_step hbe.out hb2)
 have hsg := fun W (hb : Below w2.heap.size w2 W) => big_Sign _ (can k) W (hk2.below hb) (can_dg k)
 rw [bv_can] at hsg;have hsg := Sdq.mk hsg
 have hl0 : ((tt k N).f1.length : Int) = (N.length : Int) := by unfold tt; simp
 obtain ⟨nl, enl⟩ : ∃ nl, nl = (tt k N).f1.length := ⟨_, rfl⟩
 rw [← enl] at hl0 ⊢;have hl := Sdq.mk hl0;clear hl0 enl hv2 hk2 hp2 hS x0 x1 x2 y0 y1 y2 hb2;have C := Ctx.new (cs := [.bool (tt k N).f0.f0, .slice yA (tt k N).f0.f1.length yc, .slice yB nl yd]) (t := 27) (Ctx.cons (uB w2) (Below.refl _ _) Ctx.nil);refine absW _ C ?_;clear C;generalize hg5 : w2.heap.size = g5;rw [hg5] at hsg;intro w3 C;have z0 := Ctx.blk C.1 0 rfl;have z1 := Ctx.blk C.1 1 rfl;have z2 := Ctx.blk C.1 2 rfl;have hb3 := Sdq.mk (show Below w2.heap.size w2 w3 from C.2.1);clear C
 by_cases hN : N = []
 ·subst hN
  have h0 : ((nl : Int) == 0) = true := by have := hl.out; simp at this ⊢; omega
  have hsw := hsg.out w3 (by rw [← hg5]; exact hb3.out)
  obtain ⟨sv, hsv⟩ : ∃ sv, sv = sgn k := ⟨_, rfl⟩
  rw [← hsv] at hsw;by_cases hk : k = 0
  ·obtain rfl : s = true := by rw [hs.out]; simp [hk]
   obtain rfl : sv = 0 := by rw [hsv, hk]; exact sgn_zero rfl
   clear hk hsv hs;go_wp2_with (go_at_call 51; refine hsw.mono ?_; rintro e3 w4 ⟨rfl, hb4⟩);go_ret;exact ⟨rfl, below_step (below_step hbe2.out hb3.out) hb4⟩
  ·obtain rfl : s = false := by rw [hs.out]; simp [hk]
   have hs0 : (sv == 0) = false := by
    simp only [beq_eq_false_iff_ne, ne_eq];rw [hsv]
    rcases Int.lt_or_gt_of_ne hk with h | h
    ·rw [sgn_lt h]; decide
    ·rw [sgn_gt h]; decide
   clear hk hsv hs;go_wp2_with (go_at_call 51; refine hsw.mono ?_; rintro e3 w4 ⟨rfl, hb4⟩);go_ret;exact ⟨rfl, below_step (below_step hbe2.out hb3.out) hb4⟩
 ·obtain rfl : s = false := by rw [hs.out]; simp [hN]
  have h0 : ((nl : Int) == 0) = false := by
   have := hl.out;simp only [beq_eq_false_iff_ne, ne_eq];intro h;exact hN (List.eq_nil_of_length_eq_zero (by omega))
  clear hN hs
  go_wp2_with fail
  go_ret;exact ⟨rfl, below_step hbe2.out hb3.out⟩
end Go.Proofs.YthpgjgmaamcaoaaDoor.P
end
section
namespace Go.Proofs.YthpgjgmaamcaoaaDoor.P
open Go.RowKit Go.Shelf Go.Proofs.YthpgjgmaamcaoaaDoorW.PrintWords Go.Proofs.YthpgjgmaamcaoaaDoorW.PrintLast Go.Proofs.YthpgjgmaamcaoaaDoorW.PrintMore Go.Proofs.YthpgjgmaamcaoaaDoor.Nm
set_option maxRecDepth 100000
set_option linter.unusedVariables false
set_option linter.unusedSimpArgs false
theorem kv_box {O : Nat → Prop} {W : World} {e : El} {x : S44} (hk : Kd.FK k44 W O x e.cs) (hO : ∀ k, W.heap.size ≤ k → O k) : Kv kTB O (W.alloc (.cells e.cs.toArray 44)) (.agg #[.bool false, .slice none 0 0, .slice (some ⟨W.heap.size, 0, none⟩) 1 1]) ⟨⟨false, []⟩, [x]⟩ := by
 have hb : Below W.heap.size W (W.alloc (.cells e.cs.toArray 44)) := bal (Below.refl _ _) _
 obtain ⟨B3, d3, e3, l3, F3⟩ := ns_row (W := W.alloc (.cells e.cs.toArray 44)) (base := W.heap.size) (O := O) (pv := .slice (some ⟨W.heap.size, 0, none⟩) 1 1) (os := [e]) (xs := [x])
  ⟨by simp [El.cs], .inr ⟨W.heap.size, 1, e.cs.toArray, rfl, Nat.le_refl _, blk_new W _, Nat.le_refl _, by decide, by simp [El.cs], by simp [El.cs]⟩⟩ hO rfl (by simp) (fun i z f hz hf => by
   have hi := (List.getElem?_eq_some_iff.1 hz).1;simp only [List.length_singleton] at hi
   obtain rfl : i = 0 := by omega
   simp only [List.getElem?_cons_zero, Option.some.injEq] at hz hf;subst hz;subst hf
   exact Kd.FK_below hk hb)
 simp only [Value.slice.injEq] at e3;obtain ⟨rfl, -, rfl⟩ := e3;exact ⟨_, rfl, kTB_mkF _ _ ⟨⟨false, []⟩, [x]⟩ (Nat.le_refl _) (Kd.F_nil _ _ _) l3 F3⟩
set_option maxHeartbeats 1600000 in
theorem lin_Var (ok : Nat → Prop) (vr : Int) (w0 : World) (hok : ∀ k, w0.heap.size ≤ k → ok k) :
  Calls Tryd.prog 42 #[.int .i64 vr] w0 (KPost kTB ok w0 (tt 0 [(vr, 1)])) := by
 have C := Ctx.new (cs := [.bool false, .slice none 0 0, .slice none 0 0]) (t := 27) (show Ctx [uB w0] w0 from ⟨Below.refl _ _, trivial⟩);have hok := Sdq.mk hok
 obtain ⟨r, hr⟩ : ∃ r, r = tt 0 [(vr, 1)] := ⟨_, rfl⟩
 rw [← hr]
 have HR := Sdq.mk (show (⟨⟨false, []⟩, [⟨vr, can 1⟩]⟩ : TB) = r from by
  have e : can 0 = ⟨false, []⟩ := by first | rfl | (unfold can; simp) | (unfold can; simp [dig])
  rw [hr];unfold tt;rw [e]
  rfl)
 clear hr;go_enter Tryd.func42, Tryd.ntmps42
 go_upto_region 1 with fail
 refine absW _ C ?_;clear C;intro w1 C;have hN := big_Of (fun k => ok k ∧ k ≠ w0.heap.size) 1 w1 (fun k hk => by have := blk_lt (show w1.heap[w0.heap.size]? = _ from C.1); exact ⟨hok.out k (by omega), by omega⟩) (by decide) (by decide);have C := Sdq.mk C;go_wp2_with (go_at_call 41; refine hN.mono ?_; rintro e2 w2 ⟨v2, rfl, hv2, hb2⟩; obtain ⟨yA, yc, rfl, yl, yF⟩ := hv2.openB; have C3 := C.out.below hb2; have hk2 := kv_box (e := ⟨vr, (can 1).f0, yA, (can 1).f1.length, yc⟩) (k44_mkF w2 _ ⟨vr, can 1⟩ yl yF) (fun k hk => by have := blk_lt (show w2.heap[w0.heap.size]? = _ from C3.1); exact ⟨hok.out k (by omega), by omega⟩); rw [HR.out] at hk2; have hk3 : Kv kTB (fun k => ok k ∧ k ≠ w0.heap.size) (w2.alloc (.cells #[.int .i64 vr, .bool (can 1).f0, .slice yA (can 1).f1.length yc] 44)) (.agg #[.bool false, .slice none 0 0, .slice (some ⟨w2.heap.size, 0, none⟩) 1 1]) r := hk2; have C4 := C3.below (bal (Below.refl w2.heap.size w2) (.cells #[.int .i64 vr, .bool (can 1).f0, .slice yA (can 1).f1.length yc] 44)); have E := Sdq.mk (end3 (O := fun k => ok k ∧ k ≠ w0.heap.size) (ok := ok) C4.1 C4.2.1 (Nat.le_refl _) (fun k hk => hk) hk3 _ rfl); have r0 := Ctx.blk C4.1 0 rfl; have r1 := Ctx.blk C4.1 1 rfl; have r2 := Ctx.blk C4.1 2 rfl; have f0 := Ctx.frz C4.1 0; have f1 := Ctx.frz C4.1 1; have f2 := Ctx.frz C4.1 2; clear C3 C4 hv2 hk2 hk3 hb2 yl yF);have E := E.out;clear r0 r1 r2 f0 f1 f2;generalize World.setCell _ _ _ = wf at E ⊢;obtain ⟨EP, e0, e1, e2⟩ := E;exact bodyPost_ret (by first | (simp [results, Tryd.results42, go_sem, e0, e1, e2]; done) | (simp [results, Tryd.results42, go_sem, e0, e1, e2]; rfl)) rfl EP
end Go.Proofs.YthpgjgmaamcaoaaDoor.P
end
section
namespace Go.Proofs.YthpgjgmaamcaoaaDoor.P
open Go.RowKit Go.Shelf Go.Proofs.YthpgjgmaamcaoaaDoorW.PrintWords Go.Proofs.YthpgjgmaamcaoaaDoorW.PrintLast Go.Proofs.YthpgjgmaamcaoaaDoorW.PrintMore Go.Proofs.YthpgjgmaamcaoaaDoor.Nm
set_option maxRecDepth 100000
set_option linter.unusedVariables false
set_option linter.unusedSimpArgs false
attribute [local go_sem] Oper.semAt_some
structure VE where
 v : Int
 n : Int
 A : Option Addr
 c : Nat
def VE.p (x : VE) : Int × Int := (x.v, x.n)
def encV (x : VE) : Array Value := #[.int .i64 x.v, .agg #[.bool (can x.n).f0, .slice x.A (can x.n).f1.length x.c]]
def RXV (Kp : World → World → Prop) (ps : LnP.Ps) (x : VE) (W : World) : Prop := x.p ∈ ps ∧ (can x.n).f1.length ≤ x.c ∧ ∀ W', Kp W W' → IsRow .u32 W' x.A (can x.n).f1
theorem abides_below {β : Type} {B : Nat} {J : β → World → Prop} (hJ : AbidesFrom B J) {s : β} {W W' : World} (h : J s W) (hb : Below W.heap.size W W') : J s W' := hJ s W W' none h (below_grown hb) (fun r e => by cases e)
structure KpOk (w : World) (Kp : World → World → Prop) : Prop where
 refl : ∀ W, Kp W W
 trans : ∀ {X Y Z : World}, Kp X Y → Kp Y Z → Kp X Z
 alloc : ∀ (W W' : World) (o : Obj), Below w.heap.size w W → Kp W W' → Kp W (W'.alloc o)
 fresh : ∀ W W', Below w.heap.size w W → Kp W W' → W.heap.size ≤ W'.heap.size ∧ ∀ k, w.heap.size + 2 ≤ k → k < W.heap.size → W'.heap[k]? = W.heap[k]?
theorem field_TB1 (b v1 v2 : Value) (W : World) : (Instr.field 27 (.agg #[b, v1, v2]) 1).run Tryd.prog W = .ok v2 W := by kernel_rfl
theorem lin_Vars (v : Value) (x : TB) (w : World) (h : Kv kTB (fun _ => True) w v x) :
  Calls Tryd.prog 32 #[v] w fun e w' => e = .returned (.func (.func 68) #[] #[.pointer (some ⟨w.heap.size, 0, none⟩)]) ∧ ∃ cs, v = .agg cs ∧ w' = w.alloc (.cells cs 27) := by
 obtain ⟨A, c, B, d, rfl, -, -⟩ := h.openTB;clear h;go_enter Tryd.func32, Tryd.ntmps32;go_wp2;go_ret;exact ⟨rfl, _, rfl, rfl⟩
set_option maxHeartbeats 3200000 in
theorem vars_x (Bs : Nat) (A : Option Addr) (c : Nat) (B : Option Addr) (d : Nat) (x : TB) (w : World) (hBs : (uBlk Bs [.bool x.f0.f0, .slice A x.f0.f1.length c, .slice B x.f1.length d] 27).p w) (h : Kv kTB (fun _ => True) w (.agg #[.bool x.f0.f0, .slice A x.f0.f1.length c, .slice B x.f1.length d]) x) (hx : NIn x) {Kp : World → World → Prop} (hK : KpOk w Kp) :
  SeqX 2 Tryd.prog 68 #[.pointer (some ⟨Bs, 0, none⟩)] encV (RXV Kp (LnP.nrm (psB x.f1))) Kp (fun ys => ys.map VE.p = LnP.nrm (psB x.f1)) (fun ys => ∃ i, i ≤ (LnP.nrm (psB x.f1)).length ∧ ys.map VE.p = (LnP.nrm (psB x.f1)).take i) (LnP.nrm (psB x.f1)).length w := by
 intro l J Jx W hW hW2 hJ hJx hY h0;have hNm := lin_Norm (fun k => w.heap.size + 2 ≤ k) _ x W (fun k hk => Nat.le_trans hW2 hk) (h.below hW) hx;have hB := (uBlk _ _ _).up _ _ hBs hW
 obtain ⟨ps, eps⟩ : ∃ ps, ps = LnP.nrm (psB x.f1) := ⟨_, rfl⟩
 rw [← eps] at hNm hY ⊢
 have hlen : ps.length ≤ 39 := by
  rw [eps];refine Nat.le_trans (LnP.nrm_len _) ?_;have := hx.few;unfold psB
  simpa using this
 clear eps h hBs hx;have hYJ := Sdq.mk hY;have h0 := Sdq.mk h0;have HJ := Sdq.mk hJ;have b0 := Ctx.blk hB 0 rfl;have b1 := Ctx.blk hB 1 rfl;have b2 := Ctx.blk hB 2 rfl;clear hB hY hJ;have hfd := field_TB1;refine callsIn_of_wp Tryd.func68 rfl trivial ?_ rfl;simp only [Tryd.ntmps68, List.size_toArray, List.length_cons, List.length_nil, Nat.reduceAdd, Nat.reduceSub, Array.replicate_succ, Array.replicate_zero, List.push_toArray, List.append_toArray, List.nil_append, List.cons_append]
 gi_wp2_with (refine ⟨trivial, ?_⟩; gi_at_call 17; refine (callsIn_wide.2 hNm).mono ?_; rintro e1 W1 ⟨v1, rfl, hv1, hb1⟩; obtain ⟨yA, yc, yB, yd, rfl, -, hcv⟩ := hv1.openTB)
 have hbW : Below w.heap.size w W1 := hW.trans (hb1.mono hW.size);have hJ1 := abides_below HJ.out h0.out hb1;obtain ⟨B', d', e1, hcl, hF⟩ := hcv
 injection e1 with e2 _ e3
 subst e2;subst e3
 have hlen2 : (tt (bv x.f0) ps).f1.length = ps.length := by unfold tt; simp
 have hF := Sdq.mk hF;have hbW := Sdq.mk hbW;have hJ1 := Sdq.mk hJ1;rw [hlen2]
 obtain ⟨n, en⟩ : ∃ n, n = ps.length := ⟨_, rfl⟩
 rw [← en];have hn := Sdq.mk en
 have hn39 : n ≤ 39 := by rw [en]; exact hlen
 clear en hlen hlen2 hv1 hb1 hNm b0 b1 b2 h0 hcl hW
 gi_loopw [9] (fun i wr => ∃ (m : Nat) (ys : List VE), m ≤ n ∧ i = .int .i64 (m : Int) ∧ Sdq (ys.map VE.p = ps.take m) ∧ Sdq (J ys wr) ∧ Sdq (Kp W1 wr)) (fun i _ => (n - intOf i).toNat)
 case atStart => exact ⟨0, [], Nat.zero_le _, rfl, ⟨rfl⟩, hJ1, ⟨hK.refl _⟩⟩
 case round =>
  clear hJ1;obtain ⟨m, ys, hm, rfl, hys, hJs, hKs⟩ := hrel;by_cases hmn : m = n
  ·subst hmn
   have hall := Sdq.mk (show ys.map VE.p = ps by rw [hys.out, hn.out]; exact List.take_length);clear hys hn
   gi_wp2
   go_end0
   exact ⟨⟨_, rfl⟩, .inl ⟨ys, hall.out, hJs.out⟩⟩
  ·have hlt : m < n := by omega
   have hps : m < ps.length := by have := hn.out; omega
   have hyl : ys.length = m := by
    have := congrArg List.length hys.out;rw [List.length_map, List.length_take] at this
    omega
   have hkr := hK.fresh W1 wr hbW.out hKs.out;have hFr := Kd.F_step (Kd.F_bound hF.out) (fun k hk hlt => hkr.2 k hk.1 hlt);have hFr2 : Kd.F k44 wr (fun k => w.heap.size + 2 ≤ k ∧ k < W1.heap.size) yB (ps.map cp).length (ps.map cp) := hFr;obtain ⟨ad, e, eyB, x0, x1, x2, hfk⟩ := row_el hFr2 (i := m) (by rw [List.length_map]; exact hps)
   have hpe : (ps.map cp)[m]'(by rw [List.length_map]; exact hps) = cp ps[m] := by simp
   rw [hpe] at hfk
   obtain ⟨p, ep⟩ : ∃ p, p = ps[m] := ⟨_, rfl⟩
   rw [← ep] at hfk;obtain ⟨f1, f2, f3, f4, f5⟩ := fk_el hfk;have hba : Below wr.heap.size wr (wr.alloc (.cells #[.int .i64 e.v, .bool e.b, .slice e.A e.n e.c] 44)) := bal (Below.refl _ _) _;have hKa0 := hK.alloc W1 wr (.cells #[.int .i64 e.v, .bool e.b, .slice e.A e.n e.c] 44) hbW.out hKs.out;have hFW1 : Kd.F k44 W1 (fun k => w.heap.size + 2 ≤ k) yB (ps.map cp).length (ps.map cp) := hF.out
   have hrx : RXV Kp ps ⟨p.1, p.2, e.A, e.c⟩ (wr.alloc (.cells #[.int .i64 e.v, .bool e.b, .slice e.A e.n e.c] 44)) := ⟨by
    show (p.1, p.2) ∈ ps
    rw [ep]
    exact List.getElem_mem hps, f4, fun V hV => by
    have h1 := hK.fresh W1 wr hbW.out hKs.out;have h2 := hK.fresh W1 V hbW.out (hK.trans hKa0 hV);refine row_of (ok := fun k => w.heap.size + 2 ≤ k ∧ k < W1.heap.size) (Kd.F_step f5 (fun k hk _ => ?_))
    rw [h2.2 k hk.1 hk.2, h1.2 k hk.1 hk.2]⟩
   have hyr := hYJ.out ys ⟨p.1, p.2, e.A, e.c⟩ _ (abides_below HJ.out hJs.out hba) hrx (by omega)
   have hen : encV ⟨p.1, p.2, e.A, e.c⟩ = #[.int .i64 e.v, .agg #[.bool e.b, .slice e.A e.n e.c]] := by
    unfold encV;rw [f1, f2, f3]
    rfl
   rw [hen] at hyr
   have hys2 := Sdq.mk (show (ys ++ [(⟨p.1, p.2, e.A, e.c⟩ : VE)]).map VE.p = ps.take (m + 1) by
    rw [List.map_append, hys.out, List.take_succ_eq_append_getElem hps, ← ep]
    rfl)
   have hKa := Sdq.mk hKa0;clear hKa0;have hn1 := Sdq.mk (show m + 1 ≤ ps.length from hps)
   obtain ⟨x, ex⟩ : ∃ x : VE, x = ⟨p.1, p.2, e.A, e.c⟩ := ⟨_, rfl⟩
   rw [← ex] at hys2 hyr;subst eyB;clear hFW1 ex hen hrx f1 f2 f3 f4 f5 hfk hpe hFr hFr2 hkr ep hyl hys hKs hJs hba;obtain ⟨fn, tmps, assign, body, hy, hR⟩ := hyr
   gi_wp2
   refine hR.mono ?_;rintro e3 W3 (⟨rfl, hJ3, hk3⟩ | ⟨rfl, hJx3⟩)
   ·have hJ3 := Sdq.mk hJ3
    have hk3 := Sdq.mk (hK.trans hKa.out hk3)
    gi_wp2
    go_roundw
    case rel => exact ⟨m + 1, _, hlt, by go_num, hys2, hJ3, hk3⟩
    case measure => simp [intOf]; omega
   ·have hJx3 := Sdq.mk hJx3
    gi_wp2
    refine bodyPost_ret (results_none rfl _ _ _) rfl ?_;exact ⟨⟨_, rfl⟩, .inr ⟨_, ⟨m + 1, hn1.out, hys2.out⟩, hJx3.out⟩⟩
end Go.Proofs.YthpgjgmaamcaoaaDoor.P
end
section
namespace Go.Proofs.YthpgjgmaamcaoaaDoor.P
open Go.RowKit Go.Proofs.YthpgjgmaamcaoaaDoor.Nm
theorem decDigits_dig : ∀ k : Nat, ∀ n : Int, 0 < n → n.toNat = k → Lib.decDigits k = (dig 10 n).reverse.map (fun x => UInt8.ofNat (x + 48).toNat) := by
 intro k
 induction k using Nat.strongRecOn with
 | _ k ih =>
  intro n hn hk;rw [dig_succ (by decide) hn, List.reverse_cons, List.map_append, Lib.decDigits]
  split
  ·rename_i hlt
   rw [show n / 10 = 0 by omega, dig_zero];simp only [List.reverse_nil, List.map_nil, List.nil_append, List.map_cons];rw [show (n % 10 + 48).toNat = 48 + k by omega]
  ·rename_i hge
   rw [ih (k / 10) (by omega) (n / 10) (by omega) (by omega)];simp only [List.map_cons, List.map_nil];rw [show (n % 10 + 48).toNat = 48 + k % 10 by omega]
theorem decS_itoa {n : Int} (h : 0 ≤ n) : (decS n).data.toList = Lib.decDigits n.toNat := by
 unfold decS
 split
 ·rename_i h0
  subst h0
  show _ = Lib.decDigits 0
  rw [Lib.decDigits]
  rfl
 ·rw [decDigits_dig n.toNat n (by omega) rfl]
  simp [strOfNums, List.map_map, Function.comp_def]
theorem decI_itoa (n : Int) : (decI n).data.toList = Lib.itoa n := by
 unfold decI Lib.itoa
 split
 ·rw [show (⟨#[45]⟩ ++ decS (-n) : ByteArray).data.toList = 45 :: (decS (-n)).data.toList by simp [ByteArray.data_append], decS_itoa (by omega)]
  congr 2
  omega
 ·rw [decS_itoa (by omega)]
theorem itoa_len (n : Int) : (Lib.itoa n).length ≤ (dig 10 n.natAbs).length + 2 := by
 rw [← decI_itoa];have h1 := decS_size n;have h2 := decS_size (-n);unfold decI
 split
 ·rw [show (n.natAbs : Int) = -n by omega]
  simp only [ByteArray.data_append, Array.toList_append, List.length_append]
  show _ + (decS (-n)).data.toList.length ≤ _
  rw [show (decS (-n)).data.toList.length = (decS (-n)).size from rfl]
  simp
  omega
 ·rw [show (n.natAbs : Int) = n by omega]
  show (decS n).size ≤ _
  omega
def txtP (s : List UInt8) (p : Int × Int) : List UInt8 := s ++ (if s ≠ [] ∧ 0 < p.2 then [43] else []) ++ (Lib.itoa p.2 ++ ([42, 120] ++ Lib.itoa p.1))
def txts (ps : LnP.Ps) : List UInt8 := ps.foldl txtP []
def txtT (c : Int) (ps : LnP.Ps) : List UInt8 := if txts ps = [] ∨ c ≠ 0 then txts ps ++ (if txts ps ≠ [] ∧ 0 < c then [43] else []) ++ Lib.itoa c else txts ps
theorem txts_snoc (ps : LnP.Ps) (p : Int × Int) : txts (ps ++ [p]) = txtP (txts ps) p := by unfold txts; rw [List.foldl_append]; rfl
theorem txtP_len {s : List UInt8} {p : Int × Int} {L : Nat} (h1 : (Lib.itoa p.1).length ≤ 30) (h2 : (Lib.itoa p.2).length ≤ L) : (txtP s p).length ≤ s.length + (L + 40) := by
 unfold txtP;simp only [List.length_append, List.length_cons, List.length_nil]
 split
 ·simp; omega
 ·simp; omega
theorem txts_len {L : Nat} : ∀ (n : Nat) (ps : LnP.Ps), ps.length = n → (∀ p ∈ ps, (Lib.itoa p.1).length ≤ 30 ∧ (Lib.itoa p.2).length ≤ L) → (txts ps).length ≤ n * (L + 40) := by
 intro n
 induction n with
 | zero =>
  intro ps h _;rw [List.length_eq_zero_iff.1 h]
  simp [txts]
 | succ n ih =>
  intro ps h hp
  rcases List.eq_nil_or_concat ps with rfl | ⟨a, p, rfl⟩
  ·simp at h
  ·rw [List.concat_eq_append] at h hp ⊢
   simp only [List.length_append, List.length_singleton] at h;rw [txts_snoc, Nat.add_mul, Nat.one_mul];have h1 := ih a (by omega) (fun q hq => hp q (List.mem_append_left _ hq));have h2 := hp p (by simp);have := txtP_len (s := txts a) h2.1 h2.2
   omega
theorem itoa64_len {n : Int} (h0 : -9223372036854775808 ≤ n) (h1 : n ≤ 9223372036854775807) : (Lib.itoa n).length ≤ 30 := by
 have h2 := dig_len (B := 10) (by decide) (n := n.natAbs) (k := 19) (show (n.natAbs : Int) < 10 ^ 19 by omega);have := itoa_len n
 omega
end Go.Proofs.YthpgjgmaamcaoaaDoor.P
end
section
namespace Go.Proofs.YthpgjgmaamcaoaaDoor.P
open Go.RowKit Go.Shelf Go.Proofs.YthpgjgmaamcaoaaDoorW.PrintWords Go.Proofs.YthpgjgmaamcaoaaDoorW.PrintLast Go.Proofs.YthpgjgmaamcaoaaDoorW.PrintMore Go.Proofs.YthpgjgmaamcaoaaDoor.Nm
set_option maxRecDepth 100000
set_option linter.unusedVariables false
set_option linter.unusedSimpArgs false
attribute [local go_sem] Oper.semAt_some
def TabOk (w : World) : Prop := Lib.TabIs Tryd.prog w "internal/strconv.uint64pow10" .u64 Lib.pow10Tab
theorem var_below {n : String} {cs : Array Value} {w w' : World} (h : w.var? Tryd.prog n = some cs) (hb : Below w.heap.size w w') : w'.var? Tryd.prog n = some cs := by
 unfold World.var? at h ⊢
 cases hg : Tryd.prog.globalNamed n with
 | none => rw [hg] at h; cases h
 | some g =>
  rw [hg] at h;simp only [Option.bind_some] at h ⊢
  cases hh : w.heap[g]? with
  | none => rw [hh] at h; cases h
  | some o => rw [hb.block g (Array.getElem?_eq_some_iff.1 hh).1, hh]; rw [hh] at h; exact h
theorem TabOk.below {w w' : World} (h : TabOk w) (hb : Below w.heap.size w w') : TabOk w' := var_below h hb
theorem itoa_below (n : Int) (h0 : -9223372036854775808 ≤ n) (h1 : n ≤ 9223372036854775807) (w : World) (hT : TabOk w) :
  Calls Tryd.prog 64 #[.int .i64 n] w fun e w' => e = .returned (.string ⟨(Lib.itoa n).toArray⟩) ∧ Below w.heap.size w w' := by
 refine (Tryd.strconv_Itoa n h0 h1 w hT).mono ?_;rintro e w' ⟨he, k, os, rfl⟩;refine ⟨he, rfl, rfl, rfl, ?_, fun j hj => ?_⟩
 ·show w.heap.size ≤ ((w.drewN k).heap ++ os).size
  rw [Array.size_append];exact Nat.le_add_right _ _
 ·show ((w.drewN k).heap ++ os)[j]? = _
  exact Array.getElem?_append_left hj
theorem IsRow.F {k : IntKind} {W : World} {A : Option Addr} {xs : List Int} (h : IsRow k W A xs) (hl : xs.length ≤ 1000000) : Kd.F (Kd.int k) W (fun _ => True) A xs.length xs := fun W' hW => by
 refine ⟨rfl, by omega, fun hn => ?_⟩;obtain ⟨ad, rfl, hc⟩ := row_some h (i := 0) (by omega);refine ⟨ad, rfl, fun j p hj => ?_⟩;obtain ⟨hj1, hj2⟩ := List.getElem?_eq_some_iff.1 hj;refine ⟨[.int k p], rfl, rfl, fun i u hu => ?_⟩;have hi := (List.getElem?_eq_some_iff.1 hu).1;simp only [List.length_singleton] at hi
 obtain rfl : i = 0 := by omega
 obtain rfl : Value.int k p = u := by simpa using hu
 have h1 := hc j hj1;rw [hj2] at h1;rw [show j * (Kd.int k).sz + 0 = j by show j * 1 + 0 = j; omega];rw [← h1];exact World.cell?_of_block (hW _ trivial (World.block_lt_of_cell? W _ h1))
theorem kpB_ok {w : World} {b : Nat} (hb : b < w.heap.size) (hbuf : bufOf w b = none) : KpOk w (KpB b (w.heap.size + 1)) where
 refl := KpB.refl
 trans := KpB.trans
 alloc := fun W W' o h1 h2 => h2.trans (KpB.below (bal (Below.refl _ _) o) (Nat.lt_of_lt_of_le (Nat.lt_of_lt_of_le hb h1.size) h2.size))
 fresh := fun W W' h1 h2 => ⟨h2.size, fun k h3 h4 => h2.keep k h4 (by omega) (by omega) (by rw [bufOf_eq (h1.block b hb), hbuf]; simp)⟩
theorem isB_own {β : Type} {B' T e B b : Nat} (f : β → List Value) : OwnFrom B' (fun s W => Lib.IsBuilder T e B b (f s) W) := fun s W W' row hs hg hr => by
 have key : ∀ p, Lib.BuilderAt T e B b p (f s) W → Lib.BuilderAt T e B b p (f s) W' := fun p h => by
  obtain ⟨hB, v, hbk, hown, hne⟩ := h
  have nc : ∀ k c t z, W.heap[k]? = some (.cells c t z) → some k ≠ row := fun k c t z hk e => by
   obtain ⟨_, o, ho, hc⟩ := hr k e.symm;rw [hk] at ho;cases ho;cases hc
  refine ⟨hB, v, (hg.block b (Array.getElem?_eq_some_iff.1 hbk).1 (nc _ _ _ _ hbk)).trans hbk, hown.kept hg ?_, hne⟩
  rcases hown.2 with ⟨h1, _⟩ | ⟨g, cap, cur, h1, _, h2, _⟩
  ·exact .inl (by rw [h1]; rfl)
  ·exact .inr (by rw [h1]; exact nc _ _ _ _ h2)
 rcases hs with h | h
 ·exact .inl (key _ h)
 ·exact .inr (key _ h)
theorem isB_buf {T e B b : Nat} {bs : List Value} {W : World} (h : Lib.IsBuilder T e B b bs W) : ∀ g, bufOf W b = some g → ∃ c, W.heap[g]? = some (.cells c e (0, 0)) := fun g hg => by
 have key : ∀ p, Lib.BuilderAt T e B b p bs W → ∃ c, W.heap[g]? = some (.cells c e (0, 0)) := fun p h => by
  obtain ⟨hB, v, hbk, hown, hne⟩ := h
  have hc : W.cell? ⟨b, 1, none⟩ = some v := by rw [Lib.cell_of_heap hbk]; rfl
  unfold bufOf at hg;rw [hc] at hg
  rcases hown.2 with ⟨h1, _⟩ | ⟨g', cap, cur, h1, _, h2, _⟩
  ·rw [h1] at hg; cases hg
  ·rw [h1] at hg
   simp only [Option.bind_some, Value.ownBlock, Option.some.injEq] at hg;exact ⟨_, hg ▸ h2⟩
 rcases h with h | h
 ·exact key _ h
 ·exact key _ h
theorem isB_below {T e B b : Nat} {bs : List Value} {W W' : World} (h : Lib.IsBuilder T e B b bs W) (hb : Below W.heap.size W W') : Lib.IsBuilder T e B b bs W' := isB_own (B' := 0) (fun _ : Unit => bs) () W W' none h (below_grown hb) (fun r e => by cases e)
theorem isB_lt {T e B b : Nat} {bs : List Value} {W : World} (h : Lib.IsBuilder T e B b bs W) : b < W.heap.size := by
 rcases h with h | h
 ·exact h.lt
 ·exact h.lt
theorem isB_le {T e B b : Nat} {bs : List Value} {W : World} (h : Lib.IsBuilder T e B b bs W) : B ≤ b := by
 rcases h with h | h
 ·exact h.1
 ·exact h.1
structure BT (B b R : Nat) (w1 W : World) (s : List UInt8) (V : World) : Prop where
 is_ : Lib.IsBuilder 104 5 B b (Lib.byteCells s) V
 bel : Below B w1 V
 kp : KpB b R W V
 ko : KeepsOthers W V
section
variable {B b R : Nat} {w1 W V V' : World} {s : List UInt8}
theorem BT.below (h : BT B b R w1 W s V) (hb : Below V.heap.size V V') : BT B b R w1 W s V' :=
 ⟨isB_below h.is_ hb, h.bel.trans (hb.mono (by have := isB_lt h.is_; have := isB_le h.is_; omega)), h.kp.trans (KpB.below hb (isB_lt h.is_)), h.ko.trans (KeepsOthers.of_grownBy (below_grown hb) (fun j o e _ => by cases e))⟩
theorem bt_Len (h : BT B b R w1 W s V) : Calls Tryd.prog 60 #[.pointer (some ⟨b, 0, none⟩)] V fun e V' => e = .returned (.int .i64 s.length) ∧ V' = V := by
 have := Tryd.Builder_Len B b _ V h.is_
 rwa [Lib.byteCells_length] at this
theorem bt_plus (h : BT B b R w1 W s V) (hl : s.length ≤ 1000000000) : Calls Tryd.prog 61 #[.pointer (some ⟨b, 0, none⟩), .int .u8 43] V fun e V' => e = .returned .nilIface ∧ BT B b R w1 W (s ++ [43]) V' := by
 refine (sb_WriteByte B b R _ 43 V h.is_ (by rw [Lib.byteCells_length]; omega) (by have := isB_lt h.is_; have := isB_le h.is_; omega)).mono ?_;rintro e V' ⟨rfl, h1, h2, h3, h4⟩;exact ⟨rfl, by rw [Lib.byteCells_append]; exact h1, h.bel.trans h2, h.kp.trans h3, h.ko.trans h4⟩
theorem bt_str (h : BT B b R w1 W s V) (t : ByteArray) (hl : s.length ≤ 1000000000) (ht : t.size ≤ 1000000000) : Calls Tryd.prog 62 #[.pointer (some ⟨b, 0, none⟩), .string t] V fun e V' => e = .returned (.tuple #[.int .i64 t.size, .nilIface]) ∧ BT B b R w1 W (s ++ t.data.toList) V' := by
 refine (sb_WriteString B b R _ t V h.is_ (by rw [Lib.byteCells_length]; omega) (by have := isB_lt h.is_; have := isB_le h.is_; omega)).mono ?_;rintro e V' ⟨rfl, h1, h2, h3, h4⟩;exact ⟨rfl, by rw [Lib.byteCells_append, ← Lib.strCells_eq]; exact h1, h.bel.trans h2, h.kp.trans h3, h.ko.trans h4⟩
end
theorem itoa_big {n : Int} (h : (can n).f1.length ≤ 1001) : (Lib.itoa n).length ≤ 10020 := by
 have h1 := itoa_len n;have h2 := dec_len (can_dg n);rw [show val B32 (can n).f1 = n.natAbs from val_dig (by decide) _ (by omega)] at h2
 omega
theorem nrm_mem1 : ∀ {l : LnP.Ps} {q : Int × Int}, q ∈ LnP.nrm l → ∃ p ∈ l, p.1 = q.1
 | [], _, h => by cases h
 | p :: r, q, h => by
  rcases LnP.ins_mem h with h | h
  ·exact ⟨p, List.mem_cons_self .., h.symm⟩
  ·obtain ⟨z, hz, e⟩ := nrm_mem1 h
   exact ⟨z, List.mem_cons_of_mem _ hz, e⟩
set_option maxHeartbeats 3200000 in
theorem lin_Text (v : Value) (x : TB) (w0 : World) (h : Kv kTB (fun _ => True) w0 v x) (hx : NIn x) (hv : ∀ p ∈ x.f1, -9223372036854775808 ≤ p.f0 ∧ p.f0 ≤ 9223372036854775807) (hT : TabOk w0) :
  Calls Tryd.prog 30 #[v] w0 fun e w' => e = .returned (.string ⟨(txtT (bv x.f0) (LnP.nrm (psB x.f1))).toArray⟩) ∧ Below w0.heap.size w0 w' := by
 obtain ⟨A, c, B, d, rfl, hk, -⟩ := h.openTB;have C := Ctx.new (cs := [.pointer none, .slice none 0 0]) (t := 104) (Ctx.new (cs := [.bool x.f0.f0, .slice A x.f0.f1.length c, .slice B x.f1.length d]) (t := 27) (Ctx.cons (uB w0) (Below.refl _ _) (Ctx.cons (uK kTB (fun _ => True) (.agg #[.bool x.f0.f0, .slice A x.f0.f1.length c, .slice B x.f1.length d]) x) h (Ctx.cons (uK k24 (fun _ => True) (.agg #[.bool x.f0.f0, .slice A x.f0.f1.length c]) x.f0) hk Ctx.nil))));simp only [World.size_alloc] at C
 obtain ⟨R, hR0⟩ : ∃ R, R = (⟨(txtT (bv x.f0) (LnP.nrm (psB x.f1))).toArray⟩ : ByteArray) := ⟨_, rfl⟩
 rw [← hR0];have hR := Sdq.mk hR0;clear hR0
 have hps : (LnP.nrm (psB x.f1)).length ≤ 39 ∧ ∀ p ∈ LnP.nrm (psB x.f1), Big (can p.2) ∧ (can p.2).f1.length ≤ 1001 ∧ -9223372036854775808 ≤ p.1 ∧ p.1 ≤ 9223372036854775807 := by
  have hl : (psB x.f1).length ≤ 39 := by have := hx.few; unfold psB; simpa using this
  refine ⟨Nat.le_trans (LnP.nrm_len _) hl, fun p hp => ?_⟩;have h1 := nrm_can (L := 1000) hl (psB_abs (fun p hp => ⟨hx.dg p hp, hx.len p hp⟩)) p hp;refine ⟨⟨can_dg _, by omega⟩, h1, ?_⟩;obtain ⟨q, hq, e⟩ := nrm_mem1 hp;unfold psB at hq;obtain ⟨z, hz, rfl⟩ := List.mem_map.1 hq;rw [← e];exact hv z hz
 have hps := Sdq.mk hps;have hT := Sdq.mk hT;have hx := Sdq.mk hx;have hk0 := Sdq.mk hk;clear h hk hv;refine (callsIn_wide (n := 3)).1 (callsIn_of_wp_marks Tryd.func30 rfl trivial (wpIn_wide.2 ?_) rfl);simp only [Tryd.ntmps30, List.size_toArray, List.length_cons, List.length_nil, Nat.reduceAdd, Nat.reduceSub, Array.replicate_succ, Array.replicate_zero, List.push_toArray, List.append_toArray, List.nil_append, List.cons_append]
 go_upto_region 2 with fail
 refine absW _ C ?_;clear C;intro w1 C;have y0 := Ctx.blk C.2.1 0 rfl;have y1 := Ctx.blk C.2.1 1 rfl;have y2 := Ctx.blk C.2.1 2 rfl;have hVs := lin_Vars (.agg #[.bool x.f0.f0, .slice A x.f0.f1.length c, .slice B x.f1.length d]) x w1 C.2.2.2.1;have C := Sdq.mk C;go_wp2_with (go_at_call 32; refine hVs.mono ?_; rintro e w2 ⟨rfl, cs2, ecs, rfl⟩; injection ecs with ecs; subst ecs);clear hVs y0 y1 y2;have C3 := Ctx.new (cs := [.bool x.f0.f0, .slice A x.f0.f1.length c, .slice B x.f1.length d]) (t := 27) C.out;have hs1 := Sdq.mk (show w0.heap.size + 1 < w1.heap.size from blk_lt C.out.1);have hb1 := Sdq.mk (show Below w0.heap.size w0 w1 from C.out.2.2.1);have hb13 : Below (w0.heap.size + 1) w1 (w1.alloc (.cells #[.bool x.f0.f0, .slice A x.f0.f1.length c, .slice B x.f1.length d] 27)) := (bal (Below.refl _ _) _).mono (by have := hs1.out; omega);have hC3 := And.intro C3 hb13
 obtain ⟨Bs, eBs⟩ : ∃ Bs, Bs = w1.heap.size := ⟨_, rfl⟩
 have C1 := C;clear C C3 hb13
 revert hC3
 rw [← eBs];have heBs := Sdq.mk eBs;clear eBs;generalize w1.alloc _ = w3;rintro ⟨C, hb13⟩;have C := Sdq.mk C;have hs3 := Sdq.mk (show Bs < w3.heap.size from blk_lt C.out.1);have hbl3 := Sdq.mk (show w0.heap.size + 1 < w3.heap.size from blk_lt C.out.2.1)
 have hbn : bufOf w3 (w0.heap.size + 1) = none := by
  unfold bufOf;rw [Ctx.blk C.out.2.1 1 rfl]
  rfl
 have hI0 : Lib.IsBuilder 104 5 (w0.heap.size + 1) (w0.heap.size + 1) (Lib.byteCells (txts (([] : List VE).map VE.p))) w3 := .inl ⟨Nat.le_refl _, .slice none 0 0, C.out.2.1, World.ownsRow_nil _ _ _ _, by simp [Value.ownBlock]⟩
 apply wp_rangeX (gf := 68) (lb := #[.pointer (some ⟨Bs, 0, none⟩)]) rfl (enters_of Tryd.func68 (by kernel_rfl) rfl)
  (vars_x Bs A c B d x w3 C.out.1 C.out.2.2.2.2.1 hx.out (kpB_ok hbl3.out hbn)) KpB.trans (fun W o o' _ => KpB.putR W o' (by have := hbl3.out; omega)) (fun _ => rfl)
  (fun pre W => Lib.IsBuilder 104 5 (w0.heap.size + 1) (w0.heap.size + 1) (Lib.byteCells (txts (pre.map VE.p))) W ∧ Below (w0.heap.size + 1) w1 W ∧ ∀ y ∈ pre, y.p ∈ LnP.nrm (psB x.f1)) (fun _ _ _ => False)
  (OwnFrom.and (isB_own _) (OwnFrom.and (ownFrom_below (by have := hs1.out; omega) (by have := hbl3.out; omega)) (ownFrom_pure _ _))) (fun _ _ _ _ _ hs _ _ => hs) ⟨hI0, hb13, fun _ h => by cases h⟩
  (fun y a' W => ∃ g, a' = { tmps := #[.agg #[.bool x.f0.f0, .slice A x.f0.f1.length c, .slice B x.f1.length d], .pointer (some ⟨w0.heap.size, 0, none⟩), .string ⟨#[]⟩, .pointer (some ⟨w0.heap.size + 1, 0, none⟩), .int .i64 y.v, .pointer (some ⟨g, 0, none⟩), .agg #[.bool x.f0.f0, .slice A x.f0.f1.length c, .slice B x.f1.length d], .func (.func 68) #[] #[.pointer (some ⟨Bs, 0, none⟩)], .int .i64 y.v, .agg #[.bool (can y.n).f0, .slice y.A (can y.n).f1.length y.c], undef, undef, undef, undef, undef, undef, undef, undef, undef, undef, undef, undef, undef, undef, undef, undef, undef, undef, undef, undef, undef, undef, undef, undef, undef, undef, undef, undef, undef, undef, undef, undef, undef, undef, undef, undef, undef], defers := [] } ∧ w3.heap.size + 2 ≤ g ∧ (uBlk g [.bool (can y.n).f0, .slice y.A (can y.n).f1.length y.c] 24).p W ∧ y.p ∈ LnP.nrm (psB x.f1) ∧ (can y.n).f1.length ≤ y.c ∧ ∀ W', KpB (w0.heap.size + 1) (w3.heap.size + 1) W W' → IsRow .u32 W' y.A (can y.n).f1)
  ?hAx ?assign ?body ?done ?stop
 case hAx =>
  rintro y a' W o o' ⟨g, e, hgs, h1, h2, h3, h4⟩ ho hc;refine ⟨g, e, hgs, (World.putObj_heap_other (fun e => ?_)).trans h1, h2, h3, fun W' hW' => h4 W' ((KpB.putR W o' (by have := hbl3.out; omega)).trans hW')⟩;rw [← e, show W.heap[g]? = _ from h1] at ho;cases ho;cases hc
 case assign =>
  rintro l pre y W K hsz ⟨hI, hB, hm⟩ ⟨h1, h2, h3⟩ hK
  have hE := fun (o : Obj) => And.intro (bal (Below.refl W.heap.size W) o) (KpB.below (R := w3.heap.size + 1) (bal (Below.refl W.heap.size W) o) (isB_lt hI))
  have hE := Sdq.mk hE
  dsimp only [encV]
  gi_wp2
  exact hK _ _ ((KeepsOthers.alloc _ _).from _) (hE.out _).2 ⟨isB_below hI (hE.out _).1, hB.trans ((hE.out _).1.mono (by have := isB_lt hI; omega)), hm⟩ ⟨W.heap.size, rfl, hsz, blk_new W _, h1, h2, fun W' hW' => h3 W' ((hE.out _).2.trans hW')⟩
 case stop =>
  rintro D cd pre W _ _ h _;exact h.elim
 case body =>
  rintro l pre y a' W ⟨hI, hB, hm⟩ ⟨g, rfl, hgs, hg, hmem, hcap, hrow⟩ hlen;have hbg := hps.out.2 y.p hmem
  have hsl : (txts (pre.map VE.p)).length ≤ 400000 := by
   have h1 := txts_len (L := 10020) pre.length (pre.map VE.p) (by simp) (fun q hq => by
    obtain ⟨z, hz, rfl⟩ := List.mem_map.1 hq;have h2 := hps.out.2 z.p (hm z hz)
    exact ⟨itoa64_len h2.2.2.1 h2.2.2.2, itoa_big h2.2.1⟩)
   have h2 := hps.out.1;have h3 : pre.length * (10020 + 40) ≤ 39 * (10020 + 40) := Nat.mul_le_mul_right _ (by omega)
   omega
  have hsn : txts ((pre ++ [y]).map VE.p) = txtP (txts (pre.map VE.p)) y.p := by rw [List.map_append]; exact txts_snoc _ _
  have hm2 := Sdq.mk (show ∀ z ∈ pre ++ [y], z.p ∈ LnP.nrm (psB x.f1) from fun z hz => by
   rcases List.mem_append.1 hz with hz | hz
   ·exact hm z hz
   ·obtain rfl : z = y := by simpa using hz
    exact hmem)
  obtain ⟨s, es⟩ : ∃ s, s = txts (pre.map VE.p) := ⟨_, rfl⟩
  rw [← es] at hI hsl hsn
  have hbx : ∀ V, KpB (w0.heap.size + 1) (w3.heap.size + 1) W V → (uBlk g [.bool (can y.n).f0, .slice y.A (can y.n).f1.length y.c] 24).p V := fun V hV =>
   (hV.keep g (blk_lt hg) (by have := hbl3.out; omega) (by omega) (fun e => by
    obtain ⟨c1, h1⟩ := isB_buf hI g e.symm
    exact blk_ne (t := 24) hg h1 (by decide) rfl)).trans hg
  have hkv : ∀ V, KpB (w0.heap.size + 1) (w3.heap.size + 1) W V → Kv k24 (fun _ => True) V (.agg #[.bool (can y.n).f0, .slice y.A (can y.n).f1.length y.c]) (can y.n) := fun V hV => Kv.mkB hcap ((hrow V hV).F (by have := (show (can y.n).f1.length ≤ 1001 from hbg.2.1); omega))
  have hSg := fun V hV => big_Sign _ (can y.n) V (hkv V hV) (can_dg _)
  have hTx := fun V hV => big_Text _ (can y.n) V (hkv V hV) hbg.1
  simp only [bv_can] at hSg hTx
  have hIt := fun (V : World) (hV : Below (w0.heap.size + 1) w1 V) => itoa_below y.v hbg.2.2.1 hbg.2.2.2 V (hT.out.below (hb1.out.trans (hV.mono (Nat.le_succ _))))
  have hS0 : BT (w0.heap.size + 1) (w0.heap.size + 1) (w3.heap.size + 1) w1 W s W := ⟨hI, hB, KpB.refl _, KeepsOthers.refl _⟩
  have hfin : ∀ V, BT (w0.heap.size + 1) (w0.heap.size + 1) (w3.heap.size + 1) w1 W (txtP s y.p) V → KeepsFrom w3.heap.size W V ∧ KpB (w0.heap.size + 1) (w3.heap.size + 1) W V ∧ Lib.IsBuilder 104 5 (w0.heap.size + 1) (w0.heap.size + 1) (Lib.byteCells (txts ((pre ++ [y]).map VE.p))) V ∧ Below (w0.heap.size + 1) w1 V ∧ ∀ z ∈ pre ++ [y], z.p ∈ LnP.nrm (psB x.f1) := fun V h => ⟨h.ko.from _, h.kp, by rw [hsn]; exact h.is_, h.bel, hm2.out⟩
  have hfin := Sdq.mk hfin;have hil := itoa_big hbg.2.1;have hil2 := itoa64_len hbg.2.2.1 hbg.2.2.2;rw [show y.p.2 = y.n from rfl] at hil;rw [show y.p.1 = y.v from rfl] at hil2;have htp : txtP s y.p = s ++ (if s ≠ [] ∧ 0 < y.n then [43] else []) ++ (Lib.itoa y.n ++ ([42, 120] ++ Lib.itoa y.v)) := rfl
  obtain ⟨T, eT⟩ : ∃ T, T = decI y.n := ⟨_, rfl⟩
  obtain ⟨I, eI⟩ : ∃ I : ByteArray, I = ⟨(Lib.itoa y.v).toArray⟩ := ⟨_, rfl⟩
  obtain ⟨sv, esv⟩ : ∃ sv, sv = sgn y.n := ⟨_, rfl⟩
  have hTl : T.data.toList = Lib.itoa y.n := by rw [eT]; exact decI_itoa _
  have hIl : I.data.toList = Lib.itoa y.v := by rw [eI]
  rw [← hTl, ← hIl] at htp
  have hTs : T.size ≤ 10020 := by have : T.size = T.data.toList.length := rfl; rw [this, hTl]; exact hil
  have hIs : I.size ≤ 30 := by have : I.size = I.data.toList.length := rfl; rw [this, hIl]; exact hil2
  rw [← eT] at hTx;rw [← eI] at hIt;rw [← esv] at hSg
  have hadd1 : ¬ 9223372036854775807 < T.size + 2 := by omega
  have hadd2 : ¬ 9223372036854775807 < T.size + 2 + I.size := by omega
  have hts := Sdq.mk (show (T ++ ⟨#[42, 120]⟩ ++ I).size ≤ 1000000000 by
   rw [ByteArray.size_append, ByteArray.size_append]
   show T.size + 2 + I.size ≤ _
   omega)
  have c0 := Ctx.blk hg 0 rfl;have c1 := Ctx.blk hg 1 rfl;have hSg := Sdq.mk hSg;have hTx := Sdq.mk hTx;have hIt := Sdq.mk hIt;have hbx := Sdq.mk hbx;have hS0 := Sdq.mk hS0;clear hI hB hm hg hrow hkv hsn es hil hil2 hTl hIl eT eI hlen
  by_cases hs : s = []
  ·subst hs
   have hl1 := Sdq.mk (show ([] : List UInt8).length ≤ 1000000000 by simp)
   have h0 : ¬ (0 : Int) < (([] : List UInt8).length : Int) := by decide
   gi_wp2_with (refine ⟨trivial, ?_⟩; gi_at_call 60; refine (CallsIn.inRound l (callsIn_wide.2 (bt_Len hS0.out))).mono ?_; rintro e1 W1 ⟨rfl, rfl⟩)
   refine ⟨trivial, ?_⟩
   gi_wp2_with (first | (refine ⟨trivial, ?_⟩; gi_at_call 63; refine (CallsIn.inRound l (callsIn_wide.2 (hTx.out _ (hS0).out.kp))).mono ?_; rintro e3 W3 ⟨rfl, hb3⟩; have hS3 := Sdq.mk ((hS0).out.below hb3)) | (refine ⟨trivial, ?_⟩; gi_at_call 64; refine (CallsIn.inRound l (callsIn_wide.2 (hIt.out _ hS3.out.bel))).mono ?_; rintro e4 W4 ⟨rfl, hb4⟩; have hS4 := Sdq.mk (hS3.out.below hb4)) | (refine ⟨trivial, ?_⟩; gi_at_call 62; refine (CallsIn.inRound l (callsIn_wide.2 (bt_str hS4.out _ hl1.out hts.out))).mono ?_; rintro e5 W5 ⟨rfl, hS5⟩; have hS5 := Sdq.mk hS5))
   exact hfin.out _ (by rw [htp, if_neg (by simp), List.append_nil]; have := hS5.out; simpa using this)
  ·by_cases hn : 0 < y.n
   ·have hL := bt_Len hS0.out
    have hn0 : (0 : Int) < (s.length : Int) := by have := List.length_pos_iff.2 hs; omega
    obtain ⟨nl, enl⟩ : ∃ nl : Int, nl = (s.length : Int) := ⟨_, rfl⟩
    rw [← enl] at hL hn0;have hL := Sdq.mk hL;clear enl;have hl0 := Sdq.mk (show s.length ≤ 1000000000 by omega);have hl1 := Sdq.mk (show (s ++ [43]).length ≤ 1000000000 by simp; omega)
    have hsv : 0 < sv := by rw [esv, sgn_gt hn]; decide
    have hcnd := Sdq.mk (And.intro hs hn);clear esv hn hs hsl
    gi_wp2_with (first | (refine ⟨trivial, ?_⟩; gi_at_call 60; refine (CallsIn.inRound l (callsIn_wide.2 (hL.out))).mono ?_; rintro e1 W1 ⟨rfl, rfl⟩) | (refine ⟨trivial, ?_⟩; gi_at_call 51; refine (CallsIn.inRound l (callsIn_wide.2 (hSg.out _ hS0.out.kp))).mono ?_; rintro e2 W2 ⟨rfl, hb2⟩; have hS2 := Sdq.mk (hS0.out.below hb2); have d0 := Ctx.blk (hbx.out _ hS2.out.kp) 0 rfl; have d1 := Ctx.blk (hbx.out _ hS2.out.kp) 1 rfl) | (refine ⟨trivial, ?_⟩; gi_at_call 61; refine (CallsIn.inRound l (callsIn_wide.2 (bt_plus hS2.out hl0.out))).mono ?_; rintro e6 W6 ⟨rfl, hS6⟩; have hS6 := Sdq.mk hS6; have f0 := Ctx.blk (hbx.out _ hS6.out.kp) 0 rfl; have f1 := Ctx.blk (hbx.out _ hS6.out.kp) 1 rfl) | (refine ⟨trivial, ?_⟩; gi_at_call 63; refine (CallsIn.inRound l (callsIn_wide.2 (hTx.out _ (hS6).out.kp))).mono ?_; rintro e3 W3 ⟨rfl, hb3⟩; have hS3 := Sdq.mk ((hS6).out.below hb3)) | (refine ⟨trivial, ?_⟩; gi_at_call 64; refine (CallsIn.inRound l (callsIn_wide.2 (hIt.out _ hS3.out.bel))).mono ?_; rintro e4 W4 ⟨rfl, hb4⟩; have hS4 := Sdq.mk (hS3.out.below hb4)) | (refine ⟨trivial, ?_⟩; gi_at_call 62; refine (CallsIn.inRound l (callsIn_wide.2 (bt_str hS4.out _ hl1.out hts.out))).mono ?_; rintro e5 W5 ⟨rfl, hS5⟩; have hS5 := Sdq.mk hS5))
    exact hfin.out _ (by rw [htp, if_pos hcnd.out]; have := hS5.out; simpa using this)
   ·have hL := bt_Len hS0.out
    have hn0 : (0 : Int) < (s.length : Int) := by have := List.length_pos_iff.2 hs; omega
    obtain ⟨nl, enl⟩ : ∃ nl : Int, nl = (s.length : Int) := ⟨_, rfl⟩
    rw [← enl] at hL hn0;have hL := Sdq.mk hL;clear enl;have hl1 := Sdq.mk (show s.length ≤ 1000000000 by omega)
    have hsv : ¬ 0 < sv := by
     rw [esv]
     rcases Int.lt_or_eq_of_le (show y.n ≤ 0 by omega) with h | h
     ·rw [sgn_lt h]; decide
     ·rw [sgn_zero h]; decide
    have hcnd := Sdq.mk (show ¬ (s ≠ [] ∧ 0 < y.n) from fun h => hn h.2);clear esv hn hs hsl
    gi_wp2_with (first | (refine ⟨trivial, ?_⟩; gi_at_call 60; refine (CallsIn.inRound l (callsIn_wide.2 (hL.out))).mono ?_; rintro e1 W1 ⟨rfl, rfl⟩) | (refine ⟨trivial, ?_⟩; gi_at_call 51; refine (CallsIn.inRound l (callsIn_wide.2 (hSg.out _ hS0.out.kp))).mono ?_; rintro e2 W2 ⟨rfl, hb2⟩; have hS2 := Sdq.mk (hS0.out.below hb2); have d0 := Ctx.blk (hbx.out _ hS2.out.kp) 0 rfl; have d1 := Ctx.blk (hbx.out _ hS2.out.kp) 1 rfl) | (refine ⟨trivial, ?_⟩; gi_at_call 63; refine (CallsIn.inRound l (callsIn_wide.2 (hTx.out _ (hS2).out.kp))).mono ?_; rintro e3 W3 ⟨rfl, hb3⟩; have hS3 := Sdq.mk ((hS2).out.below hb3)) | (refine ⟨trivial, ?_⟩; gi_at_call 64; refine (CallsIn.inRound l (callsIn_wide.2 (hIt.out _ hS3.out.bel))).mono ?_; rintro e4 W4 ⟨rfl, hb4⟩; have hS4 := Sdq.mk (hS3.out.below hb4)) | (refine ⟨trivial, ?_⟩; gi_at_call 62; refine (CallsIn.inRound l (callsIn_wide.2 (bt_str hS4.out _ hl1.out hts.out))).mono ?_; rintro e5 W5 ⟨rfl, hS5⟩; have hS5 := Sdq.mk hS5))
    exact hfin.out _ (by rw [htp, if_neg hcnd.out, List.append_nil]; have := hS5.out; simpa using this)
 case done =>
  rintro D ys W hD hS ⟨hI, hB, -⟩ hK
  have hSl : (txts (LnP.nrm (psB x.f1))).length ≤ 400000 := by
   have h1 := txts_len (L := 10020) _ (LnP.nrm (psB x.f1)) rfl (fun q hq => by
    have h2 := hps.out.2 q hq
    exact ⟨itoa64_len h2.2.2.1 h2.2.2.2, itoa_big h2.2.1⟩)
   have h2 := hps.out.1;have h3 : (LnP.nrm (psB x.f1)).length * (10020 + 40) ≤ 39 * (10020 + 40) := Nat.mul_le_mul_right _ h2
   omega
  rw [hS] at hI;have hRQ := hR.out
  obtain ⟨s, es⟩ : ∃ s, s = txts (LnP.nrm (psB x.f1)) := ⟨_, rfl⟩
  unfold txtT at hRQ;rw [← es] at hI hSl hRQ
  have hS0 : BT (w0.heap.size + 1) (w0.heap.size + 1) (w3.heap.size + 1) w1 W s W := ⟨hI, hB, KpB.refl _, KeepsOthers.refl _⟩
  have hbw : ∀ V, Below (w0.heap.size + 1) w1 V → Below w0.heap.size w0 V := fun V hV => hb1.out.trans (hV.mono (Nat.le_succ _))
  have hend : ∀ (V : World) (l : List UInt8), BT (w0.heap.size + 1) (w0.heap.size + 1) (w3.heap.size + 1) w1 W l V → R = ⟨l.toArray⟩ → Calls Tryd.prog 65 #[.pointer (some ⟨w0.heap.size + 1, 0, none⟩)] V fun e V' => e = .returned (.string R) ∧ Sdq (V'.heap[D]? = some (.deferred (some [])) ∧ Below w0.heap.size w0 V') := fun V l h hl => by
   refine (Tryd.Builder_String_any_k (w0.heap.size + 1) (w0.heap.size + 1) l V (Lib.IsBuilderF.of h.is_) (Nat.le_of_lt (isB_lt h.is_))).mono ?_;rintro e V' ⟨rfl, -, h2, h3⟩;exact ⟨by rw [hl], ⟨h3 D _ (h.ko.same D _ hK rfl) (by have := hbl3.out; simp; omega) (by intro c fz h; cases h), hbw _ (h.bel.trans h2)⟩⟩
  have hend := Sdq.mk hend
  have hbx : ∀ V, Below (w0.heap.size + 1) w1 V → (uBlk w0.heap.size [.bool x.f0.f0, .slice A x.f0.f1.length c, .slice B x.f1.length d] 27).p V := fun V hV => (hV.block _ (Nat.lt_succ_self _)).trans C1.out.2.1
  have hkv : ∀ V, Below (w0.heap.size + 1) w1 V → Kv k24 (fun _ => True) V (.agg #[.bool x.f0.f0, .slice A x.f0.f1.length c]) x.f0 := fun V hV => hk0.out.below (hbw V hV)
  have hSg := fun V hV => big_Sign _ x.f0 V (hkv V hV) hx.out.c.dg
  have hTx := fun V hV => big_Text _ x.f0 V (hkv V hV) hx.out.c
  have hdec := decI_itoa (bv x.f0)
  have hcl : (Lib.itoa (bv x.f0)).length ≤ 1000000 := by
   have h1 := itoa_len (bv x.f0);have h2 := dec_len hx.out.c.dg;rw [show val B32 x.f0.f1 = ((bv x.f0).natAbs : Int) by have := val_nonneg (B := B32) (by decide) hx.out.c.dg; unfold bv sg; split <;> omega] at h2;have := hx.out.c.len
   omega
  obtain ⟨cc, ecc⟩ : ∃ cc, cc = bv x.f0 := ⟨_, rfl⟩
  rw [← ecc] at hSg hTx hRQ hdec hcl
  obtain ⟨T, eT⟩ : ∃ T, T = decI cc := ⟨_, rfl⟩
  obtain ⟨sv, esv⟩ : ∃ sv, sv = sgn cc := ⟨_, rfl⟩
  rw [← eT] at hTx hdec;rw [← esv] at hSg;have hts := Sdq.mk (show T.size ≤ 1000000000 by have : T.size = T.data.toList.length := rfl; rw [this, hdec]; omega);rw [← hdec] at hRQ;have c0 := Ctx.blk (hbx W hB) 0 rfl;have c1 := Ctx.blk (hbx W hB) 1 rfl;have hSg := Sdq.mk hSg;have hTx := Sdq.mk hTx;have hbx := Sdq.mk hbx;have hS0 := Sdq.mk hS0;have hD' := Sdq.mk (show w0.heap.size ≤ D by have := hbl3.out; omega);clear hI hB hK hkv hS es hdec hcl eT hD hbw ecc
  have hL := fun V => bt_Len (V := V) (B := w0.heap.size + 1) (b := w0.heap.size + 1) (R := w3.heap.size + 1) (w1 := w1) (W := W) (s := s)
  obtain ⟨nl, enl⟩ : ∃ nl : Int, nl = (s.length : Int) := ⟨_, rfl⟩
  rw [← enl] at hL;have hL := Sdq.mk hL
  by_cases hs : s = []
  ·have hn0 : (nl == 0) = true := by rw [enl, hs]; rfl
   have hn1 : ¬ 0 < nl := by rw [enl, hs]; decide
   have hRR := Sdq.mk (show R = ⟨(s ++ T.data.toList).toArray⟩ by rw [hRQ, if_pos (Or.inl hs), hs]; simp);have hl1 := Sdq.mk (show s.length ≤ 1000000000 by omega);clear hRQ hs enl esv hSl;go_wp2_with (first | (go_at_call 60; refine (hL.out _ hS0.out).mono ?_; rintro e1 W1 ⟨rfl, rfl⟩) | (go_at_call 63; refine (hTx.out _ hS0.out.bel).mono ?_; rintro e2 hS1W ⟨rfl, hb2⟩; have hS1 := Sdq.mk (hS0.out.below hb2); have hS1c0 := Ctx.blk (hbx.out _ hS1.out.bel) 0 rfl; have hS1c1 := Ctx.blk (hbx.out _ hS1.out.bel) 1 rfl) | (go_at_call 62; refine (bt_str hS1.out _ hl1.out hts.out).mono ?_; rintro e2 hS2W ⟨rfl, hh⟩; have hS2 := Sdq.mk hh; clear hh) | (go_at_call 65; refine (hend.out _ _ hS2.out hRR.out).mono ?_; rintro e2 WE ⟨rfl, hE⟩));exact marks_ret1 hE.out.1 (.string R) (by simp [results, Tryd.results30, go_sem]) ⟨rfl, below_put hE.out.2 hD'.out hE.out.1 _⟩
  ·have hn0 : (nl == 0) = false := by have := List.length_pos_iff.2 hs; simp; omega
   have hn1 : 0 < nl := by have := List.length_pos_iff.2 hs; omega
   by_cases hc0 : cc = 0
   ·have hsv : sv = 0 := by rw [esv]; exact sgn_zero hc0
    have hRR := Sdq.mk (show R = ⟨s.toArray⟩ by rw [hRQ, if_neg (by simp [hs, hc0])]);subst hsv;clear hRQ hs enl esv hSl hc0;go_wp2_with (first | (go_at_call 60; refine (hL.out _ hS0.out).mono ?_; rintro e1 W1 ⟨rfl, rfl⟩) | (go_at_call 51; refine (hSg.out _ hS0.out.bel).mono ?_; rintro e2 hS1W ⟨rfl, hb2⟩; have hS1 := Sdq.mk (hS0.out.below hb2); have hS1c0 := Ctx.blk (hbx.out _ hS1.out.bel) 0 rfl; have hS1c1 := Ctx.blk (hbx.out _ hS1.out.bel) 1 rfl) | (go_at_call 65; refine (hend.out _ _ hS1.out hRR.out).mono ?_; rintro e2 WE ⟨rfl, hE⟩));exact marks_ret1 hE.out.1 (.string R) (by simp [results, Tryd.results30, go_sem]) ⟨rfl, below_put hE.out.2 hD'.out hE.out.1 _⟩
   ·by_cases hcp : 0 < cc
    ·have hsv0 : (sv == 0) = false := by rw [esv, sgn_gt hcp]; rfl
     have hsv : 0 < sv := by rw [esv, sgn_gt hcp]; decide
     have hRR := Sdq.mk (show R = ⟨(s ++ [43] ++ T.data.toList).toArray⟩ by rw [hRQ, if_pos (Or.inr hc0), if_pos ⟨hs, hcp⟩]);have hl0 := Sdq.mk (show s.length ≤ 1000000000 by omega);have hl1 := Sdq.mk (show (s ++ [43]).length ≤ 1000000000 by simp; omega);clear hRQ hs enl esv hSl hc0 hcp;go_wp2_with (first | (go_at_call 60; refine (hL.out _ hS1.out).mono ?_; rintro e1 W1 ⟨rfl, rfl⟩) | (go_at_call 60; refine (hL.out _ hS0.out).mono ?_; rintro e1 W1 ⟨rfl, rfl⟩) | (go_at_call 51; refine (hSg.out _ hS1.out.bel).mono ?_; rintro e2 hS2W ⟨rfl, hb2⟩; have hS2 := Sdq.mk (hS1.out.below hb2); have hS2c0 := Ctx.blk (hbx.out _ hS2.out.bel) 0 rfl; have hS2c1 := Ctx.blk (hbx.out _ hS2.out.bel) 1 rfl) | (go_at_call 51; refine (hSg.out _ hS0.out.bel).mono ?_; rintro e2 hS1W ⟨rfl, hb2⟩; have hS1 := Sdq.mk (hS0.out.below hb2); have hS1c0 := Ctx.blk (hbx.out _ hS1.out.bel) 0 rfl; have hS1c1 := Ctx.blk (hbx.out _ hS1.out.bel) 1 rfl) | (go_at_call 61; refine (bt_plus hS2.out hl0.out).mono ?_; rintro e2 hS3W ⟨rfl, hh⟩; have hS3 := Sdq.mk hh; clear hh; have hS3c0 := Ctx.blk (hbx.out _ hS3.out.bel) 0 rfl; have hS3c1 := Ctx.blk (hbx.out _ hS3.out.bel) 1 rfl) | (go_at_call 63; refine (hTx.out _ hS3.out.bel).mono ?_; rintro e2 hS4W ⟨rfl, hb2⟩; have hS4 := Sdq.mk (hS3.out.below hb2); have hS4c0 := Ctx.blk (hbx.out _ hS4.out.bel) 0 rfl; have hS4c1 := Ctx.blk (hbx.out _ hS4.out.bel) 1 rfl) | (go_at_call 62; refine (bt_str hS4.out _ hl1.out hts.out).mono ?_; rintro e2 hS5W ⟨rfl, hh⟩; have hS5 := Sdq.mk hh; clear hh) | (go_at_call 65; refine (hend.out _ _ hS5.out hRR.out).mono ?_; rintro e2 WE ⟨rfl, hE⟩));exact marks_ret1 hE.out.1 (.string R) (by simp [results, Tryd.results30, go_sem]) ⟨rfl, below_put hE.out.2 hD'.out hE.out.1 _⟩
    ·have hsv0 : (sv == 0) = false := by rw [esv, sgn_lt (by omega)]; rfl
     have hsv : ¬ 0 < sv := by rw [esv, sgn_lt (by omega)]; decide
     have hRR := Sdq.mk (show R = ⟨(s ++ T.data.toList).toArray⟩ by rw [hRQ, if_pos (Or.inr hc0), if_neg (fun h => hcp h.2), List.append_nil]);have hl1 := Sdq.mk (show s.length ≤ 1000000000 by omega);clear hRQ hs enl esv hSl hc0 hcp;go_wp2_with (first | (go_at_call 60; refine (hL.out _ hS1.out).mono ?_; rintro e1 W1 ⟨rfl, rfl⟩) | (go_at_call 60; refine (hL.out _ hS0.out).mono ?_; rintro e1 W1 ⟨rfl, rfl⟩) | (go_at_call 51; refine (hSg.out _ hS1.out.bel).mono ?_; rintro e2 hS2W ⟨rfl, hb2⟩; have hS2 := Sdq.mk (hS1.out.below hb2); have hS2c0 := Ctx.blk (hbx.out _ hS2.out.bel) 0 rfl; have hS2c1 := Ctx.blk (hbx.out _ hS2.out.bel) 1 rfl) | (go_at_call 51; refine (hSg.out _ hS0.out.bel).mono ?_; rintro e2 hS1W ⟨rfl, hb2⟩; have hS1 := Sdq.mk (hS0.out.below hb2); have hS1c0 := Ctx.blk (hbx.out _ hS1.out.bel) 0 rfl; have hS1c1 := Ctx.blk (hbx.out _ hS1.out.bel) 1 rfl) | (go_at_call 63; refine (hTx.out _ hS2.out.bel).mono ?_; rintro e2 hS4W ⟨rfl, hb2⟩; have hS4 := Sdq.mk (hS2.out.below hb2); have hS4c0 := Ctx.blk (hbx.out _ hS4.out.bel) 0 rfl; have hS4c1 := Ctx.blk (hbx.out _ hS4.out.bel) 1 rfl) | (go_at_call 62; refine (bt_str hS4.out _ hl1.out hts.out).mono ?_; rintro e2 hS5W ⟨rfl, hh⟩; have hS5 := Sdq.mk hh; clear hh) | (go_at_call 65; refine (hend.out _ _ hS5.out hRR.out).mono ?_; rintro e2 WE ⟨rfl, hE⟩));exact marks_ret1 hE.out.1 (.string R) (by simp [results, Tryd.results30, go_sem]) ⟨rfl, below_put hE.out.2 hD'.out hE.out.1 _⟩
end Go.Proofs.YthpgjgmaamcaoaaDoor.P
end
section
namespace Go.Proofs.YthpgjgmaamcaoaaDoor.P
open Go.RowKit Go.Shelf Go.Proofs.YthpgjgmaamcaoaaDoor.P Go.Proofs.YthpgjgmaamcaoaaDoorW.PrintWords Go.Proofs.YthpgjgmaamcaoaaDoorW.PrintLast Go.Proofs.YthpgjgmaamcaoaaDoorW.PrintMore Go.Proofs.YthpgjgmaamcaoaaDoor.Nm
set_option maxRecDepth 100000
set_option linter.unusedVariables false
set_option linter.unusedSimpArgs false
theorem law_summed.tab2 : tabOf (opsOf Tryd.f10 2) = ([some 12, some 13, some 14, some 15, some 16, some 17, some 18, some 19, some 20, some 21, some 22, some 23, some 24, some 0], [[], [0], [1], [2, 1], [3], [3, 3], [5, 3], [6, 6, 3], [5, 7, 7, 3], [4, 8, 8, 3], [9, 9, 3], [10, 3], [3, 11], [12, 10, 0, 1, 2, 3, 4, 5, 6, 7, 8, 9, 10, 11, 12]]) := by kernel_rfl
def Sm (n : Int) : Prop := (n.natAbs : Int) < 4294967296
theorem Sm.len {n : Int} (h : Sm n) : (can n).f1.length ≤ 1 := can_len (by unfold Sm at h; unfold B32; simpa using h)
theorem Sm.big {n : Int} (h : Sm n) : Big (can n) := ⟨can_dg n, Nat.le_trans h.len (by decide)⟩
theorem sm_lin {k : Int} {ps : LnP.Ps} (hk : Sm k) (hp : ∀ p ∈ ps, Sm p.2) (hl : ps.length ≤ 39) : LIn (tt k ps) :=
 ⟨by show (ps.map cp).length ≤ 39; rwa [List.length_map], ⟨can_dg _, Nat.le_trans hk.len (by decide)⟩, fun p hq => by
  obtain ⟨z, hz, rfl⟩ := List.mem_map.1 hq
  exact ⟨can_dg _, Nat.le_trans (hp z hz).len (by decide)⟩⟩
theorem itoa_1 : Lib.itoa 1 = [49] := by show Lib.decDigits 1 = _; rw [Lib.decDigits]; rfl
theorem itoa_2 : Lib.itoa 2 = [50] := by show Lib.decDigits 2 = _; rw [Lib.decDigits]; rfl
theorem itoa_3 : Lib.itoa 3 = [51] := by show Lib.decDigits 3 = _; rw [Lib.decDigits]; rfl
theorem itoa_5 : Lib.itoa 5 = [53] := by show Lib.decDigits 5 = _; rw [Lib.decDigits]; rfl
theorem sum_text1 : txtT 5 [(1, 2)] = [50, 42, 120, 49, 43, 53] := by
 simp [txtT, txts, txtP, itoa_1, itoa_2, itoa_5]
theorem sum_text2 : txtT 3 [(2, 2)] = [50, 42, 120, 50, 43, 51] := by
 simp [txtT, txts, txtP, itoa_2, itoa_3]
theorem cv_laid {O : Nat → Prop} {W : World} {es : List El} {xs : List S44} (hl : es.length = xs.length) (hm : xs.length ≤ 39) (hn : 0 < xs.length) (hO : ∀ k, W.heap.size ≤ k → O k) (h : ∀ (i : Nat) (x : S44) (e : El), xs[i]? = some x → es[i]? = some e → Kd.FK k44 W O x e.cs) :
  Cv k44 O (W.alloc (.cells (es.flatMap El.cs).toArray 44)) (.slice (some ⟨W.heap.size, 0, none⟩) es.length es.length) xs := by
 have hb : Below W.heap.size W (W.alloc (.cells (es.flatMap El.cs).toArray 44)) := bal (Below.refl _ _) _;have hf := cs_flat es
 exact ns_row (W := W.alloc (.cells (es.flatMap El.cs).toArray 44)) (base := W.heap.size) (O := O) (pv := .slice (some ⟨W.heap.size, 0, none⟩) es.length es.length) (os := es) (xs := xs)
  ⟨hf, .inr ⟨W.heap.size, es.length, (es.flatMap El.cs).toArray, rfl, Nat.le_refl _, blk_new W _, Nat.le_refl _, by unfold maxLen; omega, by rw [List.size_toArray, hf], by rw [← hf]; exact List.take_length⟩⟩ hO hl (by omega) (fun i x e hx he => Kd.FK_below (h i x e hx he) hb)
def uTab : UpP := ⟨TabOk, fun _ _ h hb => h.below hb⟩
theorem lin_TextS (k : Int) (ps : LnP.Ps) (S : ByteArray) (v : Value) (w0 : World) (h : Kv kTB (fun _ => True) w0 v (tt k ps)) (hx : LIn (tt k ps)) (hv : ∀ p ∈ ps, -9223372036854775808 ≤ p.1 ∧ p.1 ≤ 9223372036854775807) (hT : TabOk w0) (ho : LnP.nrm ps = ps) (hS : (⟨(txtT k ps).toArray⟩ : ByteArray) = S) :
  Calls Tryd.prog 30 #[v] w0 fun e w' => ∃ v, e = .returned v ∧ v = .string S ∧ Below w0.heap.size w0 w' := by
 have h1 := lin_Text v (tt k ps) w0 h (lin_nin hx) (fun p hp => by
  obtain ⟨z, hz, rfl⟩ := List.mem_map.1 hp
  exact hv z hz) hT
 rw [show bv (tt k ps).f0 = k from bv_can k, show psB (tt k ps).f1 = ps from psB_cp ps, ho, hS] at h1;exact h1.mono (fun e w' he => ⟨_, he.1, rfl, he.2⟩)
set_option maxHeartbeats 3200000 in
theorem law_summed (w0 : World) (hT : TabOk w0) : Calls Tryd.prog 10 #[] w0 fun e w' => e = .returned (.bool true) ∧ Below w0.heap.size w0 w' := by
 have hin := Sdq.mk (show LIn (tt 5 [(1, 2)]) ∧ LIn (tt 3 [(2, 2)]) from ⟨sm_lin (by unfold Sm; decide) (by unfold Sm; decide) (by decide), sm_lin (by unfold Sm; decide) (by unfold Sm; decide) (by decide)⟩)
 have hOf := Sdq.mk (fun (w : World) (v : Value) (h : Kv k24 (fun _ => True) w v (can 1)) => by
  have h1 := lin_Of (fun _ => True) v (can 1) w (fun _ _ => trivial) h (Sm.big (by unfold Sm; decide));rw [bv_can] at h1
  exact h1)
 have hSub := Sdq.mk (fun (w : World) (u v : Value) (h : Kv kTB (fun _ => True) w u (tt 0 [(2, 1)])) (h' : Kv kTB (fun _ => True) w v (tt 1 [])) => by
  have h1 := lin_Sub (fun _ => True) u v _ _ w (fun _ _ => trivial) h h' (lin_sin (sm_lin (by unfold Sm; decide) (by unfold Sm; decide) (by decide))) (lin_sin (sm_lin (by unfold Sm; decide) (by unfold Sm; decide) (by decide))) (by decide);rw [show bv ((tt 0 [(2, 1)])).f0 - bv ((tt 1 [])).f0 = -1 by show bv (can 0) - bv (can 1) = -1; rw [bv_can, bv_can]; rfl, show psB ((tt 0 [(2, 1)])).f1 = [(2, 1)] from psB_cp _, show psB ((tt 1 [])).f1 = [] from rfl] at h1
  exact h1)
 have hSst := Sdq.mk (fun (w : World) (u v : Value) (h : Kv kTB (fun _ => True) w u (tt 5 [(1, 2)])) (h' : Kv kTB (fun _ => True) w v (tt (-1) [(2, 1)])) => by
  have h1 := lin_Subst (fun _ => True) u v _ _ 1 w (fun _ _ => trivial) h h' (sm_lin (by unfold Sm; decide) (by unfold Sm; decide) (by decide)) (sm_lin (by unfold Sm; decide) (by unfold Sm; decide) (by decide)) (by decide);rw [show psB ((tt 5 [(1, 2)])).f1 = [(1, 2)] from psB_cp _, show psB ((tt (-1) [(2, 1)])).f1 = [(2, 1)] from psB_cp _, show bv ((tt 5 [(1, 2)])).f0 = 5 from bv_can 5, show bv ((tt (-1) [(2, 1)])).f0 = -1 from bv_can (-1), show ((tt 5 [(1, 2)])).f1.filter (fun p => p.f0 != 1) = [] from rfl] at h1
  exact h1)
 have hT := Sdq.mk hT;go_enter Tryd.func10, Tryd.ntmps10;go_wp2_with (first | (have _ := hv3; go_at_call 41; refine (big_Of (fun _ => True) _ _ (fun _ _ => trivial) (by decide) (by decide)).mono ?_; rintro e4 W4 ⟨v4, rfl, hv4, hb4⟩; obtain ⟨A4, c4, rfl, l4, F4⟩ := hv4.openB) | (have _ := hv2; go_at_call 41; refine (big_Of (fun _ => True) _ _ (fun _ _ => trivial) (by decide) (by decide)).mono ?_; rintro e3 W3 ⟨v3, rfl, hv3, hb3⟩; obtain ⟨A3, c3, rfl, l3, F3⟩ := hv3.openB) | (have _ := hv1; go_at_call 41; refine (big_Of (fun _ => True) _ _ (fun _ _ => trivial) (by decide) (by decide)).mono ?_; rintro e2 W2 ⟨v2, rfl, hv2, hb2⟩; obtain ⟨A2, c2, rfl, l2, F2⟩ := hv2.openB) | (go_at_call 41; refine (big_Of (fun _ => True) _ _ (fun _ _ => trivial) (by decide) (by decide)).mono ?_; rintro e1 W1 ⟨v1, rfl, hv1, hb1⟩; obtain ⟨A1, c1, rfl, l1, F1⟩ := hv1.openB) | fail)
 have hrow := cv_laid (O := fun _ => True) (W := W4) (es := [⟨3, (can 1).f0, A2, (can 1).f1.length, c2⟩, ⟨1, (can 2).f0, A3, (can 2).f1.length, c3⟩, ⟨3, (can (-1)).f0, A4, (can (-1)).f1.length, c4⟩]) (xs := [cp (3, 1), cp (1, 2), cp (3, -1)]) rfl (by decide) (by decide) (fun _ _ => trivial) (fun i x e h1 h2 => by
  match i, h1, h2 with
  | 0, h1, h2 => obtain rfl := Option.some.inj h1; obtain rfl := Option.some.inj h2; exact el_fk rfl rfl rfl l2 (Kd.F_below (Kd.F_below F2 hb3) hb4)
  | 1, h1, h2 => obtain rfl := Option.some.inj h1; obtain rfl := Option.some.inj h2; exact el_fk rfl rfl rfl l3 (Kd.F_below F3 hb4)
  | 2, h1, h2 => obtain rfl := Option.some.inj h1; obtain rfl := Option.some.inj h2; exact el_fk rfl rfl rfl l4 F4)
 obtain ⟨B', d', e1, l5, F5⟩ := hrow
 injection e1 with e2 e9 e3
 subst e2;have hbA : Below w0.heap.size w0 W4 := below_step (below_step (below_step hb1 hb2) hb3) hb4;have hN := lin_Norm (fun _ => True) _ ⟨can 5, [cp (3, 1), cp (1, 2), cp (3, -1)]⟩ _ (fun _ _ => trivial) ⟨_, rfl, kTB_mkF _ _ ⟨can 5, [cp (3, 1), cp (1, 2), cp (3, -1)]⟩ l1 (Kd.F_below (Kd.F_below (Kd.F_below (Kd.F_below F1 hb2) hb3) hb4) (bal (Below.refl _ _) _)) (show 3 ≤ 3 from Nat.le_refl _) F5⟩ (lin_nin (sm_lin (k := 5) (ps := [(3, 1), (1, 2), (3, -1)]) (by unfold Sm; decide) (by unfold Sm; decide) (by decide)));rw [show bv (⟨can 5, [cp (3, 1), cp (1, 2), cp (3, -1)]⟩ : TB).f0 = 5 from bv_can 5, show psB (⟨can 5, [cp (3, 1), cp (1, 2), cp (3, -1)]⟩ : TB).f1 = [(3, 1), (1, 2), (3, -1)] from psB_cp [(3, 1), (1, 2), (3, -1)], show LnP.nrm [(3, 1), (1, 2), (3, -1)] = [(1, 2)] by decide] at hN;refine hN.mono ?_;rintro e5 W5 ⟨v5, rfl, hv5, hb5⟩;obtain ⟨tA, tc, tB, td, rfl, -, -⟩ := hv5.openTB;simp only [show (tt 5 [(1, 2)]).f0 = can 5 from rfl, show (tt 5 [(1, 2)]).f1.length = 1 from rfl] at hv5 ⊢;have hb0 : Below w0.heap.size w0 W5 := below_step (bal hbA _) hb5;have C := Ctx.new (cs := [.bool (can 5).f0, .slice tA (can 5).f1.length tc, .slice tB 1 td]) (t := 27) (Ctx.cons (uK kTB (fun _ => True) (.agg #[.bool (can 5).f0, .slice tA (can 5).f1.length tc, .slice tB 1 td]) (tt 5 [(1, 2)])) hv5 (Ctx.cons (uB w0) hb0 (Ctx.cons uTab (hT.out.below hb0) Ctx.nil)))
 obtain ⟨g1, eg1⟩ : ∃ g1, g1 = W5.heap.size := ⟨_, rfl⟩
 clear hbA hN hb5 hb4 hb3 hb2 hb1 F1 F2 F3 F4 F5 l1 l2 l3 l4 l5 hv1 hv2 hv3 hv4 hv5 hb0
 go_upto_region 2 with fail
 simp only [← eg1] at C ⊢;refine absW _ C ?_;clear C eg1;intro w6 C;refine flowT (n := 14) law_summed.tab2 rfl (Ctx _) (Rl [uEq (.agg #[.bool (can 5).f0, .slice tA (can 5).f1.length tc, .slice tB 1 td]), uEq (.string ⟨#[50, 42, 120, 49, 43, 53]⟩), uEq (.bool true), uEq (.bool true), uEq (.agg #[.bool (can 5).f0, .slice tA (can 5).f1.length tc, .slice tB 1 td]), uKd kTB (fun _ => True) (tt 0 [(2, 1)]), uKd k24 (fun _ => True) (can 1), uKd kTB (fun _ => True) (tt 1 []), uKd kTB (fun _ => True) (tt (-1) [(2, 1)]), uKd kTB (fun _ => True) (tt 3 [(2, 2)]), uEq (.string ⟨#[50, 42, 120, 50, 43, 51]⟩), uEq (.bool true), uEq (.bool true), uEq (.bool true)]) rfl (by kernel_rfl) (fun _ _ h hb => h.below hb) (Rl.up _) C ⟨⟨⟨⟨⟨⟨⟨⟨⟨⟨⟨⟨⟨⟨trivial, ?_⟩, ?_⟩, ?_⟩, ?_⟩, ?_⟩, ?_⟩, ?_⟩, ?_⟩, ?_⟩, ?_⟩, ?_⟩, ?_⟩, ?_⟩, ?_⟩ ?_
 ·refine At.of _ rfl (fun e_ a w hC hd hb K hK => ?_)
  have b1 : a.tmps[1]? = some (.pointer (some ⟨g1, 0, none⟩)) := hb 1 (by decide);have cc0 : w.cell? ⟨g1, 0, none⟩ = some (.bool (can 5).f0) := Ctx.blk hC.1 0 rfl;have cc1 : w.cell? ⟨g1, 1, none⟩ = some (.slice tA (can 5).f1.length tc) := Ctx.blk hC.1 1 rfl;have cc2 : w.cell? ⟨g1, 2, none⟩ = some (.slice tB 1 td) := Ctx.blk hC.1 2 rfl;refine value_ (w1 := w) (v := .agg #[.bool (can 5).f0, .slice tA (can 5).f1.length tc, .slice tB 1 td]) (by rfl) rfl ?_ (hK.out _ _ (Below.refl _ _) rfl);clear hC hd hb hK hin hOf hSub hSst
  first | (go_simp; done) | (go_simp; rfl)
 ·refine At.of _ rfl (fun e_ a w hC hd hb K hK => ?_)
  have q12 := (hd 0 (by decide)).2 12 rfl;rw [show e_ 0 = _ from (hd 0 (by decide)).1] at q12;refine goes_ Tryd.func30 (by kernel_rfl) rfl #[.agg #[.bool (can 5).f0, .slice tA (can 5).f1.length tc, .slice tB 1 td]] (by rfl) rfl rfl (by first | (simp [Act.eval, q12]; done) | (simp [Act.eval, q12]; rfl)) ?_;refine (lin_TextS 5 [(1, 2)] _ _ w hC.2.1 hin.out.1 (by decide) hC.2.2.2.1 (by decide) (by rw [sum_text1])).mono ?_;rintro en w' ⟨v, rfl, hv, hb'⟩;exact ⟨v, rfl, hK.out v w' hb' hv⟩
 ·refine At.of _ rfl (fun e_ a w hC hd hb K hK => ?_)
  have q13 := (hd 1 (by decide)).2 13 rfl;rw [show e_ 1 = _ from (hd 1 (by decide)).1] at q13;refine value_ (w1 := w) (v := .bool true) (by rfl) rfl ?_ (hK.out _ _ (Below.refl _ _) rfl);clear hC hd hb hK hin hOf hSub hSst
  first | (go_simp; done) | (go_simp; rfl)
 ·refine At.of _ rfl (fun e_ a w hC hd hb K hK => ?_)
  have q14 := (hd 2 (by decide)).2 14 rfl;rw [show e_ 2 = _ from (hd 2 (by decide)).1] at q14;refine value_ (w1 := w) (v := .bool true) (by rfl) rfl ?_ (hK.out _ _ (Below.refl _ _) rfl);clear hC hd hb hK hin hOf hSub hSst
  first | (go_simp; done) | (go_simp; rfl)
 ·refine At.of _ rfl (fun e_ a w hC hd hb K hK => ?_)
  have gg15 := (hd 3 (by decide)).2 15 rfl;rw [show e_ 3 = _ from (hd 3 (by decide)).1] at gg15;have b1 : a.tmps[1]? = some (.pointer (some ⟨g1, 0, none⟩)) := hb 1 (by decide);have cc0 : w.cell? ⟨g1, 0, none⟩ = some (.bool (can 5).f0) := Ctx.blk hC.1 0 rfl;have cc1 : w.cell? ⟨g1, 1, none⟩ = some (.slice tA (can 5).f1.length tc) := Ctx.blk hC.1 1 rfl;have cc2 : w.cell? ⟨g1, 2, none⟩ = some (.slice tB 1 td) := Ctx.blk hC.1 2 rfl;refine value_ (w1 := w) (v := .agg #[.bool (can 5).f0, .slice tA (can 5).f1.length tc, .slice tB 1 td]) (by simp [Region.wanted, yielded, gg15]) rfl ?_ (hK.out _ _ (Below.refl _ _) rfl);clear hC hd hb hK hin hOf hSub hSst
  first | (go_simp; done) | (go_simp; rfl)
 ·refine At.of _ rfl (fun e_ a w hC hd hb K hK => ?_)
  have gg15 := (hd 3 (by decide)).2 15 rfl;rw [show e_ 3 = _ from (hd 3 (by decide)).1] at gg15;refine goes_ Tryd.func42 (by kernel_rfl) rfl #[.int .i64 2] (by simp [Region.wanted, yielded, gg15]) rfl rfl (by first | (simp [Act.eval]; done) | (simp [Act.eval]; rfl)) ?_;refine (lin_Var (fun _ => True) 2 w (fun _ _ => trivial)).mono ?_;rintro en w' ⟨v, rfl, hv, hb'⟩;exact ⟨v, rfl, hK.out v w' hb' hv⟩
 ·refine At.of _ rfl (fun e_ a w hC hd hb K hK => ?_)
  have gg15 := (hd 3 (by decide)).2 15 rfl;rw [show e_ 3 = _ from (hd 3 (by decide)).1] at gg15;refine goes_ Tryd.func41 (by kernel_rfl) rfl #[.int .i64 1] (by simp [Region.wanted, yielded, gg15]) rfl rfl (by first | (simp [Act.eval]; done) | (simp [Act.eval]; rfl)) ?_;refine (big_Of (fun _ => True) 1 w (fun _ _ => trivial) (by decide) (by decide)).mono ?_;rintro en w' ⟨v, rfl, hv, hb'⟩;exact ⟨v, rfl, hK.out v w' hb' hv⟩
 ·refine At.of _ rfl (fun e_ a w hC hd hb K hK => ?_)
  have gg15 := (hd 3 (by decide)).2 15 rfl;rw [show e_ 3 = _ from (hd 3 (by decide)).1] at gg15;have q18 := (hd 6 (by decide)).2 18 rfl;refine goes_ Tryd.func43 (by kernel_rfl) rfl #[e_ 6] (by simp [Region.wanted, yielded, gg15]) rfl rfl (by first | (simp [Act.eval, q18]; done) | (simp [Act.eval, q18]; rfl)) ?_;refine (hOf.out w _ (hd 6 (by decide)).1).mono ?_;rintro en w' ⟨v, rfl, hv, hb'⟩;exact ⟨v, rfl, hK.out v w' hb' hv⟩
 ·refine At.of _ rfl (fun e_ a w hC hd hb K hK => ?_)
  have gg15 := (hd 3 (by decide)).2 15 rfl;rw [show e_ 3 = _ from (hd 3 (by decide)).1] at gg15;have q17 := (hd 5 (by decide)).2 17 rfl;have q19 := (hd 7 (by decide)).2 19 rfl;refine goes_ Tryd.func19 (by kernel_rfl) rfl #[e_ 5, e_ 7] (by simp [Region.wanted, yielded, gg15]) rfl rfl (by first | (simp [Act.eval, q17, q19]; done) | (simp [Act.eval, q17, q19]; rfl)) ?_;refine (hSub.out w _ _ (hd 5 (by decide)).1 (hd 7 (by decide)).1).mono ?_;rintro en w' ⟨v, rfl, hv, hb'⟩;exact ⟨v, rfl, hK.out v w' hb' hv⟩
 ·refine At.of _ rfl (fun e_ a w hC hd hb K hK => ?_)
  have gg15 := (hd 3 (by decide)).2 15 rfl;rw [show e_ 3 = _ from (hd 3 (by decide)).1] at gg15;have q16 := (hd 4 (by decide)).2 16 rfl;rw [show e_ 4 = _ from (hd 4 (by decide)).1] at q16;have q20 := (hd 8 (by decide)).2 20 rfl;refine goes_ Tryd.func12 (by kernel_rfl) rfl #[.agg #[.bool (can 5).f0, .slice tA (can 5).f1.length tc, .slice tB 1 td], .int .i64 1, e_ 8] (by simp [Region.wanted, yielded, gg15]) rfl rfl (by first | (simp [Act.eval, q16, q20]; done) | (simp [Act.eval, q16, q20]; rfl)) ?_;refine (hSst.out w _ _ hC.2.1 (hd 8 (by decide)).1).mono ?_;rintro en w' ⟨v, rfl, hv, hb'⟩;exact ⟨v, rfl, hK.out v w' hb' hv⟩
 ·refine At.of _ rfl (fun e_ a w hC hd hb K hK => ?_)
  have gg15 := (hd 3 (by decide)).2 15 rfl;rw [show e_ 3 = _ from (hd 3 (by decide)).1] at gg15;have q21 := (hd 9 (by decide)).2 21 rfl;refine goes_ Tryd.func30 (by kernel_rfl) rfl #[e_ 9] (by simp [Region.wanted, yielded, gg15]) rfl rfl (by first | (simp [Act.eval, q21]; done) | (simp [Act.eval, q21]; rfl)) ?_;refine (lin_TextS 3 [(2, 2)] _ _ w (hd 9 (by decide)).1 hin.out.2 (by decide) hC.2.2.2.1 (by decide) (by rw [sum_text2])).mono ?_;rintro en w' ⟨v, rfl, hv, hb'⟩;exact ⟨v, rfl, hK.out v w' hb' hv⟩
 ·refine At.of _ rfl (fun e_ a w hC hd hb K hK => ?_)
  have gg15 := (hd 3 (by decide)).2 15 rfl;rw [show e_ 3 = _ from (hd 3 (by decide)).1] at gg15;have q22 := (hd 10 (by decide)).2 22 rfl;rw [show e_ 10 = _ from (hd 10 (by decide)).1] at q22;refine value_ (w1 := w) (v := .bool true) (by simp [Region.wanted, yielded, gg15]) rfl ?_ (hK.out _ _ (Below.refl _ _) rfl);clear hC hd hb hK hin hOf hSub hSst
  first | (go_simp; done) | (go_simp; rfl)
 ·refine At.of _ rfl (fun e_ a w hC hd hb K hK => ?_)
  have q15 := (hd 3 (by decide)).2 15 rfl;rw [show e_ 3 = _ from (hd 3 (by decide)).1] at q15;have q23 := (hd 11 (by decide)).2 23 rfl;rw [show e_ 11 = _ from (hd 11 (by decide)).1] at q23;refine value_ (w1 := w) (v := .bool true) (by rfl) rfl ?_ (hK.out _ _ (Below.refl _ _) rfl);clear hC hd hb hK hin hOf hSub hSst
  first | (go_simp; done) | (go_simp; rfl)
 ·refine At.of _ rfl (fun e_ a w hC hd hb K hK => ?_)
  have q24 := (hd 12 (by decide)).2 24 rfl;rw [show e_ 12 = _ from (hd 12 (by decide)).1] at q24;refine value_ (w1 := w) (v := .bool true) (by rfl) rfl ?_ (hK.out _ _ (Below.refl _ _) rfl);clear hC hd hb hK hin hOf hSub hSst
  first | (go_simp; done) | (go_simp; rfl)
 ·intro e_ w10 hC hr
  have r13 : e_ 13 = .bool true := hr.2;simp only [fill, Act.put, r13, if_true, List.setIfInBounds_toArray, List.set_cons_zero, List.set_cons_succ];have hb10 := hC.2.2.1;clear hr r13 hC
  go_wp2_with fail
  go_ret;exact ⟨rfl, hb10⟩
end Go.Proofs.YthpgjgmaamcaoaaDoor.P
end
