/- Walks and words of this session, put together by a program of this session (pack.py). Conditions: as each text says. -/
import Derived.Test.YteighppcdpaekaaDoorS2
import Derived.Test.YteighppcdpaekaaDoorS3
import Derived.Test.YteighppcdpaekaaDoorS4
import Derived.Test.YteighppcdpaekaaDoorS5
import Derived.Test.YteighppcdpaekaaDoorS6
import Derived.Test.YteighppcdpaekaaDoorS8
set_option linter.unusedVariables false
set_option linter.unusedSimpArgs false
section
namespace Go.Proofs.YteighppcdpaekaaDoor.Rf
open Go.RowKit Go.Proofs.YteighppcdpaekaaDoorW.PrintWords Go.Proofs.YteighppcdpaekaaDoor Go.Proofs.YteighppcdpaekaaDoor.P
theorem key_at {w : World} {A : Option Addr} {n : Nat} {xs : List ByteArray} (h : Kd.C Kd.string w A n xs) {i : Nat} (hi : i < n) : ∃ ad, A = some ad ∧ w.cell? (ad.add i) = some (.string (xs.getD i ⟨#[]⟩)) := by
 obtain ⟨ad, c, e, _, hK, hc⟩ := Kd.C_get h ⟨#[]⟩ (i : Int) (by omega) (by omega);obtain rfl : c = [.string (xs.getD i ⟨#[]⟩)] := hK;refine ⟨ad, e, ?_⟩;have := hc 0 _ rfl;rw [Int.toNat_natCast] at this
 simpa [Kd.string, Kd.scalar] using this
theorem toList_inj {x y : ByteArray} (h : x.toList = y.toList) : x = y := by
 rw [ByteArray.toList_eq, ByteArray.toList_eq] at h;exact ByteArray.ext (Array.toList_inj.1 h)
theorem key_ne {x y : ByteArray} (h : ¬ x = y) : (x.toList == y.toList) = false := by
 rw [beq_eq_false_iff_ne]
 exact fun e => h (toList_inj e)
structure XS (W : World) (base top nx : Nat) (t0 : Int) (t1 : ByteArray) (v2 v3 : Value) (t2 : List ByteArray) (t3 : List S44) : Prop where
 hx : W.heap[nx]? = some (.cells #[.int .i64 t0, .string t1, v2, v3] 44 (0, 0))
 r2 : Kd.string.R 9 W base (fun k => base ≤ k ∧ k < top) v2 t2
 r3 : k44.R 44 W base (fun k => base ≤ k ∧ k < top) v3 t3
 le : base ≤ nx
theorem XS.mk' {W : World} {base : Nat} {t0 : Int} {t1 : ByteArray} {v2 v3 : Value} {t2 : List ByteArray} {t3 : List S44} (h2 : Kd.string.R 9 W base (fun _ => True) v2 t2) (h3 : k44.R 44 W base (fun k => some k ≠ v2.ownBlock) v3 t3) (hb : base ≤ W.heap.size) :
  XS (W.alloc (.cells #[.int .i64 t0, .string t1, v2, v3] 44 (0, 0))) base W.heap.size W.heap.size t0 t1 v2 v3 t2 t3 :=
 ⟨blk_new _ _, Kd.R_grown (Kd.R_mono (Kd.R_bound h2) (fun k hk => ⟨hk.2.1, hk.2.2.1⟩)) (World.grownBy_alloc W _ none) (fun _ _ => by simp), Kd.R_grown (Kd.R_mono (Kd.R_bound h3) (fun k hk => ⟨hk.2.1, hk.2.2.1⟩)) (World.grownBy_alloc W _ none) (fun _ _ => by simp), hb⟩
theorem XS.grown {W W' : World} {base top nx : Nat} {t0 : Int} {t1 : ByteArray} {v2 v3 : Value} {t2 : List ByteArray} {t3 : List S44} (h : XS W base top nx t0 t1 v2 v3 t2 t3) {row : Option Nat} (hg : W.grownBy W' row) (hr : ∀ k, row = some k → k < base) : XS W' base top nx t0 t1 v2 v3 t2 t3 := by
 have := h.le;exact ⟨blk_grown h.hx hg (fun e => by have := hr _ e.symm; omega), Kd.R_grown h.r2 hg (fun k hk e => by have := hr _ e.symm; omega), Kd.R_grown h.r3 hg (fun k hk e => by have := hr _ e.symm; omega), h.le⟩
theorem XS.set {W : World} {base top nx : Nat} {t0 : Int} {t1 : ByteArray} {v2 v3 : Value} {t2 : List ByteArray} {t3 : List S44} (h : XS W base top nx t0 t1 v2 v3 t2 t3) (p : Addr) (hp : p.block < base) (u : Value) : XS (W.setCell p u) base top nx t0 t1 v2 v3 t2 t3 := by
 have := h.le;exact ⟨blk_far h.hx (by omega) u, Kd.R_far h.r2 (fun k hk => by omega) u, Kd.R_far h.r3 (fun k hk => by omega) u, h.le⟩
theorem XS.M {W : World} {base top nx : Nat} {t0 : Int} {t1 : ByteArray} {v2 v3 : Value} {t2 : List ByteArray} {t3 : List S44} (h : XS W base top nx t0 t1 v2 v3 t2 t3) {base' : Nat} (hb : base' ≤ base) : k44.M W base' (fun k => base ≤ k ∧ k < top) ⟨t0, t1, t2, t3⟩ [.int .i64 t0, .string t1, v2, v3] :=
 k44.M_lower hb (k44_mkM _ _ _ ⟨t0, t1, t2, t3⟩ h.r2 h.r3)
theorem info_9 : (Tryd.prog.info? 9).map (fun i => (i.zero, i.size, i.bytes)) = some (some (.string ⟨#[]⟩), 1, 16) := by kernel_rfl
set_option maxRecDepth 100000 in
set_option maxHeartbeats 3200000 in
theorem object_calls {V : Int → Int → Int → Int → Option RVal} {b : List Int} (hV : VOK b V) (k g : Nat) (a d e B : Int) (r : RVal) (w0 w : World) (hI : IsS96 w0 w g b a d e B) (hB : Below w0.heap.size w0 w) (hlt : g < w.heap.size) (h : objF V k b a d e B = some r) :
  Calls Tryd.prog 66 #[.pointer (some ⟨g, 0, none⟩)] w (VPost w0 w g b r) := by
 have N := Sdq.mk (VS.start (kd := 6) hI hB hlt);have h' := Option.bind_eq_some_iff.mp h;obtain ⟨⟨t, a1, d1, e1, B1⟩, hs, h'⟩ := h';have H := Sdq.mk h';have hse := Sdq.mk hs;clear hI hB h h' hs;go_enter Tryd.func66, Tryd.ntmps66
 go_upto_region 2 with fail
 refine absP (fun W => VS w0 w g b 6 W a d e B _ _ _ _) N.out ?_;clear N;intro w1 N1;have N := Sdq.mk N1;clear N1
 go_wp2_with fail
 refine (RRq_enter.calls k g b a d e B 125 t a1 d1 e1 B1 w0 _ N.out.i N.out.bl hse.out).mono ?_;rintro en w2 ⟨rfl, hi, hb, hk⟩;have Nn := Sdq.mk (N.out.step hi hb hk);clear N hse hi hb hk;have N := Nn;clear Nn
 cases t with
 | true =>
  have h := H.out;obtain rfl := Option.some.inj (show some _ = some r from h);clear H h;obtain ⟨⟨x0, x1, x2, x3⟩, ⟨y0, y1, y2, y3⟩, ⟨f0, f1, f2, f3⟩, ⟨f4, f5⟩, c1, c3⟩ := N.out.cells
  go_wp2_with fail
  have F := N.out.fin _ rfl;clear N x0 x1 x2 x3 y0 y1 y2 y3 f0 f1 f2 f3 f4 f5 c1 c3;generalize World.setCell _ _ _ = wf at F ⊢;obtain ⟨FP, c0, c1, c2, c3⟩ := F;exact bodyPost_ret (v := .agg #[.int .i64 6, .string ⟨#[]⟩, .slice none 0 0, .slice none 0 0]) (by simp [results, Tryd.results66, go_sem, c0, c1, c2, c3]) rfl FP
 | false =>
  have h : pairsF V k b k [] [] true a1 d1 e1 B1 = some r := H.out;clear H;have H := Sdq.mk h;clear h
  go_wp2_with fail
  go_loopg [4] k (fun kq s4 wc => ∃ (m : Bool) (a1 d1 e1 B1 : Int) (kv lv : Value) (ks : List ByteArray) (l : List S44), s4 = .bool m ∧ Sdq (pairsF V k b kq ks l m a1 d1 e1 B1 = some r) ∧ VS w0 w g b 6 wc a1 d1 e1 B1 kv lv ks l)
  case atStart => exact ⟨true, _, _, _, _, _, _, _, _, rfl, H, N.out⟩
  case round =>
   clear H N;obtain ⟨m, a2, d2, e2, B2, kv, lv, ks, l, rfl, H, Nn⟩ := hrel;have N := Sdq.mk Nn;clear Nn
   obtain ⟨A1, n1, q1, rfl⟩ : ∃ A n c, lv = .slice A n c := by
    obtain ⟨A, c, e⟩ := Kd.R_slice N.out.own;exact ⟨_, _, _, e⟩
   obtain ⟨A0, q0, rfl⟩ : ∃ A c, kv = .slice A ks.length c := Kd.R_slice N.out.own2
   cases gk with
   | zero => exact absurd H.out (by simp [pairsF])
   | succ j =>
    obtain ⟨⟨x0, x1, x2, x3⟩, ⟨y0, y1, y2, y3⟩, ⟨f0, f1, f2, f3⟩, ⟨f4, f5⟩, c1, c3⟩ := N.out.cells
    rcases (show (m = true ∧ (e2 == 0) = true) ∨ (m = true ∧ (e2 == 0) = false) ∨ m = false from by cases m <;> cases (e2 == 0) <;> simp) with ⟨rfl, q⟩ | ⟨rfl, q⟩ | rfl
    ·have h := H.out
     clear H;rw [pairsF, if_pos (by rw [q]; rfl)] at h;replace h := Option.bind_eq_some_iff.mp h;obtain ⟨⟨key, ⟨t0, t1, t2, t3⟩, a3, d3, e3, B3⟩, hp, h⟩ := h
     have hlen : l.length < 1000000 ∧ ks.length < 1000000 := Classical.byContradiction fun hc => by
      rw [if_neg hc] at h
      simp at h
     rw [if_pos hlen] at h;obtain ⟨hlen, hlen2⟩ := hlen;replace h := Option.bind_eq_some_iff.mp h;obtain ⟨⟨u, a4, d4, e4, B4⟩, hm, h⟩ := h;have hme := Sdq.mk hm;have H := Sdq.mk h;clear hm h;unfold pairF at hp;replace hp := Option.bind_eq_some_iff.mp hp;obtain ⟨⟨key', ba, bd, be, bB⟩, p1, hp⟩ := hp;replace hp := Option.bind_eq_some_iff.mp hp;obtain ⟨⟨ca, cd, ce, cB⟩, p2, hp⟩ := hp;replace hp := Option.bind_eq_some_iff.mp hp;obtain ⟨⟨da, dd, de, dB⟩, p3, hp⟩ := hp;replace hp := Option.bind_eq_some_iff.mp hp;obtain ⟨⟨ea, ed, ee, eB⟩, p4, hp⟩ := hp;replace hp := Option.bind_eq_some_iff.mp hp;obtain ⟨⟨fa, fd, fe, fB⟩, p5, hp⟩ := hp;replace hp := Option.bind_eq_some_iff.mp hp;obtain ⟨v, p6, hp⟩ := hp;have hp := Option.some.inj hp;obtain rfl : key' = key := congrArg Prod.fst hp;obtain rfl : v = (⟨t0, t1, t2, t3⟩, a3, d3, e3, B3) := congrArg Prod.snd hp;clear hp;have P1 := Sdq.mk p1;have P2 := Sdq.mk p2;have P3 := Sdq.mk p3;have P4 := Sdq.mk p4;have P5 := Sdq.mk p5;have P6 := Sdq.mk p6;clear p1 p2 p3 p4 p5 p6;have hl2 := Sdq.mk hlen2;clear hlen2
     go_wp2_with fail
     refine (RRq_text.calls k g b a2 d2 e2 B2 key' ba bd be bB w0 _ N.out.i N.out.bl P1.out).mono ?_;rintro en w3 ⟨rfl, hi, hb, hk⟩
     have hwr : w.heap.size + 2 ≤ wr.heap.size := by
      have := blk_lt N.out.vb
      omega
     have hwr' := Sdq.mk hwr;have Nn := Sdq.mk (N.out.step hi hb hk);clear N hi hb hk x0 x1 x2 x3 y0 y1 y2 y3 f0 f1 f2 f3 f4 f5 c1 c3 P1 hwr;have N := Nn;clear Nn
     go_upto_block 2 with fail
     go_cut [7] (fun s7 wc => VS w0 w g b 6 wc ca cd ce cB (.slice A0 ks.length q0) (.slice A1 n1 q1) ks l)
     case first =>
      go_wp2_with fail
      go_loopg [7] ks.length (fun kq s7 wc => ∃ (i : Nat) (a1 d1 e1 B1 : Int), s7 = .int .i64 (i : Int) ∧ Sdq (i + kq = ks.length) ∧ Sdq (dupF (ks.drop i) key' a2 a1 d1 e1 B1 = some (ca, cd, ce, cB)) ∧ VS w0 w g b 6 wc a1 d1 e1 B1 (.slice A0 ks.length q0) (.slice A1 n1 q1) ks l)
      case atStart => exact ⟨0, _, _, _, _, rfl, ⟨by omega⟩, P2, N.out⟩
      case round =>
       clear N P2 H hme P3 P4 P5 P6;obtain ⟨i, ga, gd, ge, gB, rfl, hik, hdup, Nn⟩ := hrel;have N := Sdq.mk Nn;clear Nn;obtain ⟨⟨x0, x1, x2, x3⟩, ⟨y0, y1, y2, y3⟩, ⟨f0, f1, f2, f3⟩, ⟨f4, f5⟩, c1, c3⟩ := N.out.cells
       cases gk with
       | zero =>
        obtain rfl : i = ks.length := hik.out;have hd := hdup.out;rw [List.drop_length] at hd
        obtain ⟨rfl, rfl, rfl, rfl⟩ : ga = ca ∧ gd = cd ∧ ge = ce ∧ gB = cB := by simpa [dupF] using hd
        clear hd hdup hik
        go_wp2_with fail
        go_meet
        exact N.out
       | succ jj =>
        have hi : i < ks.length := by have := hik.out; omega
        obtain ⟨ad, hA, hkey⟩ := key_at (Kd.R_reads' N.out.own2).2.2 hi;have hd := hdup.out;rw [List.drop_eq_getElem_cons hi] at hd;subst hA;rw [show ks.getD i ⟨#[]⟩ = ks[i] by simp [hi]] at hkey
        have hiz : (i : Int) < (ks.length : Int) := by omega
        have hw1 : wrap64 ((i : Int) + 1) = ((i + 1 : Nat) : Int) := by have := hl2.out; unfold wrap64; omega
        by_cases hc : ks[i] = key'
        ·rw [hc] at hkey
         have hst : ∃ e' B', RRq_fail.f b ga gd ge gB 23 a2 = some (ga, gd, e', B') ∧ dupF (ks.drop (i + 1)) key' a2 ga gd e' B' = some (ca, cd, ce, cB) := by
          simp only [dupF] at hd;rw [if_pos hc] at hd;by_cases he : ge = 0
          ·rw [if_pos he] at hd
           exact ⟨23, a2, by rw [he]; exact fail_0 _ _ _, hd⟩
          ·rw [if_neg he] at hd
           exact ⟨ge, gB, fail_bad he _ _, hd⟩
         clear hd hc;obtain ⟨e', B', hf, hd⟩ := hst;have hd := Sdq.mk hd;have hf := Sdq.mk hf
         go_wp2_with fail
         refine (RRq_fail.calls g b ga gd ge gB 23 a2 ga gd e' B' w0 _ N.out.i N.out.bl hf.out).mono ?_;rintro en w4 ⟨rfl, hi4, hb, hk⟩;have Nn := Sdq.mk (N.out.step hi4 hb hk);clear N hi4 hb hk x0 x1 x2 x3 y0 y1 y2 y3 f0 f1 f2 f3 f4 f5 c1 c3 hkey hf
         go_wp2_with fail
         go_roundg jj
         case measure => omega
         exact ⟨i + 1, _, _, _, _, by rw [← hw1], ⟨by have := hik.out; omega⟩, by assumption, Nn.out⟩
        ·have hd2 : dupF (ks.drop (i + 1)) key' a2 ga gd ge gB = some (ca, cd, ce, cB) := by
          simp only [dupF] at hd;rw [if_neg hc] at hd;exact hd
         have hd2 := Sdq.mk hd2;clear hd;have hcb := key_ne hc
         go_wp2_with fail
         go_roundg jj
         case measure => omega
         exact ⟨i + 1, _, _, _, _, by rw [← hw1], ⟨by have := hik.out; omega⟩, hd2, N.out⟩
     case rest =>
      clear N P2;have N := Sdq.mk hcut;clear hcut;obtain ⟨⟨x0, x1, x2, x3⟩, ⟨y0, y1, y2, y3⟩, ⟨f0, f1, f2, f3⟩, ⟨f4, f5⟩, c1, c3⟩ := N.out.cells
      go_wp2_with fail
      refine (RRq_blank.calls k g b ca cd ce cB da dd de dB w0 _ N.out.i N.out.bl P3.out).mono ?_;rintro en w10 ⟨rfl, hi, hb, hk⟩;have Nn := Sdq.mk (N.out.step hi hb hk);clear N hi hb hk x0 x1 x2 x3 y0 y1 y2 y3 f0 f1 f2 f3 f4 f5 c1 c3 P3;have N := Nn;clear Nn;obtain ⟨⟨x0, x1, x2, x3⟩, ⟨y0, y1, y2, y3⟩, ⟨f0, f1, f2, f3⟩, ⟨f4, f5⟩, c1, c3⟩ := N.out.cells
      go_wp2_with fail
      refine (RRq_must.calls k g b da dd de dB 58 ea ed ee eB w0 _ N.out.i N.out.bl P4.out).mono ?_;rintro en w11 ⟨rfl, hi, hb, hk⟩;have Nn := Sdq.mk (N.out.step hi hb hk);clear N hi hb hk x0 x1 x2 x3 y0 y1 y2 y3 f0 f1 f2 f3 f4 f5 c1 c3 P4;have N := Nn;clear Nn;obtain ⟨⟨x0, x1, x2, x3⟩, ⟨y0, y1, y2, y3⟩, ⟨f0, f1, f2, f3⟩, ⟨f4, f5⟩, c1, c3⟩ := N.out.cells
      go_wp2_with fail
      refine (RRq_blank.calls k g b ea ed ee eB fa fd fe fB w0 _ N.out.i N.out.bl P5.out).mono ?_;rintro en w12 ⟨rfl, hi, hb, hk⟩;have Nn := Sdq.mk (N.out.step hi hb hk);clear N hi hb hk x0 x1 x2 x3 y0 y1 y2 y3 f0 f1 f2 f3 f4 f5 c1 c3 P5;have N := Nn;clear Nn;obtain ⟨⟨x0, x1, x2, x3⟩, ⟨y0, y1, y2, y3⟩, ⟨f0, f1, f2, f3⟩, ⟨f4, f5⟩, c1, c3⟩ := N.out.cells
      go_wp2_with fail
      refine (hV g fa fd fe fB _ w0 _ N.out.i N.out.bl P6.out).mono ?_;rintro en w13 ⟨v2, v3, rfl, hR2, hR3, hi, hb, hk⟩
      obtain ⟨A2, n2, q2, rfl⟩ : ∃ A n c, v2 = .slice A n c := by
       obtain ⟨A, c, e⟩ := Kd.R_slice hR2;exact ⟨_, _, _, e⟩
      obtain ⟨A3, n3, q3, rfl⟩ : ∃ A n c, v3 = .slice A n c := by
       obtain ⟨A, c, e⟩ := Kd.R_slice hR3;exact ⟨_, _, _, e⟩
      have hlv := Sdq.mk (fun k e => Kd.R_lt N.out.own k e);have hlk := Sdq.mk (fun k e => Kd.R_lt N.out.own2 k e)
      have hwr2 : w.heap.size + 2 ≤ w12.heap.size := by
       have := blk_lt N.out.vb
       omega
      have hwr2' := Sdq.mk hwr2;have hsz := hk.1;have X0 := Sdq.mk (XS.mk' (t0 := t0) (t1 := t1) hR2 hR3 hsz);clear hR2 hR3;have Nn := Sdq.mk (N.out.step hi hb hk);clear N hi hb hk x0 x1 x2 x3 y0 y1 y2 y3 f0 f1 f2 f3 f4 f5 c1 c3 P6;have N := Nn;clear Nn
      go_upto_region 17 with fail
      have Nn := Sdq.mk (N.out.alloc (.cells #[.int .i64 t0, .string t1, .slice A2 n2 q2, .slice A3 n3 q3] 44 (0, 0)));clear N;have N := Nn;clear Nn;have hs4 : w12.heap.size ≤ (w13.alloc (.cells #[.int .i64 t0, .string t1, .slice A2 n2 q2, .slice A3 n3 q3] 44 (0, 0))).heap.size := Nat.le_trans hsz (by simp)
      have hs5 : w13.heap.size ≤ (w13.alloc (.cells #[.int .i64 t0, .string t1, .slice A2 n2 q2, .slice A3 n3 q3] 44 (0, 0))).heap.size := by simp
      generalize w13.alloc (.cells #[.int .i64 t0, .string t1, .slice A2 n2 q2, .slice A3 n3 q3] 44 (0, 0)) = w4 at X0 N hs4 hs5 ⊢;have hs4' := Sdq.mk hs4;have hs5' := Sdq.mk hs5;clear hs4 hs5 hsz hwr2;obtain ⟨_, ⟨y0, y1, y2, y3⟩, _, ⟨f4, f5⟩, _, _⟩ := N.out.cells
      go_upto_region 18 with (first
       | ((with_reducible refine gate_builtin (b := .append) (xs := #[.tmp 53, .tmp 55]) rfl ?_); at_builtin; refine Kd.R_append Kd.string (w0 := w4) (w.heap.size + 2) rfl (.tmp 53) (.tmp 55) 22 9 _ 16 rfl Tryd.underlying22 info_9 rfl (by decide) (by decide) (.slice A0 ks.length q0) ks key' [.string key'] (fun _ => True) (fun _ => False) rfl (by first | rfl | simp) rfl (fun k hk => hk.elim) (fun _ _ => trivial) N.out.own2 (Below.refl _ _) (by have := hwr2'.out; have := hs4'.out; omega) (by have := hl2.out; omega) ?_; intro v1 w5 hR5 hB5 hg5 hat5; obtain ⟨A5, n5, q5, rfl⟩ : ∃ A n c, v1 = .slice A n c := (by obtain ⟨A, c, e⟩ := Kd.R_slice hR5; exact ⟨_, _, _, e⟩); obtain ⟨_, _, _, _, hv5⟩ := N.out.grown0 hg5 (Kd.R_base N.out.own2); have y5 := (Rd.blk4 hv5).2.2.1; have f6 := bfz hv5 2; clear hv5))
      have hne5 : ∀ k, (Value.slice A5 n5 q5).ownBlock = some k → k < w12.heap.size ∨ w4.heap.size ≤ k := fun k e => by
       rcases hat5 with h | ⟨b, h, hle⟩
       ·exact .inl (hlk.out k (h.symm.trans e))
       ·right
        rw [h] at e;cases e;exact hle
      have hne5' := Sdq.mk hne5;have Xn := Sdq.mk ((X0.out.grown hg5 (fun k e => hlk.out k e)).set ⟨w.heap.size + 1, 2, none⟩ (by have := hwr2'.out; show w.heap.size + 1 < w12.heap.size; omega) (.slice A5 n5 q5));have Nn := Sdq.mk (N.out.appK hR5 hg5 hat5);have hs6 := Sdq.mk (show w4.heap.size ≤ (w5.setCell ⟨w.heap.size + 1, 2, none⟩ (.slice A5 n5 q5)).heap.size by have := hg5.size; simpa [World.setCell] using this);clear N X0 hR5 hB5 hg5 hat5 y0 y1 y2 y3 f4 f5 y5 f6 hne5;have N := Nn;clear Nn;generalize w5.setCell ⟨w.heap.size + 1, 2, none⟩ (.slice A5 n5 q5) = w6 at N Xn hs6 ⊢;obtain ⟨x0, x1, x2, x3⟩ := Rd.blk4 Xn.out.hx;obtain ⟨_, ⟨y0, y1, y2, y3⟩, _, ⟨f4, f5⟩, _, _⟩ := N.out.cells
      go_wp2_with (first
       | ((with_reducible refine gate_builtin (b := .append) (xs := #[.tmp 59, .tmp 61]) rfl ?_); at_builtin; refine Kd.R_append k44 (w0 := w6) (w.heap.size + 2) rfl (.tmp 59) (.tmp 61) 42 44 _ 72 rfl Tryd.underlying42 info_44 rfl (by decide) (by decide) (.slice A1 n1 q1) l ⟨t0, t1, t2, t3⟩ [.int .i64 t0, .string t1, .slice A2 n2 q2, .slice A3 n3 q3] (fun k => some k ≠ (Value.slice A5 n5 q5).ownBlock) (fun k => w12.heap.size ≤ k ∧ k < w13.heap.size) rfl (by first | rfl | simp) (Xn.out.M hwr2'.out) (fun k hk => ⟨fun e => by have := hne5'.out k e.symm; have := hs5'.out; omega, fun e => by have := hlv.out k e.symm; omega⟩) (fun k hk e => by have := Kd.R_lt N.out.own2 k e.symm; omega) N.out.own (Below.refl _ _) (by have := hwr2'.out; have := hs4'.out; have := hs6.out; omega) (by omega) ?_; intro v1 w7 hR7 hB7 hg7 hat7; obtain ⟨A7, n7, q7, rfl⟩ : ∃ A n c, v1 = .slice A n c := (by obtain ⟨A, c, e⟩ := Kd.R_slice hR7; exact ⟨_, _, _, e⟩); obtain ⟨_, _, _, _, hv7⟩ := N.out.grown0 hg7 (Kd.R_base N.out.own); have y5 := (Rd.blk4 hv7).2.2.2; have f6 := bfz hv7 3; clear hv7))
      have Nn := Sdq.mk (N.out.appL hR7 hg7);clear N hR7 hB7 hg7 hat7 x0 x1 x2 x3 y0 y1 y2 y3 f4 f5 y5 f6;have N := Nn;clear Nn;refine (RRq_more.calls k g b a3 d3 e3 B3 125 u a4 d4 e4 B4 w0 _ N.out.i N.out.bl hme.out).mono ?_;rintro en w8 ⟨rfl, hi, hb, hk⟩;have Nn := Sdq.mk (N.out.step hi hb hk);clear N hi hb hk hme;have N := Nn;clear Nn
      go_wp2_with fail
      go_roundg j
      case measure => omega
      exact ⟨u, a4, d4, e4, B4, _, _, _, _, rfl, H, N.out⟩
    all_goals
     have h := H.out;clear H;rw [pairsF, if_neg (by first | (rw [q]; decide) | simp)] at h;obtain rfl := Option.some.inj h;clear h
     go_wp2_with fail
     have F := N.out.fin _ rfl;clear N x0 x1 x2 x3 y0 y1 y2 y3 f0 f1 f2 f3 f4 f5 c1 c3;generalize World.setCell _ _ _ = wf at F ⊢;obtain ⟨FP, c0, c1, c2, c3⟩ := F;exact bodyPost_ret (v := .agg #[.int .i64 6, .string ⟨#[]⟩, .slice A0 ks.length q0, .slice A1 n1 q1]) (by simp [results, Tryd.results66, go_sem, c0, c1, c2, c3]) rfl FP
end Go.Proofs.YteighppcdpaekaaDoor.Rf
end
section
namespace Go.Proofs.YteighppcdpaekaaDoor.Rf
open Go.RowKit Go.Proofs.YteighppcdpaekaaDoorW.PrintWords Go.Proofs.YteighppcdpaekaaDoor Go.Proofs.YteighppcdpaekaaDoor.P
theorem NS.out {w0 w : World} {g : Nat} {b : List Int} {W : World} {a d e B : Int} (h : NS w0 w g b W a d e B) (x0 : Int) (x1 : ByteArray) (x2 : List ByteArray) (x3 : List S44) {v2 v3 : Value} (h2 : Kd.string.R 9 W (w.heap.size + 1) (fun _ => True) v2 x2) (h3 : k44.R 44 W (w.heap.size + 1) (fun k => some k ≠ v2.ownBlock) v3 x3) :
  ∀ W', (((W.setCell ⟨w.heap.size, 0, none⟩ (.int .i64 x0)).setCell ⟨w.heap.size, 1, none⟩ (.string x1)).setCell ⟨w.heap.size, 2, none⟩ v2).setCell ⟨w.heap.size, 3, none⟩ v3 = W' →
  VPost w0 w g b (⟨x0, x1, x2, x3⟩, a, d, e, B) (.returned (.agg #[.int .i64 x0, .string x1, v2, v3])) W' ∧
  W'.cell? ⟨w.heap.size, 0, none⟩ = some (.int .i64 x0) ∧ W'.cell? ⟨w.heap.size, 1, none⟩ = some (.string x1) ∧ W'.cell? ⟨w.heap.size, 2, none⟩ = some v2 ∧ W'.cell? ⟨w.heap.size, 3, none⟩ = some v3 := by
 rintro _ rfl;have hn := Nat.ne_of_lt h.lt;have hs : w0.heap.size ≤ w.heap.size := Nat.le_trans h.i.ge (Nat.le_of_lt h.lt);have hB := blk_set (blk_set (blk_set (blk_set h.r0 0 (.int .i64 x0)) 1 (.string x1)) 2 v2) 3 v3
 have st2 : ∀ (W : World) (j : Nat) (u : Value), Kd.string.R 9 W (w.heap.size + 1) (fun _ => True) v2 x2 → Kd.string.R 9 (W.setCell ⟨w.heap.size, j, none⟩ u) (w.heap.size + 1) (fun _ => True) v2 x2 := fun W j u hR =>
  Kd.R_mono (Kd.R_far (p := ⟨w.heap.size, j, none⟩) (Kd.R_bound hR) (fun k hk => by have h2 := hk.2.1; show k ≠ w.heap.size; omega) u) (fun _ _ => trivial)
 have st3 : ∀ (W : World) (j : Nat) (u : Value), k44.R 44 W (w.heap.size + 1) (fun k => some k ≠ v2.ownBlock) v3 x3 → k44.R 44 (W.setCell ⟨w.heap.size, j, none⟩ u) (w.heap.size + 1) (fun k => some k ≠ v2.ownBlock) v3 x3 := fun W j u hR =>
  Kd.R_mono (Kd.R_far (p := ⟨w.heap.size, j, none⟩) (Kd.R_bound hR) (fun k hk => by have h2 := hk.2.1; show k ≠ w.heap.size; omega) u) (fun _ hk => hk.1)
 refine ⟨⟨v2, v3, rfl, Kd.R_lower (st2 _ _ _ (st2 _ _ _ (st2 _ _ _ (st2 _ _ _ h2)))) (Nat.le_add_right _ 1), Kd.R_lower (st3 _ _ _ (st3 _ _ _ (st3 _ _ _ (st3 _ _ _ h3)))) (Nat.le_add_right _ 1), (((h.i.far (p := ⟨w.heap.size, 0, none⟩) hn _).far (p := ⟨w.heap.size, 1, none⟩) hn _).far (p := ⟨w.heap.size, 2, none⟩) hn _).far (p := ⟨w.heap.size, 3, none⟩) hn _, ?_, ?_⟩, (bceq hB 0).trans rfl, (bceq hB 1).trans rfl, (bceq hB 2).trans rfl, (bceq hB 3).trans rfl⟩
 ·exact bstq (bstq (bstq (bstq h.bl hs) hs) hs) hs
 ·exact keep_far (p := ⟨w.heap.size, 3, none⟩) (keep_far (p := ⟨w.heap.size, 2, none⟩) (keep_far (p := ⟨w.heap.size, 1, none⟩) (keep_far (p := ⟨w.heap.size, 0, none⟩) h.k (Nat.le_refl _) _) (Nat.le_refl _) _) (Nat.le_refl _) _) (Nat.le_refl _) _
theorem NS.gt {w0 w : World} {g : Nat} {b : List Int} {W : World} {a d e B : Int} (h : NS w0 w g b W a d e B) : w.heap.size + 1 ≤ W.heap.size := blk_lt h.r
set_option maxRecDepth 100000 in
set_option maxHeartbeats 3200000 in
theorem value_calls (b : List Int) : ∀ k, VOK b (valF b k)
 | 0 => fun g a d e B r w0 w hI hB h => by simp [valF] at h
 | k + 1 => by
  intro g a d e B r w0 w hI hB h;have ih := Sdq.mk (value_calls b k);have N := Sdq.mk (show NS w0 w g b (w.alloc Z44) a d e B from ⟨hI.alloc _, bal hB _, kal (Kbt.refl _ _ _) _, blk_new _ _, hI.lt⟩);have hlt := hI.lt;clear hI hB;rw [valF] at h;replace h := Option.bind_eq_some_iff.mp h;obtain ⟨⟨c, a1, d1, e1, B1⟩, hp, h⟩ := h;have H := Sdq.mk h;have P := Sdq.mk hp;clear h hp;go_enter Tryd.func45, Tryd.ntmps45
  go_upto_region 1 with fail
  refine absP (fun W => NS w0 w g b W a d e B) N.out ?_;clear N;intro w1 N1;have N := Sdq.mk N1;clear N1
  go_wp2_with fail
  refine (RRq_peek.calls g b a d e B c a1 d1 e1 B1 w0 _ N.out.i N.out.bl P.out).mono ?_;rintro en w2 ⟨rfl, hi, hb, hk⟩;have Nn := Sdq.mk (N.out.call hi hb hk);clear N P hi hb hk;have N := Nn;clear Nn;obtain ⟨A, z, _, x1, x3, _, _, _⟩ := N.out.cells;obtain ⟨hz0, hz1, hz2, hz3, hzf0, hzf1, hzf2, hzf3⟩ := N.out.z
  rcases Bool.eq_false_or_eq_true (e1 != 0) with q | q
  ·have h := H.out
   clear H;rw [if_pos q] at h;obtain rfl := Option.some.inj h;clear h
   go_wp2_with fail
   have F := N.out.out (0) (⟨#[]⟩) ([]) ([]) (Kd.R_nil _ _ _ _ _) (Kd.R_nil _ _ _ _ _) _ rfl;clear N x1 x3 hz0 hz1 hz2 hz3 hzf0 hzf1 hzf2 hzf3;generalize World.setCell _ _ _ = wf at F ⊢;obtain ⟨FP, c0, c1, c2, c3⟩ := F;exact bodyPost_ret (v := .agg #[.int .i64 (0), .string (⟨#[]⟩), .slice none 0 0, .slice none 0 0]) (by simp [results, Tryd.results45, go_sem, c0, c1, c2, c3]) rfl FP
  ·have h := H.out
   clear H;rw [if_neg (by rw [q]; decide)] at h;have H := Sdq.mk h;clear h
   rcases Bool.eq_false_or_eq_true (c == 123) with q | q
   ·have h := H.out
    clear H;rw [if_pos q] at h;obtain ⟨⟨t0, t1, t2, t3⟩, a2, d2, e2, B2⟩ := r;have H := Sdq.mk h;clear h
    go_wp2_with fail
    have hgt := N.out.gt;refine (object_calls ih.out k g a1 d1 e1 B1 _ w0 _ N.out.i N.out.bl N.out.i.lt H.out).mono ?_;rintro en w3 ⟨v2, v3, rfl, hR2, hR3, hi, hb, hk⟩
    obtain ⟨A2, n2, q2, rfl⟩ : ∃ A n c, v2 = .slice A n c := by
     obtain ⟨A, c, e⟩ := Kd.R_slice hR2;exact ⟨_, _, _, e⟩
    obtain ⟨A3, n3, q3, rfl⟩ : ∃ A n c, v3 = .slice A n c := by
     obtain ⟨A, c, e⟩ := Kd.R_slice hR3;exact ⟨_, _, _, e⟩
    replace hR2 := Kd.R_lower hR2 hgt;replace hR3 := Kd.R_lower hR3 hgt;clear hgt;have Nn := Sdq.mk (N.out.call hi hb hk);clear N x1 x3 hz0 hz1 hz2 hz3 hzf0 hzf1 hzf2 hzf3 hi hb hk;have N := Nn;clear Nn;obtain ⟨A, z, _, x1, x3, _, _, _⟩ := N.out.cells;obtain ⟨hz0, hz1, hz2, hz3, hzf0, hzf1, hzf2, hzf3⟩ := N.out.z;clear H
    go_wp2_with fail
    have F := N.out.out (t0) (t1) (t2) (t3) (hR2) (hR3) _ rfl;clear N x1 x3 hz0 hz1 hz2 hz3 hzf0 hzf1 hzf2 hzf3;generalize World.setCell _ _ _ = wf at F ⊢;obtain ⟨FP, c0, c1, c2, c3⟩ := F;exact bodyPost_ret (v := .agg #[.int .i64 (t0), .string (t1), .slice A2 n2 q2, .slice A3 n3 q3]) (by simp [results, Tryd.results45, go_sem, c0, c1, c2, c3]) rfl FP
   ·have h := H.out
    clear H;rw [if_neg (by rw [q]; decide)] at h;have H := Sdq.mk h;clear h
    rcases Bool.eq_false_or_eq_true (c == 91) with q | q
    ·have h := H.out
     clear H;rw [if_pos q] at h;obtain ⟨⟨t0, t1, t2, t3⟩, a2, d2, e2, B2⟩ := r;have H := Sdq.mk h;clear h
     go_wp2_with fail
     have hgt := N.out.gt;refine (array_calls ih.out k g a1 d1 e1 B1 _ w0 _ N.out.i N.out.bl N.out.i.lt H.out).mono ?_;rintro en w3 ⟨v2, v3, rfl, hR2, hR3, hi, hb, hk⟩
     obtain ⟨A2, n2, q2, rfl⟩ : ∃ A n c, v2 = .slice A n c := by
      obtain ⟨A, c, e⟩ := Kd.R_slice hR2;exact ⟨_, _, _, e⟩
     obtain ⟨A3, n3, q3, rfl⟩ : ∃ A n c, v3 = .slice A n c := by
      obtain ⟨A, c, e⟩ := Kd.R_slice hR3;exact ⟨_, _, _, e⟩
     replace hR2 := Kd.R_lower hR2 hgt;replace hR3 := Kd.R_lower hR3 hgt;clear hgt;have Nn := Sdq.mk (N.out.call hi hb hk);clear N x1 x3 hz0 hz1 hz2 hz3 hzf0 hzf1 hzf2 hzf3 hi hb hk;have N := Nn;clear Nn;obtain ⟨A, z, _, x1, x3, _, _, _⟩ := N.out.cells;obtain ⟨hz0, hz1, hz2, hz3, hzf0, hzf1, hzf2, hzf3⟩ := N.out.z;clear H
     go_wp2_with fail
     have F := N.out.out (t0) (t1) (t2) (t3) (hR2) (hR3) _ rfl;clear N x1 x3 hz0 hz1 hz2 hz3 hzf0 hzf1 hzf2 hzf3;generalize World.setCell _ _ _ = wf at F ⊢;obtain ⟨FP, c0, c1, c2, c3⟩ := F;exact bodyPost_ret (v := .agg #[.int .i64 (t0), .string (t1), .slice A2 n2 q2, .slice A3 n3 q3]) (by simp [results, Tryd.results45, go_sem, c0, c1, c2, c3]) rfl FP
    ·have h := H.out
     clear H;rw [if_neg (by rw [q]; decide)] at h;have H := Sdq.mk h;clear h
     rcases Bool.eq_false_or_eq_true (c == 34) with q | q
     ·have h := H.out
      clear H;rw [if_pos q] at h;replace h := Option.bind_eq_some_iff.mp h;obtain ⟨⟨t, a2, d2, e2, B2⟩, ht, h⟩ := h;obtain rfl := Option.some.inj h;have H := Sdq.mk ht;clear ht h
      go_wp2_with fail
      refine (RRq_text.calls k g b a1 d1 e1 B1 t a2 d2 e2 B2 w0 _ N.out.i N.out.bl H.out).mono ?_;rintro en w3 ⟨rfl, hi, hb, hk⟩;have Nn := Sdq.mk (N.out.call hi hb hk);clear N x1 x3 hz0 hz1 hz2 hz3 hzf0 hzf1 hzf2 hzf3 hi hb hk;have N := Nn;clear Nn;obtain ⟨A, z, _, x1, x3, _, _, _⟩ := N.out.cells;obtain ⟨hz0, hz1, hz2, hz3, hzf0, hzf1, hzf2, hzf3⟩ := N.out.z;clear H
      go_wp2_with fail
      have F := N.out.out (4) (t) ([]) ([]) (Kd.R_nil _ _ _ _ _) (Kd.R_nil _ _ _ _ _) _ rfl;clear N x1 x3 hz0 hz1 hz2 hz3 hzf0 hzf1 hzf2 hzf3;generalize World.setCell _ _ _ = wf at F ⊢;obtain ⟨FP, c0, c1, c2, c3⟩ := F;exact bodyPost_ret (v := .agg #[.int .i64 (4), .string (t), .slice none 0 0, .slice none 0 0]) (by simp [results, Tryd.results45, go_sem, c0, c1, c2, c3]) rfl FP
     ·have h := H.out
      clear H;rw [if_neg (by rw [q]; decide)] at h;have H := Sdq.mk h;clear h
      rcases Bool.eq_false_or_eq_true (c == 116) with q | q
      ·have h := H.out
       clear H;rw [if_pos q] at h;obtain ⟨⟨t0, t1, t2, t3, a2, d2, e2, B2⟩, hw, h⟩ := Option.map_eq_some_iff.mp h;obtain rfl := h;have H := Sdq.mk hw;clear hw
       go_wp2_with fail
       have hgt := N.out.gt;refine (RRq_word.calls k g b a1 d1 e1 B1 ⟨#[116, 114, 117, 101]⟩ 2 t0 t1 t2 t3 a2 d2 e2 B2 w0 _ N.out.i N.out.bl N.out.i.lt H.out).mono ?_;rintro en w3 ⟨v2, v3, rfl, hR2, hR3, hi, hb, hk⟩
       obtain ⟨A2, n2, q2, rfl⟩ : ∃ A n c, v2 = .slice A n c := by
        obtain ⟨A, c, e⟩ := Kd.R_slice hR2;exact ⟨_, _, _, e⟩
       obtain ⟨A3, n3, q3, rfl⟩ : ∃ A n c, v3 = .slice A n c := by
        obtain ⟨A, c, e⟩ := Kd.R_slice hR3;exact ⟨_, _, _, e⟩
       replace hR2 := Kd.R_lower hR2 hgt;replace hR3 := Kd.R_lower hR3 hgt;clear hgt;have Nn := Sdq.mk (N.out.call hi hb hk);clear N x1 x3 hz0 hz1 hz2 hz3 hzf0 hzf1 hzf2 hzf3 hi hb hk;have N := Nn;clear Nn;obtain ⟨A, z, _, x1, x3, _, _, _⟩ := N.out.cells;obtain ⟨hz0, hz1, hz2, hz3, hzf0, hzf1, hzf2, hzf3⟩ := N.out.z;clear H
       go_wp2_with fail
       have F := N.out.out (t0) (t1) (t2) (t3) (hR2) (hR3) _ rfl;clear N x1 x3 hz0 hz1 hz2 hz3 hzf0 hzf1 hzf2 hzf3;generalize World.setCell _ _ _ = wf at F ⊢;obtain ⟨FP, c0, c1, c2, c3⟩ := F;exact bodyPost_ret (v := .agg #[.int .i64 (t0), .string (t1), .slice A2 n2 q2, .slice A3 n3 q3]) (by simp [results, Tryd.results45, go_sem, c0, c1, c2, c3]) rfl FP
      ·have h := H.out
       clear H;rw [if_neg (by rw [q]; decide)] at h;have H := Sdq.mk h;clear h
       rcases Bool.eq_false_or_eq_true (c == 102) with q | q
       ·have h := H.out
        clear H;rw [if_pos q] at h;obtain ⟨⟨t0, t1, t2, t3, a2, d2, e2, B2⟩, hw, h⟩ := Option.map_eq_some_iff.mp h;obtain rfl := h;have H := Sdq.mk hw;clear hw
        go_wp2_with fail
        have hgt := N.out.gt;refine (RRq_word.calls k g b a1 d1 e1 B1 ⟨#[102, 97, 108, 115, 101]⟩ 1 t0 t1 t2 t3 a2 d2 e2 B2 w0 _ N.out.i N.out.bl N.out.i.lt H.out).mono ?_;rintro en w3 ⟨v2, v3, rfl, hR2, hR3, hi, hb, hk⟩
        obtain ⟨A2, n2, q2, rfl⟩ : ∃ A n c, v2 = .slice A n c := by
         obtain ⟨A, c, e⟩ := Kd.R_slice hR2;exact ⟨_, _, _, e⟩
        obtain ⟨A3, n3, q3, rfl⟩ : ∃ A n c, v3 = .slice A n c := by
         obtain ⟨A, c, e⟩ := Kd.R_slice hR3;exact ⟨_, _, _, e⟩
        replace hR2 := Kd.R_lower hR2 hgt;replace hR3 := Kd.R_lower hR3 hgt;clear hgt;have Nn := Sdq.mk (N.out.call hi hb hk);clear N x1 x3 hz0 hz1 hz2 hz3 hzf0 hzf1 hzf2 hzf3 hi hb hk;have N := Nn;clear Nn;obtain ⟨A, z, _, x1, x3, _, _, _⟩ := N.out.cells;obtain ⟨hz0, hz1, hz2, hz3, hzf0, hzf1, hzf2, hzf3⟩ := N.out.z;clear H
        go_wp2_with fail
        have F := N.out.out (t0) (t1) (t2) (t3) (hR2) (hR3) _ rfl;clear N x1 x3 hz0 hz1 hz2 hz3 hzf0 hzf1 hzf2 hzf3;generalize World.setCell _ _ _ = wf at F ⊢;obtain ⟨FP, c0, c1, c2, c3⟩ := F;exact bodyPost_ret (v := .agg #[.int .i64 (t0), .string (t1), .slice A2 n2 q2, .slice A3 n3 q3]) (by simp [results, Tryd.results45, go_sem, c0, c1, c2, c3]) rfl FP
       ·have h := H.out
        clear H;rw [if_neg (by rw [q]; decide)] at h;have H := Sdq.mk h;clear h
        rcases Bool.eq_false_or_eq_true (c == 110) with q | q
        ·have h := H.out
         clear H;rw [if_pos q] at h;obtain ⟨⟨t0, t1, t2, t3, a2, d2, e2, B2⟩, hw, h⟩ := Option.map_eq_some_iff.mp h;obtain rfl := h;have H := Sdq.mk hw;clear hw
         go_wp2_with fail
         have hgt := N.out.gt;refine (RRq_word.calls k g b a1 d1 e1 B1 ⟨#[110, 117, 108, 108]⟩ 0 t0 t1 t2 t3 a2 d2 e2 B2 w0 _ N.out.i N.out.bl N.out.i.lt H.out).mono ?_;rintro en w3 ⟨v2, v3, rfl, hR2, hR3, hi, hb, hk⟩
         obtain ⟨A2, n2, q2, rfl⟩ : ∃ A n c, v2 = .slice A n c := by
          obtain ⟨A, c, e⟩ := Kd.R_slice hR2;exact ⟨_, _, _, e⟩
         obtain ⟨A3, n3, q3, rfl⟩ : ∃ A n c, v3 = .slice A n c := by
          obtain ⟨A, c, e⟩ := Kd.R_slice hR3;exact ⟨_, _, _, e⟩
         replace hR2 := Kd.R_lower hR2 hgt;replace hR3 := Kd.R_lower hR3 hgt;clear hgt;have Nn := Sdq.mk (N.out.call hi hb hk);clear N x1 x3 hz0 hz1 hz2 hz3 hzf0 hzf1 hzf2 hzf3 hi hb hk;have N := Nn;clear Nn;obtain ⟨A, z, _, x1, x3, _, _, _⟩ := N.out.cells;obtain ⟨hz0, hz1, hz2, hz3, hzf0, hzf1, hzf2, hzf3⟩ := N.out.z;clear H
         go_wp2_with fail
         have F := N.out.out (t0) (t1) (t2) (t3) (hR2) (hR3) _ rfl;clear N x1 x3 hz0 hz1 hz2 hz3 hzf0 hzf1 hzf2 hzf3;generalize World.setCell _ _ _ = wf at F ⊢;obtain ⟨FP, c0, c1, c2, c3⟩ := F;exact bodyPost_ret (v := .agg #[.int .i64 (t0), .string (t1), .slice A2 n2 q2, .slice A3 n3 q3]) (by simp [results, Tryd.results45, go_sem, c0, c1, c2, c3]) rfl FP
        ·have h := H.out
         clear H;rw [if_neg (by rw [q]; decide)] at h;have H := Sdq.mk h;clear h;have h := H.out;clear H;obtain ⟨⟨t0, t1, t2, t3, a2, d2, e2, B2⟩, hw, h⟩ := Option.map_eq_some_iff.mp h;obtain rfl := h;have H := Sdq.mk hw;clear hw
         go_wp2_with fail
         refine (number_calls k g b a1 d1 e1 B1 _ w0 _ N.out.i N.out.bl N.out.i.lt H.out).mono ?_;rintro en w3 ⟨rfl, h2, h3, hi, hb, hk⟩;obtain rfl : t2 = [] := h2;obtain rfl : t3 = [] := h3;have Nn := Sdq.mk (N.out.call hi hb hk);clear N x1 x3 hz0 hz1 hz2 hz3 hzf0 hzf1 hzf2 hzf3 hi hb hk;have N := Nn;clear Nn;obtain ⟨A, z, _, x1, x3, _, _, _⟩ := N.out.cells;obtain ⟨hz0, hz1, hz2, hz3, hzf0, hzf1, hzf2, hzf3⟩ := N.out.z;clear H
         go_wp2_with fail
         have F := N.out.out (t0) (t1) ([]) ([]) (Kd.R_nil _ _ _ _ _) (Kd.R_nil _ _ _ _ _) _ rfl;clear N x1 x3 hz0 hz1 hz2 hz3 hzf0 hzf1 hzf2 hzf3;generalize World.setCell _ _ _ = wf at F ⊢;obtain ⟨FP, c0, c1, c2, c3⟩ := F;exact bodyPost_ret (v := .agg #[.int .i64 (t0), .string (t1), .slice none 0 0, .slice none 0 0]) (by simp [results, Tryd.results45, go_sem, c0, c1, c2, c3]) rfl FP
end Go.Proofs.YteighppcdpaekaaDoor.Rf
end
section
namespace Go.Proofs.YteighppcdpaekaaDoor.Rf
open Go.RowKit Go.Proofs.YteighppcdpaekaaDoorW.PrintWords Go.Proofs.YteighppcdpaekaaDoorW.PrintLast Go.Proofs.YteighppcdpaekaaDoorW.PrintMore Go.Proofs.YteighppcdpaekaaDoor Go.Proofs.YteighppcdpaekaaDoor.P
def parseF (k : Nat) (b : List Int) : Option (S44 × Int × Int) :=
 (R3q_Valid.f k b).bind fun t => if (t.2 != 0) = true then some (⟨0, ⟨#[]⟩, [], []⟩, t.1, 10) else
  (RRq_blank.f k b 0 0 0 0).bind fun s => (valF b k s.1 s.2.1 s.2.2.1 s.2.2.2).bind fun v =>
   (RRq_blank.f k b v.2.1 v.2.2.1 v.2.2.2.1 v.2.2.2.2).bind fun u =>
    (if (u.2.2.1 == 0 && decide (u.1 < b.length)) = true then RRq_fail.f b u.1 u.2.1 u.2.2.1 u.2.2.2 12 u.1 else some u).bind fun z =>
     if (z.2.2.1 != 0) = true then some (⟨0, ⟨#[]⟩, [], []⟩, z.2.2.2, z.2.2.1) else some (v.1, 0, 0)
structure PT (w : World) (g : Nat) (b : List Int) (W : World) (a d e B : Int) : Prop where
 i : IsS96 w W g b a d e B
 bl : Below w.heap.size w W
 zb : W.heap[w.heap.size]? = some (.cells #[.int .i64 0, .string ⟨#[]⟩, .slice none 0 0, .slice none 0 0] 44 (0, 0))
 lt : w.heap.size < g
section
variable {w : World} {g : Nat} {b : List Int} {W W' : World} {a d e B a' d' e' B' : Int}
theorem PT.step (h : PT w g b W a d e B) (hi : IsS96 w W' g b a' d' e' B') (hb : Below w.heap.size w W') (hk : Kbt W W' g none) : PT w g b W' a' d' e' B' :=
 ⟨hi, hb, hk.blk h.zb (Nat.ne_of_lt h.lt) (by simp), h.lt⟩
theorem PT.alloc (h : PT w g b W a d e B) (x : Obj) : PT w g b (W.alloc x) a d e B := h.step (h.i.alloc x) (bal h.bl x) (kal (Kbt.refl _ _ _) x)
theorem PT.drew (h : PT w g b W a d e B) : PT w g b W.drew a d e B := h.step h.i.drew (bdr1 h.bl) (keep_drew (Kbt.refl _ _ _))
theorem PT.cells (h : PT w g b W a d e B) : (W.cell? ⟨w.heap.size, 0, none⟩ = some (.int .i64 0) ∧ W.cell? ⟨w.heap.size, 1, none⟩ = some (.string ⟨#[]⟩) ∧ W.cell? ⟨w.heap.size, 2, none⟩ = some (.slice none 0 0) ∧ W.cell? ⟨w.heap.size, 3, none⟩ = some (.slice none 0 0)) ∧
  (W.frozen? ⟨w.heap.size, 0, none⟩ = false ∧ W.frozen? ⟨w.heap.size, 1, none⟩ = false ∧ W.frozen? ⟨w.heap.size, 2, none⟩ = false ∧ W.frozen? ⟨w.heap.size, 3, none⟩ = false) ∧
  W.cell? ⟨g, 1, none⟩ = some (.int .i64 a) ∧ W.cell? ⟨g, 3, none⟩ = some (.int .i64 e) ∧ W.cell? ⟨g, 4, none⟩ = some (.int .i64 B) := by
 obtain ⟨A, c, HG, hg, HC⟩ := h.i;exact ⟨Rd.blk4 h.zb, ⟨bfz h.zb 0, bfz h.zb 1, bfz h.zb 2, bfz h.zb 3⟩, cellS96_1 HG, cellS96_3 HG, cellS96_4 HG⟩
theorem XS.keep {base top nx : Nat} {t0 : Int} {t1 : ByteArray} {v2 v3 : Value} {t2 : List ByteArray} {t3 : List S44} (h : XS W base top nx t0 t1 v2 v3 t2 t3) (hk : Kbt W W' g none) (hg : g < base) : XS W' base top nx t0 t1 v2 v3 t2 t3 := by
 have := h.le;exact ⟨hk.blk h.hx (by omega) (by simp), Kd.R_keep h.r2 hk (fun k hk => by omega), Kd.R_keep h.r3 hk (fun k hk => by omega), h.le⟩
end
theorem fin4 {w W : World} (hz : W.heap[w.heap.size]? = some (.cells #[.int .i64 0, .string ⟨#[]⟩, .slice none 0 0, .slice none 0 0] 44 (0, 0))) (hb : Below w.heap.size w W) (v0 v1 v2 v3 : Value) : ∀ W', (((W.setCell ⟨w.heap.size, 0, none⟩ v0).setCell ⟨w.heap.size, 1, none⟩ v1).setCell ⟨w.heap.size, 2, none⟩ v2).setCell ⟨w.heap.size, 3, none⟩ v3 = W' →
  Below w.heap.size w W' ∧ W'.cell? ⟨w.heap.size, 0, none⟩ = some v0 ∧ W'.cell? ⟨w.heap.size, 1, none⟩ = some v1 ∧ W'.cell? ⟨w.heap.size, 2, none⟩ = some v2 ∧ W'.cell? ⟨w.heap.size, 3, none⟩ = some v3 := by
 rintro _ rfl;have hB := blk_set (blk_set (blk_set (blk_set hz 0 v0) 1 v1) 2 v2) 3 v3;exact ⟨bstq (bstq (bstq (bstq hb (Nat.le_refl _)) (Nat.le_refl _)) (Nat.le_refl _)) (Nat.le_refl _), (bceq hB 0).trans rfl, (bceq hB 1).trans rfl, (bceq hB 2).trans rfl, (bceq hB 3).trans rfl⟩
def PPost (w : World) (r : S44 × Int × Int) (en : Ending) (w' : World) : Prop :=
 ∃ v2 v3 : Value, en = .returned (.tuple #[.agg #[.int .i64 r.1.f0, .string r.1.f1, v2, v3], .int .i64 r.2.1, .int .i64 r.2.2]) ∧ Kd.string.R 9 w' w.heap.size (fun _ => True) v2 r.1.f2 ∧ k44.R 44 w' w.heap.size (fun _ => True) v3 r.1.f3 ∧ Below w.heap.size w w'
set_option maxRecDepth 100000 in
set_option maxHeartbeats 3200000 in
theorem parse_calls (k : Nat) (A : Option Addr) (c : Nat) (b : List Int) (r : S44 × Int × Int) (w : World) (hr : Kd.C (Kd.int .u8) w A b.length b) (hc : b.length ≤ c) (h : parseF k b = some r) :
  Calls Tryd.prog 19 #[.slice A b.length c] w (PPost w r) := by
 obtain ⟨⟨va, ve⟩, hv, h⟩ := Option.bind_eq_some_iff.mp h;have H := Sdq.mk h;have HV := Sdq.mk hv;have HR := Sdq.mk hr;have hc' := Sdq.mk hc;clear h hv hr hc;go_enter Tryd.func19, Tryd.ntmps19;have HB := Sdq.mk (bal (Below.refl w.heap.size w) Z44)
 go_wp2_with fail
 refine (R3q_Valid.calls k A c b va ve _ (Kd.C_below HR.out (bal (Below.refl _ _) _)) hc'.out HV.out).mono ?_;rintro en w3 ⟨rfl, hb3⟩;have hz3 : w3.heap[w.heap.size]? = some (.cells #[.int .i64 0, .string ⟨#[]⟩, .slice none 0 0, .slice none 0 0] 44 (0, 0)) := blk_below (blk_new w (.cells #[.int .i64 0, .string ⟨#[]⟩, .slice none 0 0, .slice none 0 0] 44 (0, 0))) hb3;have hB3 : Below w.heap.size w w3 := below_weaken HB.out (by simp) hb3;have hZ3 := Sdq.mk hz3;have HB3 := Sdq.mk hB3;clear HB HV hb3 hz3 hB3
 rcases Bool.eq_false_or_eq_true (ve != 0) with q | q
 ·have h := H.out
  clear H;rw [if_pos q] at h;obtain rfl := Option.some.inj h;clear h;obtain ⟨z0, z1, z2, z3⟩ := Rd.blk4 hZ3.out;have f0 := bfz hZ3.out 0;have f1 := bfz hZ3.out 1;have f2 := bfz hZ3.out 2;have f3 := bfz hZ3.out 3
  go_wp2_with fail
  have F := fin4 hZ3.out HB3.out (.int .i64 0) (.string ⟨#[]⟩) (.slice none 0 0) (.slice none 0 0) _ rfl;clear hZ3 HB3 z0 z1 z2 z3 f0 f1 f2 f3;generalize World.setCell _ _ _ = wf at F ⊢;obtain ⟨fb, c0, c1, c2, c3⟩ := F;refine bodyPost_ret (v := .tuple #[.agg #[.int .i64 0, .string ⟨#[]⟩, .slice none 0 0, .slice none 0 0], .int .i64 va, .int .i64 10]) (by simp [results, Tryd.results19, go_sem, c0, c1, c2, c3]) rfl ?_;exact ⟨_, _, rfl, Kd.R_nil _ _ _ _ _, Kd.R_nil _ _ _ _ _, fb⟩
 ·have h := H.out
  clear H;rw [if_neg (by rw [q]; decide)] at h;obtain ⟨⟨a1, d1, e1, B1⟩, hbl, h⟩ := Option.bind_eq_some_iff.mp h;obtain ⟨⟨⟨t0, t1, t2, t3⟩, a2, d2, e2, B2⟩, hvl, h⟩ := Option.bind_eq_some_iff.mp h;obtain ⟨⟨a3, d3, e3, B3⟩, hbl2, h⟩ := Option.bind_eq_some_iff.mp h;obtain ⟨⟨a4, d4, e4, B4⟩, hfl, h⟩ := Option.bind_eq_some_iff.mp h;have H := Sdq.mk h;have P1 := Sdq.mk hbl;have P2 := Sdq.mk hvl;have P3 := Sdq.mk hbl2;have P4 := Sdq.mk hfl;clear h hbl hvl hbl2 hfl;have hlt3 := blk_lt hZ3.out;have N := Sdq.mk (show PT w w3.heap.size b (w3.alloc (.cells #[.slice A b.length c, .int .i64 0, .int .i64 0, .int .i64 0, .int .i64 0] 96 (0, 0))) 0 0 0 0 from ⟨IsS96.new w w3 A c b 0 0 0 0 HB3.out HR.out hc'.out, bal HB3.out _, blk_grown hZ3.out (World.grownBy_alloc _ _ none) (by simp), hlt3⟩);clear hlt3
  go_wp2_with fail
  refine (RRq_blank.calls k w3.heap.size b 0 0 0 0 a1 d1 e1 B1 w _ N.out.i N.out.bl P1.out).mono ?_;rintro en w4 ⟨rfl, hi, hb, hk⟩;have Nn := Sdq.mk (N.out.step hi hb hk);clear N hi hb hk P1;have N := Nn;clear Nn
  go_wp2_with fail
  refine (value_calls b k w3.heap.size a1 d1 e1 B1 _ w _ N.out.i N.out.bl P2.out).mono ?_;rintro en w5 ⟨v2, v3, rfl, hR2, hR3, hi, hb, hk⟩
  obtain ⟨A2, n2, q2, rfl⟩ : ∃ A n c, v2 = .slice A n c := by
   obtain ⟨A, c, e⟩ := Kd.R_slice hR2;exact ⟨_, _, _, e⟩
  obtain ⟨A3, n3, q3, rfl⟩ : ∃ A n c, v3 = .slice A n c := by
   obtain ⟨A, c, e⟩ := Kd.R_slice hR3;exact ⟨_, _, _, e⟩
  have hg4 := Sdq.mk N.out.i.lt;have X0 := Sdq.mk (XS.mk' (t0 := t0) (t1 := t1) hR2 hR3 hk.1);have Nn := Sdq.mk ((N.out.step hi hb hk).alloc (.cells #[.int .i64 t0, .string t1, .slice A2 n2 q2, .slice A3 n3 q3] 44 (0, 0)));clear N hi hb hk P2 hR2 hR3;have N := Nn;clear Nn
  go_upto_region 7 with fail
  generalize w5.alloc (.cells #[.int .i64 t0, .string t1, .slice A2 n2 q2, .slice A3 n3 q3] 44 (0, 0)) = w6 at N X0 ⊢
  go_wp2_with fail
  refine (RRq_blank.calls k w3.heap.size b a2 d2 e2 B2 a3 d3 e3 B3 w _ N.out.i N.out.bl P3.out).mono ?_;rintro en w7 ⟨rfl, hi, hb, hk⟩;have Nn := Sdq.mk (N.out.step hi hb hk);have Xn := Sdq.mk (X0.out.keep hk hg4.out);clear N hi hb hk P3 X0;have N := Nn;have X := Xn;clear Nn Xn;obtain ⟨⟨z0, z1, z2, z3⟩, ⟨f0, f1, f2, f3⟩, c1, c3, c4⟩ := N.out.cells
  go_upto_region 8 with fail
  go_cut [40] (fun sv wc => sv = .bool (e3 == 0 && decide (a3 < (b.length : Int))) ∧ wc = w7)
  case first =>
   rcases Bool.eq_false_or_eq_true (e3 == 0) with q1 | q1
   ·by_cases q2 : a3 < (b.length : Int)
    ·go_wp2_with fail
     go_meet
     exact ⟨by simp [q1, q2], rfl⟩
    ·go_wp2_with fail
     go_meet
     exact ⟨by simp [q1, q2], rfl⟩
   ·go_wp2_with fail
    go_meet
    exact ⟨by simp [q1], rfl⟩
  case rest =>
   obtain ⟨rfl, rfl⟩ := hcut
   go_upto_if 40 with fail
   go_cut [] (fun wc => PT w w3.heap.size b wc a4 d4 e4 B4 ∧ XS wc w4.heap.size w5.heap.size w5.heap.size t0 t1 (.slice A2 n2 q2) (.slice A3 n3 q3) t2 t3)
   case first =>
    have h4 := P4.out;clear P4
    rcases Bool.eq_false_or_eq_true (e3 == 0 && decide (a3 < (b.length : Int))) with q1 | q1
    ·rw [if_pos q1] at h4
     rw [q1];have P4 := Sdq.mk h4;clear h4
     go_wp2_with fail
     refine (RRq_fail.calls w3.heap.size b a3 d3 e3 B3 12 a3 a4 d4 e4 B4 w _ N.out.i N.out.bl P4.out).mono ?_;rintro en w8 ⟨rfl, hi, hb, hk⟩;have Nn := Sdq.mk (N.out.step hi hb hk);have Xn := Sdq.mk (X.out.keep hk hg4.out);clear hi hb hk N X
     go_wp2_with fail
     go_meet
     exact ⟨Nn.out, Xn.out⟩
    ·rw [if_neg (by rw [q1]; decide)] at h4
     obtain ⟨rfl, rfl, rfl, rfl⟩ : a3 = a4 ∧ d3 = d4 ∧ e3 = e4 ∧ B3 = B4 := by simpa using h4
     clear h4;rw [q1]
     go_wp2_with fail
     go_meet
     exact ⟨N.out, X.out⟩
   case rest =>
    clear N X P4 z0 z1 z2 z3 f0 f1 f2 f3 c1 c3 c4;obtain ⟨Nn, Xn⟩ := hcut;have N := Sdq.mk Nn;have X := Sdq.mk Xn;clear Nn Xn;obtain ⟨⟨z0, z1, z2, z3⟩, ⟨f0, f1, f2, f3⟩, c1, c3, c4⟩ := N.out.cells;obtain ⟨x0, x1, x2, x3⟩ := Rd.blk4 X.out.hx;have hx := Sdq.mk (Nat.lt_of_lt_of_le N.out.lt (Nat.le_of_lt hg4.out))
    rcases Bool.eq_false_or_eq_true (e4 != 0) with q1 | q1
    ·have h := H.out
     clear H;rw [if_pos q1] at h;obtain rfl := Option.some.inj h;clear h;have hne : w3.heap.size ≠ w.heap.size := Nat.ne_of_gt N.out.lt;have F := Sdq.mk (fin4 N.out.zb N.out.bl (.int .i64 0) (.string ⟨#[]⟩) (.slice none 0 0) (.slice none 0 0) _ rfl);clear N X x0 x1 x2 x3
     go_upto_region 11 with fail
     go_region_with (fail)
     all_goals
      go_wp2;have F := F.out;clear z0 z1 z2 z3 f0 f1 f2 f3 c1 c3 c4;generalize World.setCell _ _ _ = wf at F ⊢;obtain ⟨fb, c0, c1, c2, c3⟩ := F;have c0 : wf.drew.cell? ⟨w.heap.size, 0, none⟩ = _ := c0;have c1 : wf.drew.cell? ⟨w.heap.size, 1, none⟩ = _ := c1;have c2 : wf.drew.cell? ⟨w.heap.size, 2, none⟩ = _ := c2;have c3 : wf.drew.cell? ⟨w.heap.size, 3, none⟩ = _ := c3;refine bodyPost_ret (v := .tuple #[.agg #[.int .i64 0, .string ⟨#[]⟩, .slice none 0 0, .slice none 0 0], .int .i64 B4, .int .i64 e4]) (by simp [results, Tryd.results19, go_sem, Act.put, c0, c1, c2, c3]) rfl ?_;exact ⟨_, _, rfl, Kd.R_nil _ _ _ _ _, Kd.R_nil _ _ _ _ _, bdr1 fb⟩
    ·have h := H.out
     clear H;rw [if_neg (by rw [q1]; decide)] at h;obtain rfl := Option.some.inj h;clear h
     go_wp2_with fail
     have F := fin4 N.out.zb N.out.bl (.int .i64 t0) (.string t1) (.slice A2 n2 q2) (.slice A3 n3 q3) _ rfl;have Y := Sdq.mk ((((X.out.set ⟨w.heap.size, 0, none⟩ hx.out (.int .i64 t0)).set ⟨w.heap.size, 1, none⟩ hx.out (.string t1)).set ⟨w.heap.size, 2, none⟩ hx.out (.slice A2 n2 q2)).set ⟨w.heap.size, 3, none⟩ hx.out (.slice A3 n3 q3));clear N X z0 z1 z2 z3 f0 f1 f2 f3 c1 c3 c4 x0 x1 x2 x3;generalize World.setCell _ _ _ = wf at F Y ⊢;obtain ⟨fb, c0, c1, c2, c3⟩ := F;refine bodyPost_ret (v := .tuple #[.agg #[.int .i64 t0, .string t1, .slice A2 n2 q2, .slice A3 n3 q3], .int .i64 0, .int .i64 0]) (by simp [results, Tryd.results19, go_sem, c0, c1, c2, c3]) rfl ?_;have hle := Nat.le_of_lt hx.out;exact ⟨_, _, rfl, Kd.R_lower (Kd.R_mono Y.out.r2 (fun _ _ => trivial)) hle, Kd.R_lower (Kd.R_mono Y.out.r3 (fun _ _ => trivial)) hle, fb⟩
end Go.Proofs.YteighppcdpaekaaDoor.Rf
end
section
namespace Go.Proofs.YteighppcdpaekaaDoor.P
open Go.RowKit Go.Proofs.YteighppcdpaekaaDoorW.PrintWords Go.Proofs.YteighppcdpaekaaDoorW.PrintLast Go.Proofs.YteighppcdpaekaaDoorW.PrintMore Go.Proofs.YteighppcdpaekaaDoor.Rf
abbrev R6Out := Bool × Int × ByteArray × List ByteArray × List S44 × ByteArray × Int × ByteArray × List ByteArray × List S44 × Int × Int × ByteArray × List ByteArray × List S44 × Bool
def read6.no (cd i1 : Int) (i2 : ByteArray) (i3 : List ByteArray) (i4 : List S44) : R6Out := (false, 0, ⟨#[]⟩, [], [], ⟨#[]⟩, 0, ⟨#[]⟩, [], [], cd, i1, i2, i3, i4, false)
def read6.params (k : Nat) (p1 : Int) (p2 : ByteArray) (p3 : List ByteArray) (p4 : List S44) (i1 : Int) (i2 : ByteArray) (i3 : List ByteArray) (i4 : List S44) (ih : Bool) (m1 : Int) (m2 : ByteArray) : Option R6Out :=
 (R4q_Get.f k p1 p2 p3 p4 ⟨#[112, 97, 114, 97, 109, 115]⟩).bind fun q =>
  if (m1 != 4 || (q.2.2.2.2 && (q.1 != 5 && q.1 != 6))) = true then some (read6.no (-32600) i1 i2 i3 i4) else
  some (ih, i1, i2, i3, i4, m2, q.1, q.2.1, q.2.2.1, q.2.2.2.1, 0, 0, ⟨#[]⟩, [], [], true)
def read6.replies (k : Nat) (p1 : Int) (p2 : ByteArray) (p3 : List ByteArray) (p4 : List S44) (i1 : Int) (i2 : ByteArray) (i3 : List ByteArray) (i4 : List S44) (ih : Bool) : Option R6Out :=
 (R4q_Get.f k p1 p2 p3 p4 ⟨#[114, 101, 115, 117, 108, 116]⟩).bind fun x => (R4q_Get.f k p1 p2 p3 p4 ⟨#[101, 114, 114, 111, 114]⟩).bind fun y =>
  if (ih && (x.2.2.2.2 || y.2.2.2.2)) = true then some (read6.no 0 0 ⟨#[]⟩ [] []) else some (read6.no (-32600) i1 i2 i3 i4)
def read6.method (k : Nat) (p1 : Int) (p2 : ByteArray) (p3 : List ByteArray) (p4 : List S44) (i1 : Int) (i2 : ByteArray) (i3 : List ByteArray) (i4 : List S44) (ih : Bool) : Option R6Out :=
 (R4q_Get.f k p1 p2 p3 p4 ⟨#[109, 101, 116, 104, 111, 100]⟩).bind fun m =>
  if m.2.2.2.2 = false then read6.replies k p1 p2 p3 p4 i1 i2 i3 i4 ih else read6.params k p1 p2 p3 p4 i1 i2 i3 i4 ih m.1 m.2.1
def read6.version (k : Nat) (p1 : Int) (p2 : ByteArray) (p3 : List ByteArray) (p4 : List S44) (i1 : Int) (i2 : ByteArray) (i3 : List ByteArray) (i4 : List S44) (ih : Bool) : Option R6Out :=
 (R4q_Get.f k p1 p2 p3 p4 ⟨#[106, 115, 111, 110, 114, 112, 99]⟩).bind fun v =>
  if (p1 != 6 || !v.2.2.2.2 || v.1 != 4 || v.2.1.toList != [50, 46, 48]) = true then some (read6.no (-32600) i1 i2 i3 i4) else read6.method k p1 p2 p3 p4 i1 i2 i3 i4 ih
def read6.f (k : Nat) (l0 : List Int) : Option R6Out :=
 (parseF k l0).bind fun p =>
  if (p.2.2 != 0) = true then some (read6.no (-32700) 0 ⟨#[]⟩ [] []) else
  (R4q_Get.f k p.1.f0 p.1.f1 p.1.f2 p.1.f3 ⟨#[105, 100]⟩).bind fun i =>
   (if i.2.2.2.2 = true then (R4q_Int.f k i.1 i.2.1 i.2.2.1 i.2.2.2.1).bind fun n => some (i.1 != 4 && !n.2) else some false).bind fun bad =>
    if bad = true then some (read6.no (-32600) 0 ⟨#[]⟩ [] []) else read6.version k p.1.f0 p.1.f1 p.1.f2 p.1.f3 i.1 i.2.1 i.2.2.1 i.2.2.2.1 i.2.2.2.2
def R6Post (w : World) (r : R6Out) (e : Ending) (w' : World) : Prop :=
 ∃ v3 v4 v8 v9 v13 v14 : Value, e = .returned (.tuple #[.agg #[.bool r.1, .int .i64 r.2.1, .string r.2.2.1, v3, v4, .string r.2.2.2.2.2.1, .int .i64 r.2.2.2.2.2.2.1, .string r.2.2.2.2.2.2.2.1, v8, v9], .agg #[.int .i64 r.2.2.2.2.2.2.2.2.2.2.1, .int .i64 r.2.2.2.2.2.2.2.2.2.2.2.1, .string r.2.2.2.2.2.2.2.2.2.2.2.2.1, v13, v14], .bool r.2.2.2.2.2.2.2.2.2.2.2.2.2.2.2]) ∧
  Kd.V Kd.string 9 w' 0 (fun _ => True) v3 r.2.2.2.1 ∧ Kd.V k44 44 w' 0 (fun _ => True) v4 r.2.2.2.2.1 ∧ Kd.V Kd.string 9 w' 0 (fun _ => True) v8 r.2.2.2.2.2.2.2.2.1 ∧ Kd.V k44 44 w' 0 (fun _ => True) v9 r.2.2.2.2.2.2.2.2.2.1 ∧ Kd.V Kd.string 9 w' 0 (fun _ => True) v13 r.2.2.2.2.2.2.2.2.2.2.2.2.2.1 ∧ Kd.V k44 44 w' 0 (fun _ => True) v14 r.2.2.2.2.2.2.2.2.2.2.2.2.2.2.1 ∧ Below w.heap.size w w'
end Go.Proofs.YteighppcdpaekaaDoor.P
end
section
namespace Go.Proofs.YteighppcdpaekaaDoor.Rf
open Go.RowKit Go.Proofs.YteighppcdpaekaaDoorW.PrintWords Go.Proofs.YteighppcdpaekaaDoor Go.Proofs.YteighppcdpaekaaDoor.P
variable {b : List Int} {p q fr : Nat} {d B : Int}
theorem evBT {α β : Type} {c : Prop} [Decidable c] (hc : c) {A C : Nat → Option α} {g : Nat → α → Option β} {r : β} (h : Ev (fun k => (A k).bind (g k)) r) : Ev (fun k => (if c then A k else C k).bind (g k)) r := by simpa only [if_pos hc] using h
theorem evBF {α β : Type} {c : Prop} [Decidable c] (hc : ¬ c) {A C : Nat → Option α} {g : Nat → α → Option β} {r : β} (h : Ev (fun k => (C k).bind (g k)) r) : Ev (fun k => (if c then A k else C k).bind (g k)) r := by simpa only [if_neg hc] using h
theorem m46 : ¬ (((-1 : Int) == 46) = true) := by decide
theorem m48 : ¬ (((-1 : Int) == 48) = true) := by decide
abbrev zeroN (a d e B : Int) : NumOut := (0, ⟨#[]⟩, [], [], a, d, e, B)
abbrev numR (b : List Int) (fr r : Nat) (d B : Int) : NumOut := (3, strOfNums ((b.take r).drop fr), [], [], (r : Int), d, 0, B)
def NumEnds (b : List Int) (o : Js.Out Unit) (fr : Nat) (d B : Int) (g : Nat → Option NumOut) : Prop := match o with
 | .ok _ r => fr ≤ r → r ≤ b.length → Ev g (numR b fr r d B)
 | .no _ _ => ∃ a d' e B', e ≠ 0 ∧ Ev g (zeroN a d' e B')
theorem numE_ok (hpq : fr ≤ q) (hq : q ≤ b.length) : numE b fr q d 0 B = some (numR b fr q d B) := by
 unfold numE;rw [if_neg (by decide), if_pos (by omega)]
 simp
theorem numE_bad {f a e : Int} (he : e ≠ 0) : numE b f a d e B = some (zeroN a d e B) := by
 unfold numE;rw [if_pos (by simpa using he)]
theorem numX_bad {f a e : Int} (he : e ≠ 0) : Ev (fun k => numX k b f a d e B) (zeroN a d e B) := by
 unfold numX;exact evB (see_bad he) (evF (by show ¬ (((-1 : Int) == 101 || (-1 : Int) == 69) = true); decide) (evC (numE_bad he)))
theorem numD_bad {f a e : Int} (he : e ≠ 0) : Ev (fun k => numD k b f a d e B) (zeroN a d e B) := by
 unfold numD;refine evB (see_bad he) ?_;refine evBF m46 ?_;exact evB rfl (numX_bad he)
theorem see_next (hb : Bs b) : ∃ c : Int, RRq_see.f b q d 0 B = some (c, (q : Int), d, 0, B) ∧ ∀ x : Int, 0 ≤ x → ((c == x) = true ↔ Js.next b q x = true) := by
 cases hn : b[q]? with
 | none =>
  refine ⟨-1, see_end hn, fun x hx => ?_⟩
  simp [Js.next, hn]
  omega
 | some c =>
  refine ⟨c, see_ok hb hn, fun x hx => ?_⟩
  simp [Js.next, hn]
theorem digs (hb : Bs b) {g : Nat → (Int × Int × Int × Int) → Option NumOut} {o : Js.Out Unit} (h1 : ∀ y e, Js.digits b q = .no y e → o = .no y e)
  (h2 : ∀ u r, Js.digits b q = .ok u r → NumEnds b o fr d B (fun k => g k ((r : Int), d, 0, B))) (hbad : ∀ a d e B, e ≠ 0 → Ev (fun k => g k (a, d, e, B)) (zeroN a d e B)) :
  NumEnds b o fr d B (fun k => (RRq_digits.f k b q d 0 B).bind (g k)) := by
 have h := digits_ends (p := q) (d := d) (B := B) hb
 cases hd : Js.digits b q with
 | no y e =>
  rw [hd] at h;obtain ⟨a, d', e', B', he, h⟩ := h;rw [h1 y e hd];exact ⟨a, d', e', B', he, Ev.bind h (hbad _ _ _ _ he)⟩
 | ok u r =>
  rw [hd] at h;have h3 := h2 u r hd
  cases o with
  | ok u r => exact fun x1 x2 => Ev.bind h (h3 x1 x2)
  | no y e =>
   obtain ⟨a, d', e', B', he, h3⟩ := h3;exact ⟨a, d', e', B', he, Ev.bind h h3⟩
theorem NumEnds.map {o : Js.Out Unit} {g g' : Nat → Option NumOut} (h : NumEnds b o fr d B g) (hg : ∀ {r}, Ev g r → Ev g' r) : NumEnds b o fr d B g' := by
 cases o with
 | ok u r => exact fun x1 x2 => hg (h x1 x2)
 | no y e =>
  obtain ⟨a, d', e', B', he, h3⟩ := h;exact ⟨a, d', e', B', he, hg h3⟩
theorem numX_ends (hb : Bs b) (_hq : q ≤ b.length) : NumEnds b (Js.numExp b q) fr d B (fun k => numX k b fr q d 0 B) := by
 have hl := hb.2;obtain ⟨c, hs, hc⟩ := see_next (q := q) (d := d) (B := B) hb;unfold Js.numExp;by_cases h1 : (Js.next b q 101 || Js.next b q 69) = true
 ·rw [if_pos h1]
  have h1c : (c == 101 || c == 69) = true := by
   rcases Bool.or_eq_true _ _ ▸ h1 with h | h
   ·rw [(hc 101 (by decide)).2 h]; rfl
   ·rw [(hc 69 (by decide)).2 h]; simp
  obtain ⟨c2, hs2, hc2⟩ := see_next (q := q + 1) (d := d) (B := B) hb
  have hlt : q < b.length := by
   rcases Bool.or_eq_true _ _ ▸ h1 with h | h
   ·exact Js.next_lt h
   ·exact Js.next_lt h
  unfold Js.numSign
  have step : ∀ {r}, Ev (fun k => (RRq_digits.f k b ((if Js.next b (q + 1) 43 || Js.next b (q + 1) 45 then q + 1 + 1 else q + 1 : Nat) : Int) d 0 B).bind fun v => numE b fr v.1 v.2.1 v.2.2.1 v.2.2.2) r → Ev (fun k => numX k b fr q d 0 B) r := by
   intro r hr;unfold numX;refine evB hs (evT h1c ?_)
   show Ev (fun k => (RRq_see.f b (wrap64 ((q : Int) + 1)) d 0 B).bind _) r
   rw [w64n (by omega)];refine evB hs2 ?_
   show Ev (fun k => (RRq_digits.f k b (if (c2 == 43 || c2 == 45) = true then wrap64 (((q + 1 : Nat) : Int) + 1) else ((q + 1 : Nat) : Int)) d 0 B).bind _) r
   rw [w64n (by omega)]
   rw [show (if (c2 == 43 || c2 == 45) = true then ((q + 1 + 1 : Nat) : Int) else ((q + 1 : Nat) : Int)) = ((if Js.next b (q + 1) 43 || Js.next b (q + 1) 45 then q + 1 + 1 else q + 1 : Nat) : Int) by
    have e1 : (c2 == 43) = Js.next b (q + 1) 43 := Bool.eq_iff_iff.mpr (hc2 43 (by decide));have e2 : (c2 == 45) = Js.next b (q + 1) 45 := Bool.eq_iff_iff.mpr (hc2 45 (by decide));rw [e1, e2]
    split <;> rfl]
   exact hr
  refine NumEnds.map (digs hb (g := fun _ v => numE b fr v.1 v.2.1 v.2.2.1 v.2.2.2) (fun _ _ h => h) (fun u r h => ?_) (fun _ _ _ _ he => evC (numE_bad he))) step;rw [h]
  exact fun x1 x2 => evC (numE_ok x1 x2)
 ·rw [if_neg h1]
  intro x1 x2;unfold numX;refine evB hs (evF ?_ (evC (numE_ok x1 x2)));intro h
  apply h1
  rcases Bool.or_eq_true _ _ ▸ h with h | h
  ·rw [(hc 101 (by decide)).1 h]; rfl
  ·rw [(hc 69 (by decide)).1 h]; simp
theorem numD_ends (hb : Bs b) (hq : q ≤ b.length) : NumEnds b (Js.numFrac b q) fr d B (fun k => numD k b fr q d 0 B) := by
 have hl := hb.2;obtain ⟨c, hs, hc⟩ := see_next (q := q) (d := d) (B := B) hb;unfold Js.numFrac;by_cases h1 : Js.next b q 46 = true
 ·rw [if_pos h1]
  have hlt := Js.next_lt h1
  have step : ∀ {r}, Ev (fun k => (RRq_digits.f k b ((q + 1 : Nat) : Int) d 0 B).bind fun v => numX k b fr v.1 v.2.1 v.2.2.1 v.2.2.2) r → Ev (fun k => numD k b fr q d 0 B) r := by
   intro r hr;unfold numD;refine evB hs ?_;refine evBT (((hc 46 (by decide)).2 h1)) ?_
   show Ev (fun k => (RRq_digits.f k b (wrap64 ((q : Int) + 1)) d 0 B).bind _) r
   rw [w64n (by omega)];exact hr
  refine NumEnds.map (digs hb (g := fun k v => numX k b fr v.1 v.2.1 v.2.2.1 v.2.2.2) (fun y e h => by rw [h]) (fun u r h => ?_) (fun _ _ _ _ he => numX_bad he)) step;rw [h];exact numX_ends hb (Js.digits_le h).2
 ·rw [if_neg h1]
  refine NumEnds.map (numX_ends hb hq) (fun hr => ?_);unfold numD;refine evB hs ?_;refine evBF ((fun h => h1 ((hc 46 (by decide)).1 h))) ?_;exact hr
theorem numI_ends (hb : Bs b) (_hq : q ≤ b.length) : NumEnds b (Js.numInt b q) fr d B (fun k => numI k b fr q d 0 B) := by
 have hl := hb.2;unfold Js.numInt
 cases hn : b[q]? with
 | none =>
  refine ⟨(q : Int), d, 11, (b.length : Int), n11, ?_⟩;unfold numI;refine evB (peek_end hn) ?_;refine evBF m48 ?_;exact Ev.bind (digits_bad n11) (numD_bad n11)
 | some c =>
  have hlt := lt_of hn;simp only;by_cases h1 : (c == 48) = true
  ·rw [if_pos h1]
   refine NumEnds.map (numD_ends hb (q := q + 1) (by omega)) (fun hr => ?_);unfold numI;refine evB (peek_ok hb hn) ?_;refine evBT (h1) ?_;refine evB (o := some (wrap64 ((q : Int) + 1), d, (0 : Int), B)) rfl ?_;rw [w64n (by omega)];exact hr
  ·rw [if_neg h1]
   have step : ∀ {r}, Ev (fun k => (RRq_digits.f k b (q : Int) d 0 B).bind fun v => numD k b fr v.1 v.2.1 v.2.2.1 v.2.2.2) r → Ev (fun k => numI k b fr q d 0 B) r := by
    intro r hr;unfold numI;refine evB (peek_ok hb hn) ?_;refine evBF (h1) ?_;exact hr
   refine NumEnds.map (digs hb (g := fun k v => numD k b fr v.1 v.2.1 v.2.2.1 v.2.2.2) (fun y e h => by rw [h]) (fun u r h => ?_) (fun _ _ _ _ he => numD_bad he)) step;rw [h];exact numD_ends hb (Js.digits_le h).2
theorem number_ends (hb : Bs b) (hp : p ≤ b.length) : NumEnds b (Js.number b p) p d B (fun k => numF k b p d 0 B) := by
 have hl := hb.2;obtain ⟨c, hs, hc⟩ := see_next (q := p) (d := d) (B := B) hb;unfold Js.number;by_cases h1 : Js.next b p 45 = true
 ·rw [if_pos h1]
  have hlt := Js.next_lt h1;refine NumEnds.map (numI_ends hb (q := p + 1) (by omega)) (fun hr => ?_);unfold numF;refine evB hs ?_
  dsimp only
  rw [if_pos ((hc 45 (by decide)).2 h1)]
  show Ev (fun k => numI k b p (wrap64 ((p : Int) + 1)) d 0 B) _
  rw [w64n (by omega)];exact hr
 ·rw [if_neg h1]
  refine NumEnds.map (numI_ends hb hp) (fun hr => ?_);unfold numF;refine evB hs ?_
  dsimp only
  rw [if_neg (fun h => h1 ((hc 45 (by decide)).1 h))];exact hr
end Go.Proofs.YteighppcdpaekaaDoor.Rf
end
section
namespace Go.Proofs.YteighppcdpaekaaDoor.Rf
open Go.RowKit Go.Proofs.YteighppcdpaekaaDoorW.PrintWords Go.Proofs.YteighppcdpaekaaDoor Go.Proofs.YteighppcdpaekaaDoor.P
mutual
def toR : Js.Val → S44
 | .mk k t ks l => ⟨k, strOfNums t, ks.map strOfNums, toRs l⟩
def toRs : List Js.Val → List S44
 | [] => []
 | v :: r => toR v :: toRs r
end
theorem toRs_map (l : List Js.Val) : toRs l = l.map toR := by
 induction l with
 | nil => rfl
 | cons v r ih => simp [toRs, ih]
theorem toR_mk (k : Int) (t : List Int) (ks : List (List Int)) (l : List Js.Val) : toR (.mk k t ks l) = ⟨k, strOfNums t, ks.map strOfNums, l.map toR⟩ := by rw [toR, toRs_map]
def EvI {α : Type} (g : Nat → Nat → Option α) (r : α) : Prop := ∃ K, ∀ k, K ≤ k → ∀ c, K ≤ c → g k c = some r
theorem EvI.both {α : Type} {g : Nat → Nat → Option α} {r : α} (h : EvI g r) : Ev (fun k => g k k) r := by
 obtain ⟨K, h⟩ := h;exact ⟨K, fun k hk => h k hk k hk⟩
variable {b : List Int} {p q : Nat} {B : Int}
theorem items_stop {V : Int → Int → Int → Int → Option RVal} {k c : Nat} {l : List S44} {m : Bool} {a d e B : Int} (h : (m && e == 0) = false) : itemsF V k b (c + 1) l m a d e B = some (⟨5, ⟨#[]⟩, [], l⟩, a, d, e, B) := by
 rw [itemsF, if_neg (by rw [h]; decide)]
theorem items_go {V : Int → Int → Int → Int → Option RVal} {k c : Nat} {l : List S44} {m : Bool} {a d B a1 d1 e1 B1 a2 d2 e2 B2 : Int} {x : S44} {r : RVal} (h1 : V a d 0 B = some (x, a1, d1, e1, B1)) (hl : l.length < 1000000)
  (h2 : RRq_more.f k b a1 d1 e1 B1 93 = some (m, a2, d2, e2, B2)) (h3 : itemsF V k b c (l ++ [x]) m a2 d2 e2 B2 = some r) : itemsF V k b (c + 1) l true a d 0 B = some r := by
 rw [itemsF, if_pos (by rfl), h1]
 show (if l.length < 1000000 then _ else _) = _
 rw [if_pos hl]
 show (RRq_more.f k b a1 d1 e1 B1 93).bind _ = _
 rw [h2];exact h3
theorem pairs_stop {V : Int → Int → Int → Int → Option RVal} {k c : Nat} {ks : List ByteArray} {l : List S44} {m : Bool} {a d e B : Int} (h : (m && e == 0) = false) : pairsF V k b (c + 1) ks l m a d e B = some (⟨6, ⟨#[]⟩, ks, l⟩, a, d, e, B) := by
 rw [pairsF, if_neg (by rw [h]; decide)]
theorem pairs_go {V : Int → Int → Int → Int → Option RVal} {k c : Nat} {ks : List ByteArray} {l : List S44} {m : Bool} {a d B a1 d1 e1 B1 a2 d2 e2 B2 : Int} {key : ByteArray} {x : S44} {r : RVal} (h1 : pairF V k b ks a d 0 B = some (key, x, a1, d1, e1, B1)) (hl : l.length < 1000000 ∧ ks.length < 1000000)
  (h2 : RRq_more.f k b a1 d1 e1 B1 125 = some (m, a2, d2, e2, B2)) (h3 : pairsF V k b c (ks ++ [key]) (l ++ [x]) m a2 d2 e2 B2 = some r) : pairsF V k b (c + 1) ks l true a d 0 B = some r := by
 rw [pairsF, if_pos (by rfl), h1]
 show (if l.length < 1000000 ∧ ks.length < 1000000 then _ else _) = _
 rw [if_pos hl]
 show (RRq_more.f k b a1 d1 e1 B1 125).bind _ = _
 rw [h2];exact h3
theorem EvI.items {l : List S44} {m : Bool} {a d B a1 d1 e1 B1 a2 d2 e2 B2 : Int} {x : S44} {r : RVal} (h1 : Ev (fun k => valF b k a d 0 B) (x, a1, d1, e1, B1)) (hl : l.length < 1000000)
  (h2 : Ev (fun k => RRq_more.f k b a1 d1 e1 B1 93) (m, a2, d2, e2, B2)) (h3 : EvI (fun k c => itemsF (valF b k) k b c (l ++ [x]) m a2 d2 e2 B2) r) : EvI (fun k c => itemsF (valF b k) k b c l true a d 0 B) r := by
 obtain ⟨K1, h1⟩ := h1;obtain ⟨K2, h2⟩ := h2;obtain ⟨K3, h3⟩ := h3;refine ⟨K1 + K2 + K3 + 1, fun k hk c hc => ?_⟩
 obtain ⟨c, rfl⟩ : ∃ c', c = c' + 1 := ⟨c - 1, by omega⟩
 exact items_go (h1 k (by omega)) hl (h2 k (by omega)) (h3 k (by omega) c (by omega))
theorem EvI.items_stop {l : List S44} {m : Bool} {a d e B : Int} (h : (m && e == 0) = false) : EvI (fun k c => itemsF (valF b k) k b c l m a d e B) (⟨5, ⟨#[]⟩, [], l⟩, a, d, e, B) := by
 refine ⟨1, fun k hk c hc => ?_⟩
 obtain ⟨c, rfl⟩ : ∃ c', c = c' + 1 := ⟨c - 1, by omega⟩
 exact Rf.items_stop h
theorem EvI.pairs {ks : List ByteArray} {l : List S44} {m : Bool} {a d B a1 d1 e1 B1 a2 d2 e2 B2 : Int} {key : ByteArray} {x : S44} {r : RVal} (h1 : Ev (fun k => pairF (valF b k) k b ks a d 0 B) (key, x, a1, d1, e1, B1)) (hl : l.length < 1000000 ∧ ks.length < 1000000)
  (h2 : Ev (fun k => RRq_more.f k b a1 d1 e1 B1 125) (m, a2, d2, e2, B2)) (h3 : EvI (fun k c => pairsF (valF b k) k b c (ks ++ [key]) (l ++ [x]) m a2 d2 e2 B2) r) : EvI (fun k c => pairsF (valF b k) k b c ks l true a d 0 B) r := by
 obtain ⟨K1, h1⟩ := h1;obtain ⟨K2, h2⟩ := h2;obtain ⟨K3, h3⟩ := h3;refine ⟨K1 + K2 + K3 + 1, fun k hk c hc => ?_⟩
 obtain ⟨c, rfl⟩ : ∃ c', c = c' + 1 := ⟨c - 1, by omega⟩
 exact pairs_go (h1 k (by omega)) hl (h2 k (by omega)) (h3 k (by omega) c (by omega))
theorem EvI.pairs_stop {ks : List ByteArray} {l : List S44} {m : Bool} {a d e B : Int} (h : (m && e == 0) = false) : EvI (fun k c => pairsF (valF b k) k b c ks l m a d e B) (⟨6, ⟨#[]⟩, ks, l⟩, a, d, e, B) := by
 refine ⟨1, fun k hk c hc => ?_⟩
 obtain ⟨c, rfl⟩ : ∃ c', c = c' + 1 := ⟨c - 1, by omega⟩
 exact Rf.pairs_stop h
theorem dup_bad (key : ByteArray) (fr : Int) {e : Int} (he : e ≠ 0) (a d B : Int) : ∀ ks, dupF ks key fr a d e B = some (a, d, e, B)
 | [] => rfl
 | x :: r => by
  by_cases hx : x = key
  ·simp only [dupF, if_pos hx, if_neg he]
   exact dup_bad key fr he a d B r
  ·simp only [dupF, if_neg hx]
   exact dup_bad key fr he a d B r
theorem dup_none {key : ByteArray} (fr a d B : Int) : ∀ ks : List ByteArray, key ∉ ks → dupF ks key fr a d 0 B = some (a, d, 0, B)
 | [], _ => rfl
 | x :: r, h => by
  simp only [dupF];rw [if_neg (fun e => h (by simp [e]))];exact dup_none fr a d B r (fun hh => h (by simp [hh]))
theorem dup_some {key : ByteArray} (fr a d B : Int) : ∀ ks : List ByteArray, key ∈ ks → dupF ks key fr a d 0 B = some (a, d, 23, fr)
 | [], h => by simp at h
 | x :: r, h => by
  simp only [dupF];by_cases hx : x = key
  ·rw [if_pos hx, if_pos trivial]
   exact dup_bad key fr n23 a d fr r
  ·rw [if_neg hx]
   exact dup_some fr a d B r (by
    rcases List.mem_cons.1 h with e | e
    ·exact absurd e.symm hx
    ·exact e)
theorem val_bad {a d e B : Int} (he : e ≠ 0) : Ev (fun k => valF b k a d e B) (⟨0, ⟨#[]⟩, [], []⟩, a, d, e, B) := by
 refine Ev.step (f := fun _ => some (⟨0, ⟨#[]⟩, [], []⟩, a, d, e, B)) (fun k => ?_) (Ev.now _);rw [valF, peek_bad he]
 show (if (e != 0) = true then _ else _) = _
 rw [if_pos (by simpa using he)]
theorem pair_bad {ks : List ByteArray} {a d B a1 d1 e1 B1 : Int} {key : ByteArray} (ht : Ev (fun k => RRq_text.f k b a d 0 B) (key, a1, d1, e1, B1)) (he : e1 ≠ 0) : Ev (fun k => pairF (valF b k) k b ks a d 0 B) (key, ⟨0, ⟨#[]⟩, [], []⟩, a1, d1, e1, B1) :=
 Ev.bind ht (evB (dup_bad _ _ he _ _ _ _) (Ev.bind (blank_bad he) (Ev.bind (must_bad he) (Ev.bind (blank_bad he) (Ev.bind (val_bad he) (Ev.now _))))))
def VEnds (o : Js.Out Js.Val) (d B : Int) (g : Nat → Option RVal) : Prop := match o with
 | .ok v q => Ev g (toR v, (q : Int), d, 0, B)
 | .no _ _ => ∃ x a d' e B', e ≠ 0 ∧ Ev g (x, a, d', e, B')
def IEnds (o : Js.Out Js.Val) (d B : Int) (g : Nat → Nat → Option RVal) : Prop := match o with
 | .ok v q => EvI g (toR v, (q : Int), d, 0, B)
 | .no _ _ => ∃ x a d' e B', e ≠ 0 ∧ EvI g (x, a, d', e, B')
theorem IEnds.both {o : Js.Out Js.Val} {d B : Int} {g : Nat → Nat → Option RVal} (h : IEnds o d B g) : VEnds o d B (fun k => g k k) := by
 cases o with
 | ok v q => exact EvI.both h
 | no y e => obtain ⟨x, a, d', e', B', he, h⟩ := h; exact ⟨x, a, d', e', B', he, h.both⟩
theorem VEnds.map {o : Js.Out Js.Val} {d B : Int} {g g' : Nat → Option RVal} (h : VEnds o d B g) (hg : ∀ {r}, Ev g r → Ev g' r) : VEnds o d B g' := by
 cases o with
 | ok v q => exact hg h
 | no y e => obtain ⟨x, a, d', e', B', he, h⟩ := h; exact ⟨x, a, d', e', B', he, hg h⟩
theorem IEnds.map {o : Js.Out Js.Val} {d B : Int} {g g' : Nat → Nat → Option RVal} (h : IEnds o d B g) (hg : ∀ {r}, EvI g r → EvI g' r) : IEnds o d B g' := by
 cases o with
 | ok v q => exact hg h
 | no y e => obtain ⟨x, a, d', e', B', he, h⟩ := h; exact ⟨x, a, d', e', B', he, hg h⟩
theorem arr_ends (hb : Bs b) {j d : Nat} (hp : p < b.length) (hd : d ≤ 64) {o : Js.Out Js.Val} (ho : Js.arr b j d p = some o)
  (ih : ∀ q o, Js.items b j (d + 1) [] q = some o → q ≤ b.length → 0 < q → d + 1 ≤ 64 → IEnds o d B (fun k c => itemsF (valF b k) k b c [] true q ((d : Int) + 1) 0 B)) :
  VEnds o d B (fun k => arrF (valF b k) k b p d 0 B) := by
 unfold Js.arr at ho;by_cases hde : 64 < d + 1
 ·obtain rfl : Js.Out.no p 13 = o := by simpa [Js.enter, hde] using ho
  refine ⟨⟨5, ⟨#[]⟩, [], []⟩, (p : Int), (d : Int) + 1, 13, (p : Int), n13, ?_⟩;unfold arrF;refine Ev.congr (f := fun _ => some (⟨5, ⟨#[]⟩, [], []⟩, (p : Int), (d : Int) + 1, 13, (p : Int))) (fun k => ?_) (Ev.now _);rw [(enter_deep (b := b) (cl := 93) (a := p) (B := B) (d := d) (by omega) (by omega)).2 k]
  rfl
 ·have hen := enter_ends (d := d) (B := B) hb hp (cl := 93) (by omega) (by omega)
  have hq := Js.blank_le (b := b) (p := p + 1) (by omega);rw [show Js.enter b d p = .ok () (Js.blank b (p + 1)) by simp [Js.enter, hde]] at ho;simp only at ho;generalize Js.blank b (p + 1) = q at hen hq ho
  cases hx : b[q]? with
  | none =>
   rw [hx] at ho hen;obtain rfl : Js.Out.no q 11 = o := Option.some.inj ho;obtain ⟨a, e, B', he, hen⟩ := hen;exact ⟨⟨5, ⟨#[]⟩, [], []⟩, a, (d : Int) + 1, e, B', he, Ev.bind hen (evT rfl (Ev.now _))⟩
  | some c =>
   rw [hx] at ho hen;simp only at ho hen;by_cases hc : c = 93
   ·rw [if_pos (by simpa using hc)] at ho
    rw [if_pos hc] at hen;obtain rfl := Option.some.inj ho;exact Ev.bind hen (evT rfl (Ev.now _))
   ·rw [if_neg (by simpa using hc)] at ho
    rw [if_neg hc] at hen;refine VEnds.map (ih q o ho hq.2 (by omega) (by omega)).both (fun hr => ?_);exact Ev.bind hen (evF (by show ¬ (false = true); decide) hr)
theorem obj_ends (hb : Bs b) {j d : Nat} (hp : p < b.length) (hd : d ≤ 64) {o : Js.Out Js.Val} (ho : Js.obj b j d p = some o)
  (ih : ∀ q o, Js.pairs b j (d + 1) [] [] q = some o → q ≤ b.length → 0 < q → d + 1 ≤ 64 → IEnds o d B (fun k c => pairsF (valF b k) k b c [] [] true q ((d : Int) + 1) 0 B)) :
  VEnds o d B (fun k => objF (valF b k) k b p d 0 B) := by
 unfold Js.obj at ho;by_cases hde : 64 < d + 1
 ·obtain rfl : Js.Out.no p 13 = o := by simpa [Js.enter, hde] using ho
  refine ⟨⟨6, ⟨#[]⟩, [], []⟩, (p : Int), (d : Int) + 1, 13, (p : Int), n13, ?_⟩;unfold objF;refine Ev.congr (f := fun _ => some (⟨6, ⟨#[]⟩, [], []⟩, (p : Int), (d : Int) + 1, 13, (p : Int))) (fun k => ?_) (Ev.now _);rw [(enter_deep (b := b) (cl := 125) (a := p) (B := B) (d := d) (by omega) (by omega)).2 k]
  rfl
 ·have hen := enter_ends (d := d) (B := B) hb hp (cl := 125) (by omega) (by omega)
  have hq := Js.blank_le (b := b) (p := p + 1) (by omega);rw [show Js.enter b d p = .ok () (Js.blank b (p + 1)) by simp [Js.enter, hde]] at ho;simp only at ho;generalize Js.blank b (p + 1) = q at hen hq ho
  cases hx : b[q]? with
  | none =>
   rw [hx] at ho hen;obtain rfl : Js.Out.no q 11 = o := Option.some.inj ho;obtain ⟨a, e, B', he, hen⟩ := hen;exact ⟨⟨6, ⟨#[]⟩, [], []⟩, a, (d : Int) + 1, e, B', he, Ev.bind hen (evT rfl (Ev.now _))⟩
  | some c =>
   rw [hx] at ho hen;simp only at ho hen;by_cases hc : c = 125
   ·rw [if_pos (by simpa using hc)] at ho
    rw [if_pos hc] at hen;obtain rfl := Option.some.inj ho;exact Ev.bind hen (evT rfl (Ev.now _))
   ·rw [if_neg (by simpa using hc)] at ho
    rw [if_neg hc] at hen;refine VEnds.map (ih q o ho hq.2 (by omega) (by omega)).both (fun hr => ?_);exact Ev.bind hen (evF (by show ¬ (false = true); decide) hr)
def ValE (b : List Int) (j : Nat) : Prop := ∀ (p d : Nat) (B : Int) (o : Js.Out Js.Val), p ≤ b.length → d ≤ 64 → Js.value b j d p = some o → VEnds o d B (fun k => valF b k p d 0 B)
def ItemsE (b : List Int) (j : Nat) : Prop := ∀ (p d : Nat) (B : Int) (l : List Js.Val) (o : Js.Out Js.Val), p ≤ b.length → l.length < p → d + 1 ≤ 64 → Js.items b j (d + 1) l p = some o → IEnds o d B (fun k c => itemsF (valF b k) k b c (l.map toR) true p ((d : Int) + 1) 0 B)
def PairsE (b : List Int) (j : Nat) : Prop := ∀ (p d : Nat) (B : Int) (ks : List (List Int)) (l : List Js.Val) (o : Js.Out Js.Val), p ≤ b.length → l.length < p → ks.length < p → (∀ k ∈ ks, ∀ x ∈ k, 0 ≤ x ∧ x ≤ 255) → d + 1 ≤ 64 → Js.pairs b j (d + 1) ks l p = some o → IEnds o d B (fun k c => pairsF (valF b k) k b c (ks.map strOfNums) (l.map toR) true p ((d : Int) + 1) 0 B)
theorem items_step (hb : Bs b) {j : Nat} (hV : ValE b j) (hI : ItemsE b j) : ItemsE b (j + 1) := by
 intro p d B l o hp hl hd h;have hlen := hb.2
 have hl2 : (l.map toR).length < 1000000 := by rw [List.length_map]; omega
 cases hv : Js.value b j (d + 1) p with
 | none => exact absurd h (by simp [Js.items, hv])
 | some ov =>
  have hE := hV p (d + 1) B ov hp hd hv
  cases ov with
  | no y e =>
   obtain rfl : Js.Out.no y e = o := by simpa [Js.items, hv] using h
   obtain ⟨x, a, d', e', B', he, hE⟩ := hE;refine ⟨_, a, d', e', B', he, EvI.items hE hl2 (more_bad he) (EvI.items_stop (m := false) (by rfl))⟩
  | ok v r =>
   have hvl := Js.value_le hv;have hm := more_ends (d := (d : Int) + 1) (B := B) hb hvl.2 (cl := 93) (by omega) (by omega)
   have h2 : some o = match Js.comma b 93 r with
     | .no x e => some (.no x e)
     | .ok true q => Js.items b j (d + 1) (l ++ [v]) q
     | .ok false q => some (.ok (.mk 5 [] [] (l ++ [v])) q) := by rw [← h]; simp only [Js.items, hv]; rfl
   have hE : Ev (fun k => valF b k p ((d : Int) + 1) 0 B) (toR v, (r : Int), (d : Int) + 1, 0, B) := hE
   cases hcm : Js.comma b 93 r with
   | no y e =>
    rw [hcm] at h2 hm;obtain rfl := Option.some.inj h2;obtain ⟨a, e', B', he, hm⟩ := hm;exact ⟨_, a, (d : Int) + 1, e', B', he, EvI.items hE hl2 hm (EvI.items_stop (m := false) (by rfl))⟩
   | ok t q =>
    have hcl := Js.comma_le hvl.2 hcm;rw [hcm] at h2 hm
    cases t with
    | true =>
     simp only at h2 hm;rw [if_pos trivial] at hm;have := hI q d B (l ++ [v]) o hcl.2 (by simp; omega) hd h2.symm;refine IEnds.map this (fun hr => EvI.items hE hl2 hm ?_);rw [List.map_append] at hr;exact hr
    | false =>
     simp only at h2 hm;obtain rfl := Option.some.inj h2;rw [if_neg (by decide)] at hm;have hst := EvI.items_stop (b := b) (l := l.map toR ++ [toR v]) (m := false) (a := q) (d := (d : Int) + 1 - 1) (e := 0) (B := B) (by rfl);have := EvI.items hE hl2 hm hst
     show EvI _ _
     rw [toR_mk, List.map_append];rw [show (d : Int) + 1 - 1 = d by omega] at this;exact this
theorem pairs_step (hb : Bs b) {j : Nat} (hV : ValE b j) (hP : PairsE b j) : PairsE b (j + 1) := by
 intro p d B ks l o hp hl hk hks hd h;have hlen := hb.2
 have hl2 : (l.map toR).length < 1000000 ∧ (ks.map strOfNums).length < 1000000 := by rw [List.length_map, List.length_map]; omega
 cases ht : Js.text b j p with
 | none => exact absurd h (by simp [Js.pairs, ht])
 | some ot =>
  have hT := text_ends (d := (d : Int) + 1) (B := B) hb ht
  have wrong : ∀ {key x a d' e' B'}, e' ≠ 0 → Ev (fun k => pairF (valF b k) k b (ks.map strOfNums) p ((d : Int) + 1) 0 B) (key, x, a, d', e', B') → IEnds (.no 0 0) d B (fun k c => pairsF (valF b k) k b c (ks.map strOfNums) (l.map toR) true p ((d : Int) + 1) 0 B) := fun he hp => ⟨_, _, _, _, _, he, EvI.pairs hp hl2 (more_bad he) (EvI.pairs_stop (m := false) (by rfl))⟩
  cases ot with
  | no y e =>
   obtain rfl : Js.Out.no y e = o := by simpa [Js.pairs, ht] using h
   obtain ⟨u, a, e', B', he, hT⟩ := hT;exact wrong he (pair_bad hT he)
  | ok key q =>
   have htl := Js.text_le ht;have hkb := (Js.text_bytes hb.1 ht).1;have hT : Ev (fun k => RRq_text.f k b p ((d : Int) + 1) 0 B) (strOfNums key, (q : Int), (d : Int) + 1, 0, B) := hT
   have h2 : some o = if ks.contains key then some (.no p 23) else match b[Js.blank b q]? with
     | none => some (.no (Js.blank b q) 11)
     | some c => if c == 58 then match Js.value b j (d + 1) (Js.blank b (Js.blank b q + 1)) with
       | none => none
       | some (.no x e) => some (.no x e)
       | some (.ok v q) => match Js.comma b 125 q with
        | .no x e => some (.no x e)
        | .ok true q => Js.pairs b j (d + 1) (ks ++ [key]) (l ++ [v]) q
        | .ok false q => some (.ok (.mk 6 [] (ks ++ [key]) (l ++ [v])) q)
      else some (.no (Js.blank b q) 6) := by rw [← h]; simp only [Js.pairs, ht]; rfl
   clear h;by_cases hin : ks.contains key = true
   ·rw [if_pos hin] at h2
    obtain rfl := Option.some.inj h2;have hin' : strOfNums key ∈ ks.map strOfNums := List.mem_map_of_mem (by simpa using hin);exact wrong n23 (Ev.bind hT (evB (dup_some _ _ _ _ _ hin') (Ev.bind (blank_bad n23) (Ev.bind (must_bad n23) (Ev.bind (blank_bad n23) (Ev.bind (val_bad n23) (Ev.now _)))))))
   ·rw [if_neg hin] at h2
    have hin' : strOfNums key ∉ ks.map strOfNums := by
     intro hc;obtain ⟨k2, hk2, he⟩ := List.mem_map.1 hc;have := Rd.strOfNums_inj (hks k2 hk2) hkb he
     apply hin
     rw [← this]
     simpa using hk2
    have hbl := Js.blank_le (b := b) (p := q) htl.2;have hB1 := blank_ok (d := (d : Int) + 1) (B := B) hb htl.2;generalize Js.blank b q = q2 at h2 hbl hB1
    cases hx : b[q2]? with
    | none =>
     rw [hx] at h2;obtain rfl := Option.some.inj h2;exact wrong n11 (Ev.bind hT (evB (dup_none _ _ _ _ _ hin') (Ev.bind hB1 (Ev.bind (must_end hx) (Ev.bind (blank_bad n11) (Ev.bind (val_bad n11) (Ev.now _)))))))
    | some c =>
     rw [hx] at h2;simp only at h2;have hlt := lt_of hx;by_cases hc : c = 58
     ·subst hc
      rw [if_pos (by rfl)] at h2;have hbl3 := Js.blank_le (b := b) (p := q2 + 1) (by omega);have hB2 := blank_ok (d := (d : Int) + 1) (B := B) (p := q2 + 1) hb (by omega);generalize Js.blank b (q2 + 1) = q3 at h2 hbl3 hB2
      cases hv : Js.value b j (d + 1) q3 with
      | none => rw [hv] at h2; simp at h2
      | some ov =>
       have hE := hV q3 (d + 1) B ov hbl3.2 hd hv;rw [hv] at h2
       have pairE : ∀ {x a d' e' B'}, Ev (fun k => valF b k q3 ((d : Int) + 1) 0 B) (x, a, d', e', B') → Ev (fun k => pairF (valF b k) k b (ks.map strOfNums) p ((d : Int) + 1) 0 B) (strOfNums key, x, a, d', e', B') := fun hv =>
        Ev.bind hT (evB (dup_none _ _ _ _ _ hin') (Ev.bind hB1 (Ev.bind (must_ok hb hx) (Ev.bind hB2 (Ev.bind hv (Ev.now _))))))
       cases ov with
       | no y e =>
        obtain rfl := Option.some.inj h2;obtain ⟨x, a, d', e', B', he, hE⟩ := hE;exact wrong he (pairE hE)
       | ok v r =>
        have hvl := Js.value_le hv;simp only at h2;have hP1 := pairE (show Ev _ (toR v, (r : Int), (d : Int) + 1, 0, B) from hE);have hm := more_ends (d := (d : Int) + 1) (B := B) hb hvl.2 (cl := 125) (by omega) (by omega)
        cases hcm : Js.comma b 125 r with
        | no y e =>
         rw [hcm] at h2 hm;obtain rfl := Option.some.inj h2;obtain ⟨a, e', B', he, hm⟩ := hm;exact ⟨_, a, (d : Int) + 1, e', B', he, EvI.pairs hP1 hl2 hm (EvI.pairs_stop (m := false) (by rfl))⟩
        | ok t q4 =>
         have hcl := Js.comma_le hvl.2 hcm;rw [hcm] at h2 hm
         cases t with
         | true =>
          simp only at h2 hm;rw [if_pos trivial] at hm
          have := hP q4 d B (ks ++ [key]) (l ++ [v]) o hcl.2 (by simp; omega) (by simp; omega) (fun k hk => by
           rcases List.mem_append.1 hk with hk | hk
           ·exact hks k hk
           ·simp at hk
            subst hk
            exact hkb) hd h2.symm
          refine IEnds.map this (fun hr => EvI.pairs hP1 hl2 hm ?_);rw [List.map_append, List.map_append] at hr;exact hr
         | false =>
          simp only at h2 hm;obtain rfl := Option.some.inj h2;rw [if_neg (by decide)] at hm;have hst := EvI.pairs_stop (b := b) (ks := ks.map strOfNums ++ [strOfNums key]) (l := l.map toR ++ [toR v]) (m := false) (a := q4) (d := (d : Int) + 1 - 1) (e := 0) (B := B) (by rfl);have := EvI.pairs hP1 hl2 hm hst
          show EvI _ _
          rw [toR_mk, List.map_append, List.map_append];rw [show (d : Int) + 1 - 1 = d by omega] at this;exact this
     ·rw [if_neg (by simpa using hc)] at h2
      obtain rfl := Option.some.inj h2;exact wrong n6 (Ev.bind hT (evB (dup_none _ _ _ _ _ hin') (Ev.bind hB1 (Ev.bind (must_no hb hx hc) (Ev.bind (blank_bad n6) (Ev.bind (val_bad n6) (Ev.now _)))))))
def wT : ByteArray := ⟨#[116, 114, 117, 101]⟩
def wF : ByteArray := ⟨#[102, 97, 108, 115, 101]⟩
def wN : ByteArray := ⟨#[110, 117, 108, 108]⟩
theorem wT_at : ∀ j (h : j < [116, 114, 117, 101].length), bt wT ((0 + j : Nat) : Int) = ([116, 114, 117, 101] : List Int)[j] := by decide
theorem wF_at : ∀ j (h : j < [102, 97, 108, 115, 101].length), bt wF ((0 + j : Nat) : Int) = ([102, 97, 108, 115, 101] : List Int)[j] := by decide
theorem wN_at : ∀ j (h : j < [110, 117, 108, 108].length), bt wN ((0 + j : Nat) : Int) = ([110, 117, 108, 108] : List Int)[j] := by decide
theorem word_ends (hb : Bs b) (s : ByteArray) (ws : List Int) (kd : Int) {d : Int} (hs : s.size ≤ 1000) (hl : ws.length = s.size) (hw : ∀ j (h : j < ws.length), bt s ((0 + j : Nat) : Int) = ws[j]) (hp : p ≤ b.length) :
  VEnds (Js.wordV kd (Js.word b ws p)) d B (fun k => (RRq_word.f k b p d 0 B s kd).map ofNum) := by
 have h := word_loop (d := d) (B := B) hb s kd hs ws 0 p (by omega) hw hp
 have mp : ∀ {r : NumOut}, Ev (fun k => RRq_word.l0 k s kd ((0 : Nat) : Int) b p d 0 B) r → Ev (fun k => (RRq_word.f k b p d 0 B s kd).map ofNum) (ofNum r) := by
  rintro r ⟨K, h⟩;refine ⟨K, fun k hk => ?_⟩
  show Option.map ofNum (RRq_word.l0 k s kd 0 b p d 0 B) = _
  rw [show RRq_word.l0 k s kd 0 b p d 0 B = some r from h k hk]
  rfl
 cases ho : Js.word b ws p with
 | ok u q => rw [ho] at h; exact mp h
 | no y e => rw [ho] at h; obtain ⟨a, e', B', he, h⟩ := h; exact ⟨_, a, d, e', B', he, mp h⟩
theorem val_step (hb : Bs b) {j : Nat} (hI : ItemsE b j) (hP : PairsE b j) : ValE b (j + 1) := by
 intro p d B o hp hd h;rw [Js.value_succ] at h
 cases hx : b[p]? with
 | none =>
  rw [hx] at h;obtain rfl : Js.Out.no p 11 = o := Option.some.inj h;refine ⟨⟨0, ⟨#[]⟩, [], []⟩, (p : Int), (d : Int), 11, (b.length : Int), n11, ?_⟩;refine Ev.step (f := fun _ => some (⟨0, ⟨#[]⟩, [], []⟩, (p : Int), (d : Int), 11, (b.length : Int))) (fun k => ?_) (Ev.now _);rw [valF, peek_end hx]
  rfl
 | some c =>
  have hlt := lt_of hx;rw [hx] at h;simp only at h
  have on : ∀ {f : Nat → Option RVal} {r}, (∀ k, (if (c == 123) = true then objF (valF b k) k b p d 0 B
    else if (c == 91) = true then arrF (valF b k) k b p d 0 B
    else if (c == 34) = true then (RRq_text.f k b p d 0 B).bind fun u => some (⟨4, u.1, [], []⟩, u.2)
    else if (c == 116) = true then (RRq_word.f k b p d 0 B wT 2).map ofNum
    else if (c == 102) = true then (RRq_word.f k b p d 0 B wF 1).map ofNum
    else if (c == 110) = true then (RRq_word.f k b p d 0 B wN 0).map ofNum
    else (numF k b p d 0 B).map ofNum) = f k) → Ev f r → Ev (fun k => valF b k p d 0 B) r := by
   intro f r hf hr;refine Ev.step (f := f) (fun k => ?_) hr;rw [valF, peek_ok hb hx, ← hf k]
   rfl
  by_cases h1 : (c == 123) = true
  ·rw [if_pos h1] at h
   exact VEnds.map (obj_ends hb hlt hd h (fun q o h hq h0 hd => hP q d B [] [] o hq h0 h0 (by simp) hd h)) (on (fun k => by rw [if_pos h1]))
  rw [if_neg h1] at h;by_cases h2 : (c == 91) = true
  ·rw [if_pos h2] at h
   exact VEnds.map (arr_ends hb hlt hd h (fun q o h hq h0 hd => hI q d B [] o hq h0 hd h)) (on (fun k => by rw [if_neg h1, if_pos h2]))
  rw [if_neg h2] at h;by_cases h3 : (c == 34) = true
  ·rw [if_pos h3] at h
   obtain ⟨ot, ht, rfl⟩ := Option.map_eq_some_iff.mp h;have hT := text_ends (d := (d : Int)) (B := B) hb ht;refine VEnds.map (g := fun k => (RRq_text.f k b p d 0 B).bind fun u => some (⟨4, u.1, [], []⟩, u.2)) ?_ (on (fun k => by rw [if_neg h1, if_neg h2, if_pos h3]))
   cases ot with
   | ok l q => exact Ev.bind (show Ev _ (strOfNums l, (q : Int), (d : Int), 0, B) from hT) (Ev.now _)
   | no y e => obtain ⟨u, a, e', B', he, hT⟩ := hT; exact ⟨_, a, (d : Int), e', B', he, Ev.bind hT (Ev.now _)⟩
  rw [if_neg h3] at h;by_cases h4 : (c == 116) = true
  ·rw [if_pos h4] at h
   obtain rfl := Option.some.inj h;exact VEnds.map (word_ends hb wT _ 2 (by decide) (by decide) wT_at hp) (on (fun k => by rw [if_neg h1, if_neg h2, if_neg h3, if_pos h4]))
  rw [if_neg h4] at h;by_cases h5 : (c == 102) = true
  ·rw [if_pos h5] at h
   obtain rfl := Option.some.inj h;exact VEnds.map (word_ends hb wF _ 1 (by decide) (by decide) wF_at hp) (on (fun k => by rw [if_neg h1, if_neg h2, if_neg h3, if_neg h4, if_pos h5]))
  rw [if_neg h5] at h;by_cases h6 : (c == 110) = true
  ·rw [if_pos h6] at h
   obtain rfl := Option.some.inj h;exact VEnds.map (word_ends hb wN _ 0 (by decide) (by decide) wN_at hp) (on (fun k => by rw [if_neg h1, if_neg h2, if_neg h3, if_neg h4, if_neg h5, if_pos h6]))
  rw [if_neg h6] at h;obtain rfl := Option.some.inj h;have hN := number_ends (d := (d : Int)) (B := B) hb hp;refine VEnds.map (g := fun k => (numF k b p d 0 B).map ofNum) ?_ (on (fun k => by rw [if_neg h1, if_neg h2, if_neg h3, if_neg h4, if_neg h5, if_neg h6]))
  have mp : ∀ {r : NumOut}, Ev (fun k => numF k b p d 0 B) r → Ev (fun k => (numF k b p d 0 B).map ofNum) (ofNum r) := by
   rintro r ⟨K, h⟩;refine ⟨K, fun k hk => ?_⟩
   show Option.map ofNum (numF k b p d 0 B) = _
   rw [show numF k b p d 0 B = some r from h k hk]
   rfl
  cases hn : Js.number b p with
  | ok u q =>
   have hle := Js.number_le hn;rw [hn] at hN;exact mp (hN hle.1 hle.2)
  | no y e =>
   rw [hn] at hN;obtain ⟨a, d', e', B', he, hN⟩ := hN;exact ⟨_, a, d', e', B', he, mp hN⟩
theorem ring_ends (hb : Bs b) : ∀ j, ValE b j ∧ ItemsE b j ∧ PairsE b j
 | 0 => ⟨fun p d B o _ _ h => by simp [Js.value] at h, fun p d B l o _ _ _ h => by simp [Js.items] at h, fun p d B ks l o _ _ _ _ _ h => by simp [Js.pairs] at h⟩
 | j + 1 => by
  obtain ⟨h1, h2, h3⟩ := ring_ends hb j;exact ⟨val_step hb h2 h3, items_step hb h1 h2, pairs_step hb h1 h3⟩
end Go.Proofs.YteighppcdpaekaaDoor.Rf
end
section
namespace Go.Proofs.YteighppcdpaekaaDoor.Rf
open Go.RowKit Go.Proofs.YteighppcdpaekaaDoorW.PrintWords Go.Proofs.YteighppcdpaekaaDoor Go.Proofs.YteighppcdpaekaaDoor.P
variable {b : List Int} {p : Nat}
theorem w64k {p n : Nat} (hp : p ≤ 1000000) (hn : n ≤ 10) : wrap64 ((p : Int) + (n : Int)) = ((p + n : Nat) : Int) := by unfold wrap64; omega
end Go.Proofs.YteighppcdpaekaaDoor.Rf
end
section
namespace Go.Proofs.YteighppcdpaekaaDoor.Js
theorem at_lt {b : List Int} {p : Nat} {c : Int} (h : b[p]? = some c) : p < b.length := (List.getElem?_eq_some_iff.1 h).1
theorem at_none {b : List Int} {p : Nat} (h : b.length ≤ p) : b[p]? = none := by simpa using h
theorem textTo_total (b : List Int) : ∀ (n p : Nat) (out : List Int), b.length - p ≤ n → ∃ o, textTo b (n + 1) out p = some o := by
 intro n
 induction n with
 | zero =>
  intro p out h;exact ⟨_, by rw [textTo, at_none (by omega)]⟩
 | succ n ih =>
  intro p out h
  cases hx : b[p]? with
  | none => exact ⟨_, by rw [textTo, hx]⟩
  | some c =>
   have hl := at_lt hx;rw [textTo];simp only [hx]
   split
   ·exact ⟨_, rfl⟩
   ·split
    ·cases he : escape b (p + 1) with
     | no x e => exact ⟨_, rfl⟩
     | ok l q => have := escape_le he; exact ih q _ (by omega)
    ·split
     ·exact ⟨_, rfl⟩
     ·exact ih _ _ (by omega)
theorem textTo_more {b : List Int} {k p : Nat} {out : List Int} {o : Out (List Int)} (h : textTo b k out p = some o) {m : Nat} (hm : k ≤ m) : textTo b m out p = some o := by
 obtain ⟨j, rfl⟩ : ∃ j, m = k + j := ⟨m - k, by omega⟩
 clear hm
 induction j with
 | zero => exact h
 | succ j ih => exact textTo_mono ih
theorem items_more {b : List Int} {k d p : Nat} {l : List Val} {o : Out Val} (h : items b k d l p = some o) {m : Nat} (hm : k ≤ m) : items b m d l p = some o := by
 obtain ⟨j, rfl⟩ : ∃ j, m = k + j := ⟨m - k, by omega⟩
 clear hm
 induction j with
 | zero => exact h
 | succ j ih => exact (all_mono b _).2.1 _ _ _ _ ih
theorem pairs_more {b : List Int} {k d p : Nat} {ks : List (List Int)} {l : List Val} {o : Out Val} (h : pairs b k d ks l p = some o) {m : Nat} (hm : k ≤ m) : pairs b m d ks l p = some o := by
 obtain ⟨j, rfl⟩ : ∃ j, m = k + j := ⟨m - k, by omega⟩
 clear hm
 induction j with
 | zero => exact h
 | succ j ih => exact (all_mono b _).2.2 _ _ _ _ _ ih
theorem text_total (b : List Int) (p k : Nat) (h : b.length - p < k) : ∃ o, text b k p = some o := by
 unfold text
 cases hx : b[p]? with
 | none => exact ⟨_, rfl⟩
 | some c =>
  simp only
  split
  ·obtain ⟨o, ho⟩ := textTo_total b (b.length - (p + 1)) (p + 1) [] (Nat.le_refl _)
   exact ⟨o, textTo_more ho (by omega)⟩
  ·exact ⟨_, rfl⟩
theorem all_total (b : List Int) : ∀ n, (∀ d p, b.length - p ≤ n → ∃ o, value b (2 * n + 3) d p = some o) ∧ (∀ d l p, b.length - p ≤ n → ∃ o, items b (2 * n + 4) d l p = some o) ∧ (∀ d ks l p, b.length - p ≤ n → ∃ o, pairs b (2 * n + 4) d ks l p = some o) := by
 intro n
 induction n with
 | zero =>
  have hv : ∀ d p, b.length - p ≤ 0 → value b 3 d p = some (.no p 11) := fun d p h => by rw [value_succ, at_none (by omega)]
  refine ⟨fun d p h => ⟨_, hv d p h⟩, fun d l p h => ⟨_, by rw [items, hv d p h]⟩, fun d ks l p h => ?_⟩
  have ht : text b 3 p = some (.no p 11) := by unfold text; rw [at_none (by omega)]
  exact ⟨_, by rw [pairs, ht]⟩
 | succ n ih =>
  obtain ⟨_, i2, i3⟩ := ih
  have hv : ∀ d p, b.length - p ≤ n + 1 → ∃ o, value b (2 * (n + 1) + 3) d p = some o := by
   intro d p h;rw [show 2 * (n + 1) + 3 = (2 * n + 4) + 1 by omega, value_succ]
   cases hx : b[p]? with
   | none => exact ⟨_, rfl⟩
   | some c =>
    have hl := at_lt hx;have hbl := blank_le (b := b) (p := p + 1) (by omega);simp only
    split
    ·unfold obj enter
     by_cases hd : d + 1 > 64
     ·rw [if_pos hd]; exact ⟨_, rfl⟩
     ·rw [if_neg hd]
      simp only
      cases hy : b[blank b (p + 1)]? with
      | none => exact ⟨_, rfl⟩
      | some c2 =>
       simp only
       split
       ·exact ⟨_, rfl⟩
       ·exact i3 _ _ _ _ (by omega)
    split
    ·unfold arr enter
     by_cases hd : d + 1 > 64
     ·rw [if_pos hd]; exact ⟨_, rfl⟩
     ·rw [if_neg hd]
      simp only
      cases hy : b[blank b (p + 1)]? with
      | none => exact ⟨_, rfl⟩
      | some c2 =>
       simp only
       split
       ·exact ⟨_, rfl⟩
       ·exact i2 _ _ _ (by omega)
    split
    ·obtain ⟨o, ho⟩ := text_total b p (2 * n + 4) (by omega)
     rw [ho];exact ⟨_, rfl⟩
    split
    ·exact ⟨_, rfl⟩
    split
    ·exact ⟨_, rfl⟩
    split
    ·exact ⟨_, rfl⟩
    ·exact ⟨_, rfl⟩
  refine ⟨hv, fun d l p h => ?_, fun d ks l p h => ?_⟩
  ·obtain ⟨o, ho⟩ := hv d p h
   rw [show 2 * (n + 1) + 4 = (2 * (n + 1) + 3) + 1 by omega, items, ho]
   cases o with
   | no x e => exact ⟨_, rfl⟩
   | ok v q =>
    have h1 := value_le ho;simp only
    cases hc : comma b 93 q with
    | no x e => exact ⟨_, rfl⟩
    | ok t s =>
     have h2 := comma_le h1.2 hc
     cases t with
     | false => exact ⟨_, rfl⟩
     | true =>
      obtain ⟨o2, ho2⟩ := i2 d (l ++ [v]) s (by omega);exact ⟨o2, items_more ho2 (by omega)⟩
  ·obtain ⟨ot, hot⟩ := text_total b p (2 * (n + 1) + 3) (by omega)
   rw [show 2 * (n + 1) + 4 = (2 * (n + 1) + 3) + 1 by omega, pairs, hot]
   cases ot with
   | no x e => exact ⟨_, rfl⟩
   | ok key q =>
    have h0 := text_le hot;have h01 := blank_le (b := b) (p := q) h0.2;simp only
    split
    ·exact ⟨_, rfl⟩
    cases hx : b[blank b q]? with
    | none => exact ⟨_, rfl⟩
    | some c =>
     have hl := at_lt hx;have h02 := blank_le (b := b) (p := blank b q + 1) (by omega);simp only
     split
     ·obtain ⟨o, ho⟩ := hv d (blank b (blank b q + 1)) (by omega)
      rw [ho]
      cases o with
      | no x e => exact ⟨_, rfl⟩
      | ok v r =>
       have h1 := value_le ho;simp only
       cases hc : comma b 125 r with
       | no x e => exact ⟨_, rfl⟩
       | ok t s =>
        have h2 := comma_le h1.2 hc
        cases t with
        | false => exact ⟨_, rfl⟩
        | true =>
         obtain ⟨o2, ho2⟩ := i3 d (ks ++ [key]) (l ++ [v]) s (by omega);exact ⟨o2, pairs_more ho2 (by omega)⟩
     ·exact ⟨_, rfl⟩
theorem value_total (b : List Int) (d p : Nat) : ∃ k o, value b k d p = some o := by
 obtain ⟨o, ho⟩ := (all_total b (b.length - p)).1 d p (Nat.le_refl _);exact ⟨_, o, ho⟩
def Term (post : List Int) : Prop := ∀ c, post[0]? = some c → isDigit c = false ∧ c ≠ 46 ∧ c ≠ 101 ∧ c ≠ 69
theorem Term.nil : Term [] := fun c h => by simp at h
section
variable {b t post : List Int} {p : Nat} (hb : b.drop p = t ++ post)
include hb
end
def Bytes (b : List Int) : Prop := ∀ x ∈ b, 0 ≤ x ∧ x ≤ 255
end Go.Proofs.YteighppcdpaekaaDoor.Js
end
section
namespace Go.Proofs.YteighppcdpaekaaDoor.Js
open Go.RowKit Go.Proofs.YteighppcdpaekaaDoorW.PrintWords Go.Proofs.YteighppcdpaekaaDoor.P
def contO : Option Int → Bool
 | some c => decide (128 ≤ c) && decide (c ≤ 191)
 | none => false
def val3 (l : List Int) : Int := (rd l 0 % 16) * 4096 + (rd l 1 % 64) * 64 + rd l 2 % 64
def val4 (l : List Int) : Int := (rd l 0 % 8) * 262144 + (rd l 1 % 64) * 4096 + (rd l 2 % 64) * 64 + rd l 3 % 64
def letterLen (l : List Int) : Nat := match l[0]? with
 | none => 0
 | some c =>
  if c < 128 then 1
  else if 194 ≤ c ∧ c ≤ 223 then (if contO l[1]? = true then 2 else 0)
  else if 224 ≤ c ∧ c ≤ 239 then (if contO l[1]? = true ∧ contO l[2]? = true ∧ 2048 ≤ val3 l ∧ (val3 l < 55296 ∨ 57343 < val3 l) then 3 else 0)
  else if 240 ≤ c ∧ c ≤ 244 then (if contO l[1]? = true ∧ contO l[2]? = true ∧ contO l[3]? = true ∧ 65536 ≤ val4 l ∧ val4 l ≤ 1114111 then 4 else 0)
  else 0
theorem rd_get {l m : List Int} {i : Nat} (h : m[i]? = l[i]?) : rd m i = rd l i := by
 unfold rd;rw [List.getD_eq_getElem?_getD, List.getD_eq_getElem?_getD, Int.toNat_natCast, h]
theorem rd_of {l : List Int} {i : Nat} {c : Int} (h : l[i]? = some c) : rd l i = c := by
 unfold rd;rw [List.getD_eq_getElem?_getD, Int.toNat_natCast, h]
 rfl
theorem letterLen_agree {l m : List Int} {n : Nat} (h : letterLen l = n) (hn : n ≠ 0) (ha : ∀ i, i < n → m[i]? = l[i]?) : letterLen m = n := by
 have h0 := ha 0 (by omega);unfold letterLen at h ⊢;rw [h0]
 cases hx : l[0]? with
 | none => rw [hx] at h; exact absurd h.symm hn
 | some c =>
  rw [hx] at h;simp only at h ⊢
  split at h
  ·rename_i hc; rw [if_pos hc]; exact h
  rename_i hc
  rw [if_neg hc]
  split at h
  ·rename_i hc
   rw [if_pos hc]
   split at h
   ·subst h; rw [ha 1 (by omega)]; rename_i h1; rw [if_pos h1]
   ·exact absurd h.symm hn
  rename_i hc
  rw [if_neg hc]
  split at h
  ·rename_i hc
   rw [if_pos hc]
   split at h
   ·rename_i h1
    subst h;have r0 : rd m 0 = rd l 0 := rd_get h0;have r1 : rd m 1 = rd l 1 := rd_get (ha 1 (by omega));have r2 : rd m 2 = rd l 2 := rd_get (ha 2 (by omega))
    have hv : val3 m = val3 l := by unfold val3; rw [r0, r1, r2]
    rw [ha 1 (by omega), ha 2 (by omega), hv, if_pos h1]
   ·exact absurd h.symm hn
  rename_i hc
  rw [if_neg hc]
  split at h
  ·rename_i hc
   rw [if_pos hc]
   split at h
   ·rename_i h1
    subst h;have r0 : rd m 0 = rd l 0 := rd_get h0;have r1 : rd m 1 = rd l 1 := rd_get (ha 1 (by omega));have r2 : rd m 2 = rd l 2 := rd_get (ha 2 (by omega));have r3 : rd m 3 = rd l 3 := rd_get (ha 3 (by omega))
    have hv : val4 m = val4 l := by unfold val4; rw [r0, r1, r2, r3]
    rw [ha 1 (by omega), ha 2 (by omega), ha 3 (by omega), hv, if_pos h1]
   ·exact absurd h.symm hn
  ·exact absurd h.symm hn
theorem contO_lt {l : List Int} {i : Nat} (h : contO l[i]? = true) : i < l.length := by
 cases hx : l[i]? with
 | none => rw [hx] at h; cases h
 | some c => exact at_lt hx
theorem letterLen_facts {l : List Int} {n : Nat} (h : letterLen l = n) (hn : n ≠ 0) : n ≤ l.length ∧ n ≤ 4 ∧ (∀ i, 1 ≤ i → i < n → contO l[i]? = true) ∧ (n = 1 → ∃ c, l[0]? = some c ∧ c < 128) ∧ (n ≠ 1 → ∃ c, l[0]? = some c ∧ 194 ≤ c) := by
 unfold letterLen at h
 cases hx : l[0]? with
 | none => rw [hx] at h; exact absurd h.symm hn
 | some c =>
  have hl := at_lt hx;rw [hx] at h;simp only at h
  split at h
  ·rename_i hc; subst h; exact ⟨by omega, by omega, fun i h1 h2 => by omega, fun _ => ⟨c, rfl, hc⟩, fun h => absurd rfl h⟩
  split at h
  ·rename_i hc
   split at h
   ·rename_i h1
    subst h;have := contO_lt h1;exact ⟨by omega, by omega, fun i h2 h3 => (by obtain rfl : i = 1 := (by omega); exact h1), fun h => by omega, fun _ => ⟨c, rfl, hc.1⟩⟩
   ·exact absurd h.symm hn
  split at h
  ·rename_i hc
   split at h
   ·rename_i h1
    subst h;have := contO_lt h1.1;have := contO_lt h1.2.1;exact ⟨by omega, by omega, fun i h2 h3 => by (rcases (show i = 1 ∨ i = 2 by omega) with rfl | rfl); exact h1.1; exact h1.2.1, fun h => by omega, fun _ => ⟨c, rfl, by omega⟩⟩
   ·exact absurd h.symm hn
  split at h
  ·rename_i hc
   split at h
   ·rename_i h1
    subst h;have := contO_lt h1.1;have := contO_lt h1.2.2.1;exact ⟨by omega, by omega, fun i h2 h3 => by (rcases (show i = 1 ∨ i = 2 ∨ i = 3 by omega) with rfl | rfl | rfl); exact h1.1; exact h1.2.1; exact h1.2.2.1, fun h => by omega, fun _ => ⟨c, rfl, by omega⟩⟩
   ·exact absurd h.symm hn
  ·exact absurd h.symm hn
inductive V : List Int → Prop where
 | nil : V []
 | cons {l : List Int} (h : letterLen l ≠ 0) (r : V (l.drop (letterLen l))) : V l
theorem letterLen_ascii {c : Int} (hc : c < 128) (s : List Int) : letterLen (c :: s) = 1 := by
 unfold letterLen
 simp [hc]
theorem V.ascii {c : Int} (hc : c < 128) {s : List Int} (hs : V s) : V (c :: s) := V.cons (by rw [letterLen_ascii hc]; omega) (by rw [letterLen_ascii hc]; exact hs)
theorem V.behind {c : Int} (hc : c < 128) {s : List Int} (h : V (c :: s)) : V s := by
 cases h with
 | cons hn hr => rw [letterLen_ascii hc] at hr; exact hr
theorem V.split {l a s : List Int} {c : Int} (h : V l) (hl : l = a ++ c :: s) (hc : c < 128) : V a ∧ V (c :: s) := by
 induction h generalizing a with
 | nil => simp at hl
 | @cons l hn hr ih =>
  have hf := letterLen_facts rfl hn
  by_cases ha : a = []
  ·subst ha
   rw [List.nil_append] at hl;exact ⟨.nil, hl ▸ V.cons hn hr⟩
  ·have hal : a.length ≠ 0 := fun h => ha (List.length_eq_zero_iff.1 h)
   by_cases hle : letterLen l ≤ a.length
   ·have he : letterLen a = letterLen l := letterLen_agree rfl hn (fun i hi => by rw [hl, List.getElem?_append_left (by omega)])
    have hd : l.drop (letterLen l) = a.drop (letterLen l) ++ c :: s := by
     have := congrArg (List.drop (letterLen l)) hl;rw [List.drop_append_of_le_length hle] at this;exact this
    obtain ⟨h1, h2⟩ := ih hd;exact ⟨V.cons (by rw [he]; exact hn) (by rw [he]; exact h1), h2⟩
   ·have h1 := hf.2.2.1 a.length (by omega) (by omega)
    rw [hl, List.getElem?_append_right (Nat.le_refl _), Nat.sub_self] at h1
    simp [contO] at h1
    omega
theorem V.at_ {b : List Int} (h : V b) {p : Nat} {c : Int} (hx : b[p]? = some c) (hc : c < 128) : V (b.take p) ∧ V (b.drop p) ∧ V (b.drop (p + 1)) := by
 have hd := drop_some hx
 have hs : b = b.take p ++ c :: b.drop (p + 1) := by rw [← hd, List.take_append_drop]
 obtain ⟨h1, h2⟩ := h.split hs hc;exact ⟨h1, by rw [hd]; exact h2, h2.behind hc⟩
theorem V.encode {n : Int} {l : List Int} (h : encode n = some l) : V l := by
 have key : ∀ l : List Int, letterLen l = l.length → l ≠ [] → V l := fun l h1 h2 => V.cons (by rw [h1]; intro h; exact h2 (List.length_eq_zero_iff.1 h)) (by rw [h1, List.drop_length]; exact .nil)
 unfold Js.encode at h
 split at h
 ·cases h
 rename_i h0
 split at h
 ·rename_i h1
  cases h;exact V.ascii h1 .nil
 rename_i h1
 split at h
 ·rename_i h2
  cases h;refine key _ ?_ (by simp);unfold letterLen;simp only [List.getElem?_cons_zero, List.getElem?_cons_succ];rw [if_neg (by omega), if_pos (by omega), if_pos (by simp [contO]; omega)]
  rfl
 rename_i h2
 split at h
 ·rename_i h3
  cases h;refine key _ ?_ (by simp)
  have hv : val3 [224 + n / 4096, 128 + n / 64 % 64, 128 + n % 64] = n := by
   show (224 + n / 4096) % 16 * 4096 + (128 + n / 64 % 64) % 64 * 64 + (128 + n % 64) % 64 = n
   omega
  unfold letterLen;rw [hv];simp only [List.getElem?_cons_zero, List.getElem?_cons_succ];rw [if_neg (by omega), if_neg (by omega), if_pos (by omega), if_pos (by simp [contO]; omega)]
  rfl
 ·rename_i h3
  cases h;refine key _ ?_ (by simp)
  have hv : val4 [240 + n / 262144, 128 + n / 4096 % 64, 128 + n / 64 % 64, 128 + n % 64] = n := by
   show (240 + n / 262144) % 8 * 262144 + (128 + n / 4096 % 64) % 64 * 4096 + (128 + n / 64 % 64) % 64 * 64 + (128 + n % 64) % 64 = n
   omega
  unfold letterLen;rw [hv];simp only [List.getElem?_cons_zero, List.getElem?_cons_succ];rw [if_neg (by omega), if_neg (by omega), if_neg (by omega), if_pos (by omega), if_pos (by simp [contO]; omega)]
  rfl
end Go.Proofs.YteighppcdpaekaaDoor.Js
end
section
namespace Go.Proofs.YteighppcdpaekaaDoor.Js
open Go.RowKit Go.Proofs.YteighppcdpaekaaDoorW.PrintWords Go.Proofs.YteighppcdpaekaaDoor.P
theorem bits192 : ∀ n : Fin 256, (Go.bits .and .u8 (n.val : Int) 192 == 128) = (decide (128 ≤ (n.val : Int)) && decide ((n.val : Int) ≤ 191)) := by decide +kernel
theorem wrap32_small {n : Int} (h0 : 0 ≤ n) (h1 : n < 2147483648) : wrap32 n = n := by unfold wrap32; omega
theorem wrap64_small {n : Int} (h0 : 0 ≤ n) (h1 : n < 9223372036854775808) : wrap64 n = n := by unfold wrap64; omega
theorem i32_mask {x : Int} (h0 : 0 ≤ x) (h1 : x < 256) : Go.bits .and .i32 x 31 = x % 32 ∧ Go.bits .and .i32 x 15 = x % 16 ∧ Go.bits .and .i32 x 7 = x % 8 :=
 ⟨bits_mask .i32 31 (by decide) wraps_i32 5 (by decide) x h0 (by omega), bits_mask .i32 31 (by decide) wraps_i32 4 (by decide) x h0 (by omega), bits_mask .i32 31 (by decide) wraps_i32 3 (by decide) x h0 (by omega)⟩
theorem bits3 {x y z : Int} (hx0 : 0 ≤ x) (hx1 : x < 256) (hy0 : 0 ≤ y) (hy1 : y < 256) (hz0 : 0 ≤ z) (hz1 : z < 256) :
  Go.bits .or .i32 (Go.bits .or .i32 (wrap32 ((Go.bits .and .i32 x 15) * 4096)) (wrap32 ((wrap32 (Go.bits .and .u8 y 63)) * 64))) (wrap32 (Go.bits .and .u8 z 63)) = (x % 16) * 4096 + (y % 64) * 64 + z % 64 := by
 rw [(i32_mask hx0 hx1).2.1, u8_and63 y hy0 hy1, u8_and63 z hz0 hz1, wrap32_small (by omega) (by omega), wrap32_small (n := y % 64) (by omega) (by omega), wrap32_small (by omega) (by omega), wrap32_small (by omega) (by omega),
  i32_or12 (x % 16 * 4096) (y % 64 * 64) (by omega) (by omega) (by omega) (by omega) (by omega), i32_or6 (x % 16 * 4096 + y % 64 * 64) (z % 64) (by omega) (by omega) (by omega) (by omega) (by omega)]
theorem bits4 {x y z u : Int} (hx0 : 0 ≤ x) (hx1 : x < 256) (hy0 : 0 ≤ y) (hy1 : y < 256) (hz0 : 0 ≤ z) (hz1 : z < 256) (hu0 : 0 ≤ u) (hu1 : u < 256) :
  Go.bits .or .i32 (Go.bits .or .i32 (Go.bits .or .i32 (wrap32 ((Go.bits .and .i32 x 7) * 262144)) (wrap32 ((wrap32 (Go.bits .and .u8 y 63)) * 4096))) (wrap32 ((wrap32 (Go.bits .and .u8 z 63)) * 64))) (wrap32 (Go.bits .and .u8 u 63)) = (x % 8) * 262144 + (y % 64) * 4096 + (z % 64) * 64 + u % 64 := by
 rw [(i32_mask hx0 hx1).2.2, u8_and63 y hy0 hy1, u8_and63 z hz0 hz1, u8_and63 u hu0 hu1, wrap32_small (by omega) (by omega), wrap32_small (n := y % 64) (by omega) (by omega), wrap32_small (by omega) (by omega), wrap32_small (n := z % 64) (by omega) (by omega), wrap32_small (by omega) (by omega), wrap32_small (by omega) (by omega),
  i32_or18 (x % 8 * 262144) (y % 64 * 4096) (by omega) (by omega) (by omega) (by omega) (by omega), i32_or12 (x % 8 * 262144 + y % 64 * 4096) (z % 64 * 64) (by omega) (by omega) (by omega) (by omega) (by omega), i32_or6 (x % 8 * 262144 + y % 64 * 4096 + z % 64 * 64) (u % 64) (by omega) (by omega) (by omega) (by omega) (by omega)]
theorem rd_bytes {l : List Int} (hb : Bytes l) (i : Int) : 0 ≤ rd l i ∧ rd l i < 256 := by
 unfold rd;rw [List.getD_eq_getElem?_getD]
 cases h : l[i.toNat]? with
 | none => simp
 | some c => have := hb c (List.mem_of_getElem? h); simp; omega
theorem more_val {l : List Int} (hb : Bytes l) (i : Nat) : utf_more.f l (i : Int) = some (contO l[i]?) := by
 unfold utf_more.f;by_cases h : (i : Int) < (l.length : Int)
 ·rw [if_pos h, if_pos (by omega)]
  obtain ⟨c, hc⟩ : ∃ c, l[i]? = some c := ⟨_, List.getElem?_eq_getElem (by omega)⟩
  have hr : rd l (i : Int) = c := rd_of hc;obtain ⟨h0, h1⟩ := rd_bytes hb (i : Int);rw [hr] at h0 h1 ⊢;have := bits192 ⟨c.toNat, by omega⟩;simp only [Int.toNat_of_nonneg h0] at this;rw [this, hc]
  rfl
 ·rw [if_neg h, at_none (by omega)]
  rfl
theorem letter_val {l : List Int} (hb : Bytes l) (hl : l.length ≤ 100000000000) {p : Nat} (hp : p < l.length) (k : Nat) : ∃ r, utf_letter.f (k + 3) l (p : Int) = some (r, (letterLen (l.drop p) : Int)) := by
 obtain ⟨c, hc⟩ : ∃ c, l[p]? = some c := ⟨_, List.getElem?_eq_getElem hp⟩
 have hr : rd l (p : Int) = c := rd_of hc;obtain ⟨h0, h1⟩ := rd_bytes hb (p : Int);rw [hr] at h0 h1
 have hd : ∀ i : Nat, (l.drop p)[i]? = l[p + i]? := fun i => List.getElem?_drop
 have hrd : ∀ i : Nat, rd (l.drop p) (i : Int) = rd l ((p + i : Nat) : Int) := fun i => by
  unfold rd;rw [List.getD_eq_getElem?_getD, List.getD_eq_getElem?_getD, Int.toNat_natCast, Int.toNat_natCast, hd]
 have w1 : wrap64 ((p : Int) + 1) = ((p + 1 : Nat) : Int) := by rw [wrap64_small (by omega) (by omega)]; omega
 have w2 : wrap64 ((p : Int) + 2) = ((p + 2 : Nat) : Int) := by rw [wrap64_small (by omega) (by omega)]; omega
 have w3 : wrap64 ((p : Int) + 3) = ((p + 3 : Nat) : Int) := by rw [wrap64_small (by omega) (by omega)]; omega
 have m1 := more_val hb (p + 1);have m2 := more_val hb (p + 2);have m3 := more_val hb (p + 3)
 have f2 : ∀ j, utf_letter.j2 (j + 1) l (p : Int) c false = some (0, 0) := fun j => by simp [utf_letter.j2]
 have f1 : ∀ j, ¬ (240 ≤ c ∧ c ≤ 244) → utf_letter.j1 (j + 2) l (p : Int) c false = some (0, 0) := fun j h => by
  simp only [utf_letter.j1];rw [if_neg (by simp)];by_cases h240 : c ≥ 240
  ·rw [if_pos h240, if_neg (by omega), f2]
  ·rw [if_neg h240, f2]
 have f0 : ∀ j, ¬ (224 ≤ c ∧ c ≤ 239) → utf_letter.j0 (j + 1) l (p : Int) c false = utf_letter.j1 j l (p : Int) c false := fun j h => by
  simp only [utf_letter.j0];rw [if_neg (by simp)];by_cases h224 : c ≥ 224
  ·rw [if_pos h224, if_neg (by omega)]
  ·rw [if_neg h224]
 have inn : ∀ i : Nat, contO l[p + i]? = true → ((p + i : Nat) : Int) < (l.length : Int) := fun i h => by have := contO_lt h; omega
 unfold utf_letter.f letterLen;rw [show (l.drop p)[0]? = some c from (hd 0).trans hc, hr, wrap32_small h0 (by omega), if_pos (by omega), if_pos (by omega), hd, hd, hd, w1, m1];simp only;by_cases c1 : c < 128
 ·rw [if_pos c1, if_pos c1]; exact ⟨_, rfl⟩
 rw [if_neg c1, if_neg c1];by_cases c2 : 194 ≤ c ∧ c ≤ 223
 ·rw [if_pos c2, if_pos c2.1, if_pos c2.2]
  simp only [Option.bind_some]
  cases hx : contO l[p + 1]? with
  | false => rw [f0 _ (by omega), f1 _ (by omega), if_neg (by simp)]; exact ⟨_, rfl⟩
  | true =>
   simp only [utf_letter.j0];rw [if_pos (by trivial), w1, if_pos (by omega), if_pos (inn 1 hx), if_pos (by trivial)];exact ⟨_, rfl⟩
 rw [if_neg c2]
 have hj : (if c ≥ 194 then (if c ≤ 223 then ((some (contO l[p + 1]?)).bind fun t103 => utf_letter.j0 (k + 3) l (p : Int) c t103) else utf_letter.j0 (k + 3) l (p : Int) c false) else utf_letter.j0 (k + 3) l (p : Int) c false) = utf_letter.j0 (k + 3) l (p : Int) c false := by
  by_cases h194 : c ≥ 194
  ·rw [if_pos h194, if_neg (by omega)]
  ·rw [if_neg h194]
 rw [hj];by_cases c3 : 224 ≤ c ∧ c ≤ 239
 ·rw [if_pos c3]
  simp only [utf_letter.j0];rw [if_neg (by simp), if_pos c3.1, if_pos c3.2, w1, m1];simp only [Option.bind_some]
  cases hx : contO l[p + 1]? with
  | false => rw [if_neg (by simp), f1 _ (by omega), if_neg (by simp)]; exact ⟨_, rfl⟩
  | true =>
   rw [if_pos (by trivial), w2, m2];simp only [Option.bind_some]
   cases hy : contO l[p + 2]? with
   | false => rw [f1 _ (by omega), if_neg (by simp)]; exact ⟨_, rfl⟩
   | true =>
    obtain ⟨a0, a1⟩ := rd_bytes hb ((p + 1 : Nat) : Int);obtain ⟨b0, b1⟩ := rd_bytes hb ((p + 2 : Nat) : Int)
    have hv : val3 (l.drop p) = (c % 16) * 4096 + (rd l ((p + 1 : Nat) : Int) % 64) * 64 + rd l ((p + 2 : Nat) : Int) % 64 := by
     have e0 : rd (l.drop p) 0 = c := (hrd 0).trans hr;have e1 : rd (l.drop p) 1 = rd l ((p + 1 : Nat) : Int) := hrd 1;have e2 : rd (l.drop p) 2 = rd l ((p + 2 : Nat) : Int) := hrd 2;unfold val3; rw [e0, e1, e2]
    simp only [utf_letter.j1];rw [if_pos (by trivial), w1, w2, bits3 h0 h1 a0 a1 b0 b1, ← hv, if_pos (by omega), if_pos (inn 1 hx), if_pos (by omega), if_pos (inn 2 hy)];by_cases v1 : val3 (l.drop p) ≥ 2048
    ·rw [if_pos v1]
     by_cases v2 : val3 (l.drop p) < 55296
     ·rw [if_pos v2, if_pos ⟨by trivial, by trivial, v1, .inl v2⟩]; exact ⟨_, rfl⟩
     ·rw [if_neg v2]
      by_cases v3 : val3 (l.drop p) > 57343
      ·rw [if_pos v3, if_pos ⟨by trivial, by trivial, v1, .inr v3⟩]; exact ⟨_, rfl⟩
      ·rw [if_neg v3, if_neg (by omega)]; exact ⟨_, rfl⟩
    ·rw [if_neg v1, if_neg (by omega)]; exact ⟨_, rfl⟩
 rw [if_neg c3, f0 _ c3];by_cases c4 : 240 ≤ c ∧ c ≤ 244
 ·rw [if_pos c4]
  simp only [utf_letter.j1];rw [if_neg (by simp), if_pos c4.1, if_pos c4.2, w1, m1];simp only [Option.bind_some]
  cases hx : contO l[p + 1]? with
  | false => rw [if_neg (by simp), f2, if_neg (by simp)]; exact ⟨_, rfl⟩
  | true =>
   rw [if_pos (by trivial), w2, m2];simp only [Option.bind_some]
   cases hy : contO l[p + 2]? with
   | false => rw [if_neg (by simp), f2, if_neg (by simp)]; exact ⟨_, rfl⟩
   | true =>
    rw [if_pos (by trivial), w3, m3];simp only [Option.bind_some]
    cases hz : contO l[p + 3]? with
    | false => rw [f2, if_neg (by simp)]; exact ⟨_, rfl⟩
    | true =>
     obtain ⟨a0, a1⟩ := rd_bytes hb ((p + 1 : Nat) : Int);obtain ⟨b0, b1⟩ := rd_bytes hb ((p + 2 : Nat) : Int);obtain ⟨d0, d1⟩ := rd_bytes hb ((p + 3 : Nat) : Int)
     have hv : val4 (l.drop p) = (c % 8) * 262144 + (rd l ((p + 1 : Nat) : Int) % 64) * 4096 + (rd l ((p + 2 : Nat) : Int) % 64) * 64 + rd l ((p + 3 : Nat) : Int) % 64 := by
      have e0 : rd (l.drop p) 0 = c := (hrd 0).trans hr;have e1 : rd (l.drop p) 1 = rd l ((p + 1 : Nat) : Int) := hrd 1;have e2 : rd (l.drop p) 2 = rd l ((p + 2 : Nat) : Int) := hrd 2;have e3 : rd (l.drop p) 3 = rd l ((p + 3 : Nat) : Int) := hrd 3;unfold val4; rw [e0, e1, e2, e3]
     simp only [utf_letter.j2];rw [if_pos (by trivial), w1, w2, w3, bits4 h0 h1 a0 a1 b0 b1 d0 d1, ← hv, if_pos (by omega), if_pos (inn 1 hx), if_pos (by omega), if_pos (inn 2 hy), if_pos (by omega), if_pos (inn 3 hz)];by_cases v1 : val4 (l.drop p) ≥ 65536
     ·rw [if_pos v1]
      by_cases v2 : val4 (l.drop p) ≤ 1114111
      ·rw [if_pos v2, if_pos ⟨by trivial, by trivial, by trivial, v1, v2⟩]; exact ⟨_, rfl⟩
      ·rw [if_neg v2, if_neg (by omega)]; exact ⟨_, rfl⟩
     ·rw [if_neg v1, if_neg (by omega)]; exact ⟨_, rfl⟩
 ·rw [if_neg c4, f1 _ c4]; exact ⟨_, rfl⟩
theorem V.inv {m : List Int} (h : V m) (hm : m ≠ []) : letterLen m ≠ 0 ∧ V (m.drop (letterLen m)) := by
 cases h with
 | nil => exact absurd rfl hm
 | cons h r => exact ⟨h, r⟩
theorem valid_from {l : List Int} (hb : Bytes l) (hl : l.length ≤ 100000000000) : ∀ n p : Nat, l.length - p ≤ n → p ≤ l.length → ∃ x e, utf_Valid.l0 (n + 4) l (p : Int) = some (x, e) ∧ (e = 0 ∨ e = 10) ∧ (e = 0 ↔ V (l.drop p)) ∧ (e = 0 → x = 0) := by
 intro n
 induction n with
 | zero =>
  intro p h hp;refine ⟨0, 0, ?_, .inl rfl, ?_, fun _ => rfl⟩
  ·simp only [utf_Valid.l0]; rw [if_neg (by omega)]
  ·rw [List.drop_eq_nil_of_le (by omega)]; exact ⟨fun _ => .nil, fun _ => rfl⟩
 | succ n ih =>
  intro p h hp;by_cases hlt : p < l.length
  ·obtain ⟨r, hr⟩ := letter_val hb hl hlt (n + 1)
   have hne : l.drop p ≠ [] := by simp; omega
   have hstep : utf_Valid.l0 (n + 1 + 4) l (p : Int) = (utf_letter.f (n + 1 + 3) l (p : Int)).bind fun bt115 => (if bt115.2 = 0 then (some ((p : Int), 10)) else (utf_Valid.l0 (n + 4) l (wrap64 ((p : Int) + bt115.2)))) := by
    rw [show n + 1 + 4 = (n + 4) + 1 by omega];simp only [utf_Valid.l0];rw [if_pos (by omega)]
   by_cases hn : letterLen (l.drop p) = 0
   ·refine ⟨(p : Int), 10, ?_, .inr rfl, ?_, fun h => absurd h (by decide)⟩
    ·rw [hstep, hr, hn]; rfl
    ·exact ⟨fun h => absurd h (by decide), fun hv => absurd hn (hv.inv hne).1⟩
   ·have hf := (letterLen_facts rfl hn).1
    have hle : p + letterLen (l.drop p) ≤ l.length := by have := hf; simp at this; omega
    obtain ⟨x, e, h1, h2, h3, h4⟩ := ih (p + letterLen (l.drop p)) (by omega) hle;refine ⟨x, e, ?_, h2, ?_, h4⟩
    ·rw [hstep, hr]
     simp only [Option.bind_some];rw [if_neg (by omega), wrap64_small (by omega) (by omega)];rw [show (p : Int) + (letterLen (l.drop p) : Int) = ((p + letterLen (l.drop p) : Nat) : Int) by omega];exact h1
    ·rw [h3, ← List.drop_drop]
     exact ⟨fun h => V.cons hn h, fun hv => (hv.inv hne).2⟩
  ·refine ⟨0, 0, ?_, .inl rfl, ?_, fun _ => rfl⟩
   ·rw [show n + 1 + 4 = (n + 4) + 1 by omega]; simp only [utf_Valid.l0]; rw [if_neg (by omega)]
   ·rw [List.drop_eq_nil_of_le (by omega)]; exact ⟨fun _ => .nil, fun _ => rfl⟩
theorem valid_all {l : List Int} (hb : Bytes l) (hl : l.length ≤ 100000000000) {k : Nat} (hk : l.length + 4 ≤ k) : ∃ x e, utf_Valid.f k l = some (x, e) ∧ (e = 0 ∨ e = 10) ∧ (e = 0 ↔ V l) ∧ (e = 0 → x = 0) := by
 obtain ⟨x, e, h1, h2, h3, h4⟩ := valid_from hb hl l.length 0 (by omega) (by omega);exact ⟨x, e, at_rounds (fun j => utf_Valid.mono l j) hk h1, h2, h3, h4⟩
theorem valid_ok {l : List Int} (hb : Bytes l) (hl : l.length ≤ 100000000000) (hv : V l) {k : Nat} (hk : l.length + 4 ≤ k) : utf_Valid.f k l = some (0, 0) := by
 obtain ⟨x, e, h1, h2, h3, h4⟩ := valid_all hb hl hk;have h5 := h3.2 hv;rw [h1, h5, h4 h5]
end Go.Proofs.YteighppcdpaekaaDoor.Js
end
