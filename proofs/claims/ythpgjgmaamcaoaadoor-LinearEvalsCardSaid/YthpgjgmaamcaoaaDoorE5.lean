/- Walks and words of this session, put together by a program of this session (pack.py). Conditions: as each text says. -/
import Derived.Deep.Light
import Derived.StillTail
import Derived.Test.YthpgjgmaamcaoaaDoorE1
import Derived.Test.YthpgjgmaamcaoaaDoorE4
set_option linter.unusedVariables false
set_option linter.unusedSimpArgs false
section
namespace Go.Proofs.YthpgjgmaamcaoaaDoor.P
open Go.RowKit Go.Shelf Go.Proofs.YthpgjgmaamcaoaaDoorW.PrintWords Go.Proofs.YthpgjgmaamcaoaaDoorW.PrintLast Go.Proofs.YthpgjgmaamcaoaaDoorW.PrintMore Go.Proofs.YthpgjgmaamcaoaaDoor.Nm
set_option maxRecDepth 100000
set_option linter.unusedVariables false
set_option linter.unusedSimpArgs false
theorem sl_insertion.tab6 : tabOf (opsOf Tryd.f100 6) = ([some 37, some 38, some 39, some 40, some 41, some 42, some 43, some 44, some 45, some 46, some 47, some 48, some 49, some 50, some 51, none, some 52, none], [[], [], [], [], [3], [], [], [6], [5, 7], [8], [], [], [10, 11], [12], [0, 1, 0, 1, 5, 6, 7, 8, 9, 13], [14, 9, 0, 1, 5, 6, 7, 8, 9, 13], [2, 4, 0, 1, 2, 3, 4, 5, 6, 7, 8, 9, 10, 11, 12, 13, 14, 15], [16, 13, 15, 0, 1, 2, 3, 4, 5, 6, 7, 8, 9, 10, 11, 12, 13, 14, 15]]) := by kernel_rfl
set_option maxHeartbeats 3200000 in
theorem sl_insertion (g cap a b N : Nat) (P M Q : List El) (w : World) (hO : Own3 g w (P ++ M ++ Q)) (hN : N = (P ++ M ++ Q).length) (hl : N ≤ 1000) (ha : a = P.length) (hb : b = P.length + M.length) :
  Calls Tryd.prog 100 #[.slice (some ⟨g, 0, none⟩) N cap, .int .i64 a, .int .i64 b, .func (.func 48) #[] #[]] w (SPost g w (fun l => Srt.Mrg El.v P M Q l)) := by
 have hN' : N = P.length + M.length + Q.length := by rw [hN]; simp; omega
 cases hM : M with
 | nil =>
  have e : b = a := by rw [hM] at hb; simp at hb; omega
  subst e;have hO := Sdq.mk hO
  have c1 : ¬ ((b : Int) + 1 < (b : Int)) := by omega
  have b1000 : b ≤ 1000 := by omega
  clear hN ha hb hN';go_enter Tryd.func100, Tryd.ntmps100
  go_wp2_with fail
  go_loopg [8] 0 (fun gk s8 wr => s8 = .int .i64 ((b : Int) + 1) ∧ wr = w)
  case atStart => exact ⟨by go_num, rfl⟩
  case round =>
   obtain ⟨rfl, rfl⟩ := hrel;go_wp2
   go_end0
   exact ⟨rfl, _, ⟨[], by rw [hM], List.Perm.refl _, Srt.Up.nil⟩, hO.out, Kbt.refl _ _ _, Below.refl _ _⟩
 | cons x0 M' =>
  rw [hM] at hO hb hN';clear hM hN;have hO := Sdq.mk hO;have E := Sdq.mk (And.intro hN' (And.intro ha hb))
  have ha1 : a + 1 ≤ 1000 ∧ b ≤ 1000 := by simp at hN' hb; omega
  clear hN' ha hb;go_enter Tryd.func100, Tryd.ntmps100
  go_wp2_with fail
  go_loopg [8] M'.length (fun gk s8 wr => ∃ (i : Nat) (S T R l : List El), gk = R.length ∧ s8 = .int .i64 (i : Int) ∧ Sdq (i = a + S.length ∧ i ≤ b ∧ i + gk = b ∧ x0 :: M' = T ++ R ∧ S.Perm T ∧ Srt.Up El.v S ∧ l = P ++ S ++ R ++ Q) ∧ Sdq (Own3 g wr l) ∧ Sdq (Kbt w wr g none ∧ Below g w wr))
  case atStart => exact ⟨a + 1, [x0], [x0], M', _, rfl, by go_num, ⟨rfl, by have := E.out.2.2; have := E.out.2.1; simp at *; omega, by have := E.out.2.2; have := E.out.2.1; simp at *; omega, rfl, List.Perm.refl _, Srt.Up.one _, rfl⟩, ⟨by simpa using hO.out⟩, ⟨Kbt.refl _ _ _, Below.refl _ _⟩⟩
  case round =>
   clear hO;obtain ⟨i, S, T, R, l, hg, rfl, hI, hO, hK⟩ := hrel;obtain ⟨h1, h2, h3, h4, h5, h6, h7⟩ := hI.out
   cases R with
   | nil =>
    obtain rfl : i = b := by simp at hg; omega
    have HE := Sdq.mk (show Srt.Mrg El.v P (x0 :: M') Q l from ⟨S, by rw [h7]; simp, by rw [h4]; simpa using h5, h6⟩);clear h1 h2 h3 h4 h5 h6 h7 hI hg;go_wp2
    go_end0
    exact ⟨rfl, l, HE.out, hO.out, hK.out.1, hK.out.2⟩
   | cons y R' =>
    have hib : i < b := by simp at hg; omega
    obtain rfl : gk = R'.length + 1 := by simpa using hg
    have hT := Sdq.mk (show Srt.Thr P y S (R' ++ Q) S.length l by rw [h7]; simp [Srt.Thr]);have hS := Sdq.mk (And.intro h4 (And.intro h5 (And.intro h6 (And.intro h1 h3))));clear h1 h2 h3 h4 h5 h6 h7 hI
    go_wp2_with fail
    go_loopg [9] S.length (fun gk s9 wr => ∃ (j : Nat) (l : List El), s9 = .int .i64 (j : Int) ∧ Sdq (j = a + gk ∧ gk ≤ S.length ∧ Srt.Thr P y S (R' ++ Q) gk l ∧ ∀ z ∈ S.drop gk, y.v < z.v) ∧ Sdq (Own3 g wr l) ∧ Sdq (Kbt w wr g none ∧ Below g w wr))
    case atStart => exact ⟨i, l, rfl, ⟨hS.out.2.2.2.1, Nat.le_refl _, hT.out, fun z hz => by simp at hz⟩, hO, hK⟩
    case round =>
     clear hT hO hK;obtain ⟨j, l, rfl, hT, hO, hK⟩ := hrel;obtain ⟨h1, h2, h3, h4⟩ := hT.out
     cases gk with
     | zero =>
      obtain rfl : j = a := by omega
      have HE := Sdq.mk (show Srt.Up El.v (S.take 0 ++ y :: S.drop 0) ∧ (S.take 0 ++ y :: S.drop 0).Perm (T ++ [y]) ∧ l = P ++ (S.take 0 ++ y :: S.drop 0) ++ R' ++ Q from ⟨Srt.lt_le hS.out.2.2.1 (by omega) h4 (.inl rfl), (Srt.perm_one' 0).trans (hS.out.2.1.append_right _), by rw [h3.ins]; simp⟩);have hlen := Sdq.mk (show (S.take 0 ++ y :: S.drop 0).length = S.length + 1 by simp);generalize S.take 0 ++ y :: S.drop 0 = S2 at HE hlen;clear h1 h2 h3 h4 hT
      go_wp2_with fail
      refine wp_region_ws 14 (by kernel_rfl) (by kernel_rfl) ?_;simp only [List.take_succ_cons, List.take_zero, List.drop_succ_cons, List.drop_zero]
      repeat (refine ws_step (fun K hK => ?_); go_simp; refine hK _ ?_; clear hK K)
      refine ws_nil ?_
      go_wp2_with fail
      go_roundg R'.length
      case measure => go_light; omega
      case rel => go_light; exact ⟨i + 1, S2, T ++ [y], R', l, rfl, by go_num, ⟨by have := hS.out.2.2.2.1; have := hlen.out; omega, by omega, by have := hS.out.2.2.2.2; omega, by rw [hS.out.1]; simp, HE.out.2.1, HE.out.1, HE.out.2.2⟩, ⟨hO.out.below (below_drew (Below.refl _ _))⟩, ⟨hK.out.1.trans (Kbt.of_below (below_drew (Below.refl _ _)) g none) (.inl rfl), hK.out.2.trans (below_drew (Below.refl _ _))⟩⟩
     | succ q =>
      obtain ⟨s, es⟩ : ∃ s, s = a + q := ⟨_, rfl⟩
      obtain rfl : j = s + 1 := by omega
      have hln := h3.len h2;have hPa := E.out;obtain ⟨iy, ey⟩ := h3.at_x (k := s + 1) h2 (by omega);obtain ⟨iz, ir, ez⟩ := h3.at_lo (k := s) (j := q) (by omega) h2 (by omega)
      obtain ⟨z, zE⟩ : ∃ z, z = S[q] := ⟨_, rfl⟩
      rw [← zE] at ez;have y0 := hO.out.at0 iy;have y1 := hO.out.at1 iy;have y2 := hO.out.at2 iy;have z0 := hO.out.at0 iz;have z1 := hO.out.at1 iz;have z2 := hO.out.at2 iz;rw [ey] at y0 y1 y2;rw [ez] at z0 z1 z2
      have hsN : s + 1 < N := by
       have h8 := hS.out.1;have h9 := congrArg List.length h8;have h10 := hS.out.2.1.length_eq
       simp at h9 hPa
       omega
      have n1 : 0 ≤ (s : Int) + 1 ∧ (s : Int) + 1 < (N : Int) := by omega
      have t1 : ((s : Int) + 1).toNat = s + 1 := by omega
      have n2 : (s : Int) < (N : Int) := by omega
      have hsa : (a : Int) < (s : Int) + 1 := by omega
      have s1000 : s ≤ 1000 := by omega
      have s2 : s ≤ 100000 := by omega
      obtain ⟨r, hr⟩ : ∃ r, r = sgn (y.v - z.v) := ⟨_, rfl⟩
      have hcmp := fun W => sort_by y.v z.v (.bool y.b) (.slice y.A y.n y.c) (.bool z.b) (.slice z.A z.n z.c) W
      rw [← hr] at hcmp;have hst := hO.out.lt;by_cases hyz : y.v < z.v
      ·have hr0 : r < 0 := by rw [hr, sgn_lt (by omega)]; decide
       clear hr;obtain ⟨i1, i2, hnx⟩ := h3.dn (k := s) (by omega) (by omega);have hgt := Sdq.mk (show s = a + q ∧ q ≤ S.length ∧ ∀ z ∈ S.drop q, y.v < z.v from ⟨es, by omega, Srt.drop_one (by omega) h4 (by rw [← zE]; exact hyz)⟩);clear h1 h2 h3 h4 hT ez ey zE es hPa hln hyz iy iz ir;have xs := x64 s2;have ws := w64 (n := s) rfl s2
       go_wp2_with fail
       refine wp_region_ws 14 (by kernel_rfl) (by kernel_rfl) ?_;simp only [List.take_succ_cons, List.take_zero, List.drop_succ_cons, List.drop_zero]
       repeat (refine ws_step (fun K hK => ?_); go_simp; refine hK _ ?_; clear hK K)
       refine ws_nil ?_
       go_upto_region 6 with (go_at_call 48; refine (hcmp _).mono ?_; rintro e w2 ⟨rfl, hb2⟩)
       clear y0 y1 y2 z0 z1 z2;have hbw : Below wr.heap.size wr w2 := below_step (below_drew (Below.refl _ _)) hb2;have hO := Sdq.mk (hO.out.below hbw);have hK := Sdq.mk (show Kbt w w2 g none ∧ Below g w w2 from ⟨hK.out.1.trans (Kbt.of_below hbw g none) (.inl rfl), hK.out.2.trans (hbw.mono (Nat.le_of_lt hst))⟩);clear hb2 hbw hcmp hr0;clear hst
       obtain ⟨ea, eaE⟩ : ∃ e, e = l[s + 1] := ⟨_, rfl⟩
       obtain ⟨eb, ebE⟩ : ∃ e, e = l[s] := ⟨_, rfl⟩
       rw [← eaE, ← ebE] at hnx
       obtain ⟨X0, X0e⟩ : ∃ X, X = { w2 with drawn := w2.drawn + 1 } := ⟨_, rfl⟩
       have hb0 : Below w2.heap.size w2 X0 := by rw [X0e]; exact below_drew (Below.refl _ _)
       have O0 := hO.out.below hb0
       obtain ⟨X1, X1e⟩ : ∃ X, X = put3 X0 g (s + 1) eb := ⟨_, rfl⟩
       obtain ⟨X2, X2e⟩ : ∃ X, X = put3 X1 g (s) ea := ⟨_, rfl⟩
       have O1 : Own3 g X1 (l.set (s + 1) eb) := by rw [X1e]; exact O0.put i1 eb
       have j2 : s < (l.set (s + 1) eb).length := by rw [List.length_set]; exact i2
       have O2 : Own3 g X2 ((l.set (s + 1) eb).set (s) ea) := by rw [X2e]; exact O1.put j2 ea
       have HA := Sdq.mk (And.intro (O0.at0 i1) (And.intro (O0.at1 i1) (O0.at2 i1)));have HB := Sdq.mk (And.intro (O0.at0 i2) (And.intro (O0.at1 i2) (O0.at2 i2)));rw [← eaE] at HA;rw [← ebE] at HB;have HP := Sdq.mk (And.intro (O0.at0 i1) (And.intro (O0.at1 i1) (O0.at2 i1)));have HQ := Sdq.mk (And.intro (O1.at0 j2) (And.intro (O1.at1 j2) (O1.at2 j2)));generalize (l.set (s + 1) eb)[s] = eq_ at HQ;generalize l[s + 1] = ep_ at HP;have FP := Sdq.mk (And.intro (O0.free ((s + 1) * 3)) (And.intro (O0.free ((s + 1) * 3 + 1)) (O0.free ((s + 1) * 3 + 2))));have FQ := Sdq.mk (And.intro (O1.free ((s) * 3)) (And.intro (O1.free ((s) * 3 + 1)) (O1.free ((s) * 3 + 2))));have HEND := Sdq.mk (And.intro O2 (And.intro (show Kbt w X2 g none by rw [X2e, X1e]; exact keep_put3 (keep_put3 (hK.out.1.trans (Kbt.of_below hb0 g none) (.inl rfl)) _ _) _ _) (show Below g w X2 by rw [X2e, X1e]; exact below_put3 (below_put3 (hK.out.2.trans (hb0.mono (by have := hO.out.lt; omega))) _ _) _ _)));have HNX := Sdq.mk hnx;have X0E := Sdq.mk X0e;have X1E := Sdq.mk X1e;have X2E := Sdq.mk X2e;clear hb0 O0 O1 O2 hO hK eaE ebE j2 hnx X0e X1e X2e;refine wpIn_wide.1 (flowIn (n := 3) (m := 18) sl_insertion.tab6 rfl (fun l w => ((l 17 = true → l 15 = true) ∧ (l 15 = true → l 9 = true ∧ l 13 = true)) ∧ w = if l 17 = true then X2 else if l 15 = true then X1 else X0) (fun ix_ => (#[.slice (some ⟨g, 0, none⟩) N cap, .int .i64 ((s : Int) + 1), .slice (some ⟨g, 0, none⟩) N cap, .int .i64 ((s : Int) + 1), .int .i64 ((s : Int)), .slice (some ⟨g, 0, none⟩) N cap, .int .i64 ((s : Int) + 1), .int .i64 ((s : Int)), .pointer (some ⟨g, s * 3, none⟩), .agg #[.int .i64 eb.v, .bool eb.b, .slice eb.A eb.n eb.c], .slice (some ⟨g, 0, none⟩) N cap, .int .i64 ((s : Int) + 1), .pointer (some ⟨g, (s + 1) * 3, none⟩), .agg #[.int .i64 ea.v, .bool ea.b, .slice ea.A ea.n ea.c], .pointer (some ⟨g, (s + 1) * 3, none⟩), undef, .pointer (some ⟨g, s * 3, none⟩), undef] : Array Value).getD ix_ undef) rfl (by kernel_rfl) (fun l l' w hl h => by rw [← hl 9 (by decide), ← hl 13 (by decide), ← hl 15 (by decide), ← hl 17 (by decide)]; exact h) ⟨by simp, by rw [X0E.out]; rfl⟩ ⟨⟨⟨⟨⟨⟨⟨⟨⟨⟨⟨⟨⟨⟨⟨⟨⟨⟨trivial, ?_⟩, ?_⟩, ?_⟩, ?_⟩, ?_⟩, ?_⟩, ?_⟩, ?_⟩, ?_⟩, ?_⟩, ?_⟩, ?_⟩, ?_⟩, ?_⟩, ?_⟩, ?_⟩, ?_⟩, ?_⟩ ?_)
       ·refine AtIn.of _ rfl rfl (fun lq ac w hC hli hd hb K hK => ?_)
        have b0 : ac.tmps[0]? = some (.slice (some ⟨g, 0, none⟩) N cap) := hb 0 (by decide);have hk := hK.out w (by simpa using hC);clear hK hC hd hb HEND HNX X0E X1E X2E hgt
        go_simp
        first | exact hk | simpa using hk
       ·refine AtIn.of _ rfl rfl (fun lq ac w hC hli hd hb K hK => ?_)
        have b9 : ac.tmps[9]? = some (.int .i64 ((s : Int) + 1)) := hb 9 (by decide);have hk := hK.out w (by simpa using hC);clear hK hC hd hb HEND HNX X0E X1E X2E hgt
        go_simp
        first | exact hk | simpa using hk
       ·refine AtIn.of _ rfl rfl (fun lq ac w hC hli hd hb K hK => ?_)
        have b0 : ac.tmps[0]? = some (.slice (some ⟨g, 0, none⟩) N cap) := hb 0 (by decide);have hk := hK.out w (by simpa using hC);clear hK hC hd hb HEND HNX X0E X1E X2E hgt
        go_simp
        first | exact hk | simpa using hk
       ·refine AtIn.of _ rfl rfl (fun lq ac w hC hli hd hb K hK => ?_)
        have b9 : ac.tmps[9]? = some (.int .i64 ((s : Int) + 1)) := hb 9 (by decide);have hk := hK.out w (by simpa using hC);clear hK hC hd hb HEND HNX X0E X1E X2E hgt
        go_simp
        first | exact hk | simpa using hk
       ·refine AtIn.of _ rfl rfl (fun lq ac w hC hli hd hb K hK => ?_)
        have q40 : ac.tmps[40]? = some (.int .i64 ((s : Int) + 1)) := (hd 3 (by decide)).2 40 rfl;have hk := hK.out w (by simpa using hC);clear hK hC hd hb HEND HNX X0E X1E X2E hgt
        go_simp
        first | exact hk | simpa using hk
       ·refine AtIn.of _ rfl rfl (fun lq ac w hC hli hd hb K hK => ?_)
        have b0 : ac.tmps[0]? = some (.slice (some ⟨g, 0, none⟩) N cap) := hb 0 (by decide);have hk := hK.out w (by simpa using hC);clear hK hC hd hb HEND HNX X0E X1E X2E hgt
        go_simp
        first | exact hk | simpa using hk
       ·refine AtIn.of _ rfl rfl (fun lq ac w hC hli hd hb K hK => ?_)
        have b9 : ac.tmps[9]? = some (.int .i64 ((s : Int) + 1)) := hb 9 (by decide);have hk := hK.out w (by simpa using hC);clear hK hC hd hb HEND HNX X0E X1E X2E hgt
        go_simp
        first | exact hk | simpa using hk
       ·refine AtIn.of _ rfl rfl (fun lq ac w hC hli hd hb K hK => ?_)
        have q43 : ac.tmps[43]? = some (.int .i64 ((s : Int) + 1)) := (hd 6 (by decide)).2 43 rfl;have hk := hK.out w (by simpa using hC);clear hK hC hd hb HEND HNX X0E X1E X2E hgt
        go_simp
        first | exact hk | simpa using hk
       ·refine AtIn.of _ rfl rfl (fun lq ac w hC hli hd hb K hK => ?_)
        have q42 : ac.tmps[42]? = some (.slice (some ⟨g, 0, none⟩) N cap) := (hd 5 (by decide)).2 42 rfl;have q44 : ac.tmps[44]? = some (.int .i64 ((s : Int))) := (hd 7 (by decide)).2 44 rfl;have hk := hK.out w (by simpa using hC);clear hK hC hd hb HEND HNX X0E X1E X2E hgt
        go_simp
        first | exact hk | simpa using hk
       ·refine AtIn.of _ rfl rfl (fun lq ac w hC hli hd hb K hK => ?_)
        have q45 : ac.tmps[45]? = some (.pointer (some ⟨g, s * 3, none⟩)) := (hd 8 (by decide)).2 45 rfl
        have h1 : lq 15 = false := by
         cases h : lq 15 with
         | false => rfl
         | true => exact absurd (hC.1.2 h).1 (by rw [hli]; decide)
        have h2 : lq 17 = false := by
         cases h : lq 17 with
         | false => rfl
         | true => exact absurd (hC.1.1 h) (by rw [h1]; decide)
        obtain rfl : w = X0 := by rw [hC.2, if_neg (by rw [h2]; decide), if_neg (by rw [h1]; decide)]
        have z := (HB).out;obtain ⟨z0, z1, z2⟩ := z;have hk := hK.out w ⟨⟨fun h => by simp [h2] at h, fun h => by simp [h1] at h⟩, by simp [h1, h2]⟩;clear hK hC hd hb HEND HNX X0E X1E X2E hgt
        go_simp
        first | exact hk | simpa using hk
       ·refine AtIn.of _ rfl rfl (fun lq ac w hC hli hd hb K hK => ?_)
        have b0 : ac.tmps[0]? = some (.slice (some ⟨g, 0, none⟩) N cap) := hb 0 (by decide);have hk := hK.out w (by simpa using hC);clear hK hC hd hb HEND HNX X0E X1E X2E hgt
        go_simp
        first | exact hk | simpa using hk
       ·refine AtIn.of _ rfl rfl (fun lq ac w hC hli hd hb K hK => ?_)
        have b9 : ac.tmps[9]? = some (.int .i64 ((s : Int) + 1)) := hb 9 (by decide);have hk := hK.out w (by simpa using hC);clear hK hC hd hb HEND HNX X0E X1E X2E hgt
        go_simp
        first | exact hk | simpa using hk
       ·refine AtIn.of _ rfl rfl (fun lq ac w hC hli hd hb K hK => ?_)
        have q47 : ac.tmps[47]? = some (.slice (some ⟨g, 0, none⟩) N cap) := (hd 10 (by decide)).2 47 rfl;have q48 : ac.tmps[48]? = some (.int .i64 ((s : Int) + 1)) := (hd 11 (by decide)).2 48 rfl;have hk := hK.out w (by simpa using hC);clear hK hC hd hb HEND HNX X0E X1E X2E hgt
        go_simp
        first | exact hk | simpa using hk
       ·refine AtIn.of _ rfl rfl (fun lq ac w hC hli hd hb K hK => ?_)
        have q49 : ac.tmps[49]? = some (.pointer (some ⟨g, (s + 1) * 3, none⟩)) := (hd 12 (by decide)).2 49 rfl
        have h1 : lq 15 = false := by
         cases h : lq 15 with
         | false => rfl
         | true => exact absurd (hC.1.2 h).2 (by rw [hli]; decide)
        have h2 : lq 17 = false := by
         cases h : lq 17 with
         | false => rfl
         | true => exact absurd (hC.1.1 h) (by rw [h1]; decide)
        obtain rfl : w = X0 := by rw [hC.2, if_neg (by rw [h2]; decide), if_neg (by rw [h1]; decide)]
        have z := (HA).out;obtain ⟨z0, z1, z2⟩ := z;have hk := hK.out w ⟨⟨fun h => by simp [h2] at h, fun h => by simp [h1] at h⟩, by simp [h1, h2]⟩;clear hK hC hd hb HEND HNX X0E X1E X2E hgt
        go_simp
        first | exact hk | simpa using hk
       ·refine AtIn.of _ rfl rfl (fun lq ac w hC hli hd hb K hK => ?_)
        have q37 : ac.tmps[37]? = some (.slice (some ⟨g, 0, none⟩) N cap) := (hd 0 (by decide)).2 37 rfl;have q38 : ac.tmps[38]? = some (.int .i64 ((s : Int) + 1)) := (hd 1 (by decide)).2 38 rfl;have hk := hK.out w (by simpa using hC);clear hK hC hd hb HEND HNX X0E X1E X2E hgt
        go_simp
        first | exact hk | simpa using hk
       ·refine AtIn.of _ rfl rfl (fun lq ac w hC hli hd hb K hK => ?_)
        have q51 : ac.tmps[51]? = some (.pointer (some ⟨g, (s + 1) * 3, none⟩)) := (hd 14 (by decide)).2 51 rfl;have q46 : ac.tmps[46]? = some (.agg #[.int .i64 eb.v, .bool eb.b, .slice eb.A eb.n eb.c]) := (hd 9 (by decide)).2 46 rfl
        have h2 : lq 17 = false := by
         cases h : lq 17 with
         | false => rfl
         | true => exact absurd (hC.1.1 h) (by rw [hli]; decide)
        obtain rfl : w = X0 := by rw [hC.2, if_neg (by rw [h2]; decide), if_neg (by rw [hli]; decide)]
        obtain ⟨z0, z1, z2⟩ := HP.out;obtain ⟨f0, f1, f2⟩ := FP.out;have hk := hK.out X1 ⟨⟨fun _ => by simp, fun _ => by simp; exact ⟨(hd 9 (by decide)).1, (hd 13 (by decide)).1⟩⟩, by simp [h2]⟩;rw [X1E.out] at hk;unfold put3 at hk;clear hK hC hd hb HEND HNX X0E X1E X2E hgt
        go_simp
        first | exact hk | simpa using hk
       ·refine AtIn.of _ rfl rfl (fun lq ac w hC hli hd hb K hK => ?_)
        have q39 : ac.tmps[39]? = some (.slice (some ⟨g, 0, none⟩) N cap) := (hd 2 (by decide)).2 39 rfl;have q41 : ac.tmps[41]? = some (.int .i64 ((s : Int))) := (hd 4 (by decide)).2 41 rfl;have hk := hK.out w (by simpa using hC);clear hK hC hd hb HEND HNX X0E X1E X2E hgt
        go_simp
        first | exact hk | simpa using hk
       ·refine AtIn.of _ rfl rfl (fun lq ac w hC hli hd hb K hK => ?_)
        have q52 : ac.tmps[52]? = some (.pointer (some ⟨g, s * 3, none⟩)) := (hd 16 (by decide)).2 52 rfl;have q50 : ac.tmps[50]? = some (.agg #[.int .i64 ea.v, .bool ea.b, .slice ea.A ea.n ea.c]) := (hd 13 (by decide)).2 50 rfl;have h1 : lq 15 = true := (hd 15 (by decide)).1
        obtain rfl : w = X1 := by rw [hC.2, if_neg (by rw [hli]; decide), if_pos h1]
        obtain ⟨z0, z1, z2⟩ := HQ.out;obtain ⟨f0, f1, f2⟩ := FQ.out;have hk := hK.out X2 ⟨⟨fun _ => by simp [h1], fun _ => by simp; exact ⟨(hd 9 (by decide)).1, (hd 13 (by decide)).1⟩⟩, by simp⟩;rw [X2E.out] at hk;unfold put3 at hk;clear hK hC hd hb HEND HNX X0E X1E X2E hgt
        go_simp
        first | exact hk | simpa using hk
       ·rintro w ⟨-, hw⟩
        rw [if_pos rfl] at hw;simp only [fill, Act.put, if_true, List.getD_eq_getElem?_getD, List.setIfInBounds_toArray, List.set_cons_zero, List.set_cons_succ];clear HA HB HP HQ FP FQ X0E X1E X2E;rw [hw];clear hw ws xs n1 t1 n2
        go_wp2_with fail
        go_roundg q
        case measure => go_light; omega
        case rel => go_light; exact ⟨s, _, by go_num, ⟨hgt.out.1, hgt.out.2.1, HNX.out, hgt.out.2.2⟩, ⟨HEND.out.1⟩, ⟨HEND.out.2⟩⟩
      ·have hr0 : ¬ r < 0 := by
        rw [hr]
        rcases Int.lt_or_eq_of_le (show z.v ≤ y.v by omega) with h | h
        ·rw [sgn_gt (by omega)]; decide
        ·rw [sgn_zero (by omega)]; decide
       clear hr;have HE := Sdq.mk (show Srt.Up El.v (S.take (q + 1) ++ y :: S.drop (q + 1)) ∧ (S.take (q + 1) ++ y :: S.drop (q + 1)).Perm (T ++ [y]) ∧ l = P ++ (S.take (q + 1) ++ y :: S.drop (q + 1)) ++ R' ++ Q from ⟨Srt.lt_le hS.out.2.2.1 h2 h4 (.inr ⟨by omega, by simp only [Nat.add_sub_cancel]; rw [← zE]; omega⟩), (Srt.perm_one' (q + 1)).trans (hS.out.2.1.append_right _), by rw [h3.ins]; simp⟩);have hlen := Sdq.mk (show (S.take (q + 1) ++ y :: S.drop (q + 1)).length = S.length + 1 by simp; omega);generalize S.take (q + 1) ++ y :: S.drop (q + 1) = S2 at HE hlen;clear h1 h2 h3 h4 hT ez ey zE es hPa hln hyz iy iz ir;have xs := x64 s2;have ws := w64 (n := s) rfl s2
       go_wp2_with fail
       refine wp_region_ws 14 (by kernel_rfl) (by kernel_rfl) ?_;simp only [List.take_succ_cons, List.take_zero, List.drop_succ_cons, List.drop_zero]
       repeat (refine ws_step (fun K hK => ?_); go_simp; refine hK _ ?_; clear hK K)
       refine ws_nil ?_;go_wp2_with (go_at_call 48; refine (hcmp _).mono ?_; rintro e w2 ⟨rfl, hb2⟩);clear xs ws y0 y1 y2 z0 z1 z2 n1 t1 n2;have hbw : Below wr.heap.size wr w2 := below_step (below_drew (Below.refl _ _)) hb2;have hO := Sdq.mk (hO.out.below hbw);have hK := Sdq.mk (show Kbt w w2 g none ∧ Below g w w2 from ⟨hK.out.1.trans (Kbt.of_below hbw g none) (.inl rfl), hK.out.2.trans (hbw.mono (Nat.le_of_lt hst))⟩);clear hb2 hbw hcmp hr0
       go_roundg R'.length
       case measure => go_light; omega
       case rel => go_light; exact ⟨i + 1, S2, T ++ [y], R', l, rfl, by go_num, ⟨by have := hS.out.2.2.2.1; have := hlen.out; omega, by omega, by have := hS.out.2.2.2.2; omega, by rw [hS.out.1]; simp, HE.out.2.1, HE.out.1, HE.out.2.2⟩, hO, hK⟩
end Go.Proofs.YthpgjgmaamcaoaaDoor.P
end
section
namespace Go.Proofs.YthpgjgmaamcaoaaDoor.P
open Go.RowKit Go.Shelf Go.Proofs.YthpgjgmaamcaoaaDoorW.PrintWords Go.Proofs.YthpgjgmaamcaoaaDoorW.PrintLast Go.Proofs.YthpgjgmaamcaoaaDoorW.PrintMore Go.Proofs.YthpgjgmaamcaoaaDoor.Nm
set_option maxRecDepth 100000
set_option linter.unusedVariables false
set_option linter.unusedSimpArgs false
theorem sl_sym.tab11 : tabOf (opsOf Tryd.f101 11) = ([some 61, some 62, some 63, some 64, some 65, some 66, some 67, some 68, some 69, some 70, some 71, some 72, some 73, some 74, some 75, none, some 76, none], [[], [], [], [], [3], [], [], [6], [5, 7], [8], [], [], [10, 11], [12], [0, 1, 0, 1, 5, 6, 7, 8, 9, 13], [14, 9, 0, 1, 5, 6, 7, 8, 9, 13], [2, 4, 0, 1, 2, 3, 4, 5, 6, 7, 8, 9, 10, 11, 12, 13, 14, 15], [16, 13, 15, 0, 1, 2, 3, 4, 5, 6, 7, 8, 9, 10, 11, 12, 13, 14, 15]]) := by kernel_rfl
set_option maxHeartbeats 3200000 in
theorem sl_sym1 (g cap a m b N : Nat) (P R Q : List El) (x : El) (w : World) (hO : Own3 g w (P ++ [x] ++ R ++ Q)) (hN : N = (P ++ [x] ++ R ++ Q).length) (hl : N ≤ 1000) (ha : a = P.length) (hm : m = P.length + 1) (hb : b = P.length + 1 + R.length) (hR : Srt.Up El.v R) :
  Calls Tryd.prog 101 #[.slice (some ⟨g, 0, none⟩) N cap, .int .i64 a, .int .i64 m, .int .i64 b, .func (.func 48) #[] #[]] w (SPost g w (fun l => Srt.Mrg El.v P ([x] ++ R) Q l)) := by
 have hN' : N = P.length + 1 + R.length + Q.length := by rw [hN]; simp; omega
 obtain ⟨l0, el0⟩ : ∃ l, l = P ++ [x] ++ R ++ Q := ⟨_, rfl⟩
 rw [← el0] at hO;have el0 := Sdq.mk el0;have hO := Sdq.mk hO
 have v1 : (m : Int) - (a : Int) = 1 := by omega
 have hR := Sdq.mk hR;have E := Sdq.mk (And.intro hN' (And.intro ha (And.intro hm hb)))
 have bnd : m ≤ 1000 ∧ b ≤ 1000 := by omega
 have hmb := Sdq.mk (show m ≤ b by omega);clear hN' ha hm hb hN;go_enter Tryd.func101, Tryd.ntmps101
 go_wp2_with fail
 go_loopg [10, 11] b (fun gk s10 s11 wr => ∃ (i j : Nat), s10 = .int .i64 (i : Int) ∧ s11 = .int .i64 (j : Int) ∧ Sdq (m ≤ i ∧ i ≤ j ∧ j ≤ b ∧ j - i ≤ gk ∧ (i - m = 0 ∨ ∃ h : i - m - 1 < R.length, R[i - m - 1].v ≤ x.v) ∧ (j - m = R.length ∨ ∃ h : j - m < R.length, x.v ≤ R[j - m].v)) ∧ Sdq (Below w.heap.size w wr))
 case atStart => exact ⟨m, b, rfl, rfl, ⟨Nat.le_refl _, hmb.out, Nat.le_refl _, by omega, .inl (Nat.sub_self _), .inl (by have := E.out; omega)⟩, ⟨Below.refl _ _⟩⟩
 case round =>
  obtain ⟨i, j, rfl, rfl, hI, hB⟩ := hrel;obtain ⟨h1, h2, h3, h4, -, -⟩ := hI.out
  rcases Nat.lt_or_eq_of_le h2 with hij | hij
  ·obtain ⟨h, vh⟩ : ∃ h : Nat, ((i : Int) + (j : Int)) / 2 = (h : Int) := ⟨(i + j) / 2, by omega⟩
   have hh : i ≤ h ∧ h < j := by omega
   obtain ⟨gk', rfl⟩ : ∃ k, gk = k + 1 := ⟨gk - 1, by omega⟩
   obtain ⟨hN', ha, hm, hb⟩ := E.out;have hOw := hO.out.below hB.out;obtain ⟨iy, ey⟩ := Srt.get_in (P := P ++ [x]) (M := R) (Q := Q) el0.out (i := h - m) (k := h) (by omega) (by simp; omega);obtain ⟨ix, ex⟩ := Srt.get_mid (p := P) (q := R ++ Q) (x := x) (l := l0) (by rw [el0.out]; simp) (i := a) ha
   obtain ⟨y, yE⟩ : ∃ y, y = R[h - m]'(by omega) := ⟨_, rfl⟩
   rw [← yE] at ey;have y0 := hOw.at0 iy;have y1 := hOw.at1 iy;have y2 := hOw.at2 iy;rw [ey] at y0 y1 y2;have x0 := hOw.at0 ix;have x1 := hOw.at1 ix;have x2 := hOw.at2 ix;rw [ex] at x0 x1 x2
   have n1 : (h : Int) < (N : Int) := by omega
   have n2 : (a : Int) < (N : Int) := by omega
   obtain ⟨r, hr⟩ : ∃ r, r = sgn (y.v - x.v) := ⟨_, rfl⟩
   have hcmp := fun W => sort_by y.v x.v (.bool y.b) (.slice y.A y.n y.c) (.bool x.b) (.slice x.A x.n x.c) W
   rw [← hr] at hcmp;by_cases hyx : y.v < x.v
   ·have hr0 : r < 0 := by rw [hr, sgn_lt (by omega)]; decide
    have HN := Sdq.mk (show m ≤ h + 1 ∧ h + 1 ≤ j ∧ j ≤ b ∧ j - (h + 1) ≤ gk' ∧ (h + 1 - m = 0 ∨ ∃ t : h + 1 - m - 1 < R.length, R[h + 1 - m - 1].v ≤ x.v) ∧ (j - m = R.length ∨ ∃ h : j - m < R.length, x.v ≤ R[j - m].v) from
     ⟨by omega, by omega, h3, by omega, .inr ⟨by omega, by rw [yE] at hyx; simp only [show h + 1 - m - 1 = h - m by omega]; omega⟩, hI.out.2.2.2.2.2⟩)
    have lij : i + j ≤ 2000 ∧ h ≤ 1000 := by omega
    clear hI h1 h2 h3 h4 ey ex yE hr hyx iy ix hN' ha hm hb hOw
    go_upto_region 5 with fail
    refine wp_region_ws 9 (by kernel_rfl) (by kernel_rfl) ?_;simp only [List.take_succ_cons, List.take_zero, List.drop_succ_cons, List.drop_zero]
    repeat (refine ws_step (fun K hK => ?_); go_simp; refine hK _ ?_; clear hK K)
    refine ws_nil ?_;go_wp2_with (go_at_call 48; refine (hcmp _).mono ?_; rintro e w2 ⟨rfl, hb2⟩)
    go_roundg gk'
    case measure => go_light; omega
    case rel => go_light; exact ⟨h + 1, j, by go_num, rfl, HN, ⟨below_step hB.out.drew hb2⟩⟩
   ·have hr0 : ¬ r < 0 := by
     rw [hr]
     rcases Int.lt_or_eq_of_le (show x.v ≤ y.v by omega) with h | h
     ·rw [sgn_gt (by omega)]; decide
     ·rw [sgn_zero (by omega)]; decide
    have HN := Sdq.mk (show m ≤ i ∧ i ≤ h ∧ h ≤ b ∧ h - i ≤ gk' ∧ (i - m = 0 ∨ ∃ t : i - m - 1 < R.length, R[i - m - 1].v ≤ x.v) ∧ (h - m = R.length ∨ ∃ t : h - m < R.length, x.v ≤ R[h - m].v) from
     ⟨h1, by omega, by omega, by omega, hI.out.2.2.2.2.1, .inr ⟨by omega, by rw [yE] at hyx; omega⟩⟩)
    have lij : i + j ≤ 2000 ∧ h ≤ 1000 := by omega
    clear hI h1 h2 h3 h4 ey ex yE hr hyx iy ix hN' ha hm hb hOw
    go_upto_region 5 with fail
    refine wp_region_ws 9 (by kernel_rfl) (by kernel_rfl) ?_;simp only [List.take_succ_cons, List.take_zero, List.drop_succ_cons, List.drop_zero]
    repeat (refine ws_step (fun K hK => ?_); go_simp; refine hK _ ?_; clear hK K)
    refine ws_nil ?_;go_wp2_with (go_at_call 48; refine (hcmp _).mono ?_; rintro e w2 ⟨rfl, hb2⟩)
    go_roundg gk'
    case measure => go_light; omega
    case rel => go_light; exact ⟨i, h, rfl, rfl, HN, ⟨below_step hB.out.drew hb2⟩⟩
  ·subst hij
   obtain ⟨hN', ha, hm, hb⟩ := E.out
   obtain ⟨k, ek⟩ : ∃ k, k = i - m := ⟨_, rfl⟩
   obtain ⟨R1, eR1⟩ : ∃ L, L = R.take k := ⟨_, rfl⟩
   obtain ⟨R2, eR2⟩ : ∃ L, L = R.drop k := ⟨_, rfl⟩
   have hk : k ≤ R.length := by omega
   have lR1 : R1.length = k := by rw [eR1]; simp; omega
   have hT := Sdq.mk (show Srt.Thr P x R1 (R2 ++ Q) 0 l0 by rw [el0.out, eR1, eR2]; simp [Srt.Thr]; rw [← List.append_assoc, List.take_append_drop]);have hEND := Sdq.mk (show ∀ l, Srt.Thr P x R1 (R2 ++ Q) R1.length l → Srt.Mrg El.v P ([x] ++ R) Q l from fun l h => ⟨R1 ++ x :: R2, by rw [h.done]; simp, by rw [eR1, eR2]; exact Srt.perm_one k, by rw [eR1, eR2]; exact Srt.one_up hR.out hk (by rw [ek]; exact hI.out.2.2.2.2.1) (by rw [ek]; exact hI.out.2.2.2.2.2)⟩)
   obtain ⟨e, ee⟩ : ∃ e, e = a + k := ⟨_, rfl⟩
   have hNN := Sdq.mk (show a = P.length ∧ N = P.length + 1 + k + R2.length + Q.length ∧ R1.length = k ∧ e = a + k by rw [eR2]; simp; omega)
   have vi : (i : Int) - 1 = (e : Int) := by omega
   have lak : e ≤ 1000 ∧ i ≤ 1000 := by omega
   clear hI h1 h2 h3 h4 ee ek eR1 eR2 lR1 hN' ha hm hb hk
   go_wp2_with fail
   go_loopg [13] k (fun gk s13 wr => ∃ (t s : Nat) (l : List El), gk + t = k ∧ s13 = .int .i64 (s : Int) ∧ Sdq (s = a + t) ∧ Sdq (Srt.Thr P x R1 (R2 ++ Q) t l) ∧ Sdq (Own3 g wr l) ∧ Sdq (Kbt w wr g none ∧ Below g w wr))
   case atStart => exact ⟨0, a, l0, rfl, rfl, ⟨rfl⟩, hT, ⟨hO.out.below hB.out⟩, ⟨Kbt.of_below hB.out g none, hB.out.mono (Nat.le_of_lt hO.out.lt)⟩⟩
   case round =>
    clear hO hT hB;obtain ⟨t, s, l, hg, rfl, hs, hT, hO, hK⟩ := hrel
    cases gk with
    | zero =>
     obtain rfl : t = k := by omega
     have HE := Sdq.mk (show Srt.Mrg El.v P ([x] ++ R) Q l from hEND.out l (by rw [hNN.out.2.2.1]; exact hT.out))
     have c1 : ¬ (s : Int) < (e : Int) := by have := hNN.out; have := hs.out; omega
     go_wp2;refine bodyPost_ret (results_none rfl _ _ _) rfl ?_;exact ⟨rfl, l, HE.out, hO.out, hK.out.1, hK.out.2⟩
    | succ q =>
     have es := hs.out
     have htk : t < R1.length := by have := hNN.out; omega
     obtain ⟨i1, i2, hnx⟩ := hT.out.up (k := s) htk (by have := hNN.out; omega)
     have sN : s + 1 < N := by have := hNN.out; omega
     obtain ⟨ea, eaE⟩ : ∃ e, e = l[s] := ⟨_, rfl⟩
     obtain ⟨eb, ebE⟩ : ∃ e, e = l[s + 1] := ⟨_, rfl⟩
     rw [← eaE, ← ebE] at hnx
     obtain ⟨X0, X0e⟩ : ∃ X, X = { wr with drawn := wr.drawn + 1 } := ⟨_, rfl⟩
     have hb0 : Below wr.heap.size wr X0 := by rw [X0e]; exact below_drew (Below.refl _ _)
     have O0 := hO.out.below hb0
     obtain ⟨X1, X1e⟩ : ∃ X, X = put3 X0 g (s) eb := ⟨_, rfl⟩
     obtain ⟨X2, X2e⟩ : ∃ X, X = put3 X1 g (s + 1) ea := ⟨_, rfl⟩
     have O1 : Own3 g X1 (l.set (s) eb) := by rw [X1e]; exact O0.put i1 eb
     have j2 : s + 1 < (l.set (s) eb).length := by rw [List.length_set]; exact i2
     have O2 : Own3 g X2 ((l.set (s) eb).set (s + 1) ea) := by rw [X2e]; exact O1.put j2 ea
     have HA := Sdq.mk (And.intro (O0.at0 i1) (And.intro (O0.at1 i1) (O0.at2 i1)));have HB := Sdq.mk (And.intro (O0.at0 i2) (And.intro (O0.at1 i2) (O0.at2 i2)));rw [← eaE] at HA;rw [← ebE] at HB;have HP := Sdq.mk (And.intro (O0.at0 i1) (And.intro (O0.at1 i1) (O0.at2 i1)));have HQ := Sdq.mk (And.intro (O1.at0 j2) (And.intro (O1.at1 j2) (O1.at2 j2)));generalize (l.set (s) eb)[s + 1] = eq_ at HQ;generalize l[s] = ep_ at HP;have FP := Sdq.mk (And.intro (O0.free ((s) * 3)) (And.intro (O0.free ((s) * 3 + 1)) (O0.free ((s) * 3 + 2))));have FQ := Sdq.mk (And.intro (O1.free ((s + 1) * 3)) (And.intro (O1.free ((s + 1) * 3 + 1)) (O1.free ((s + 1) * 3 + 2))));have HEND := Sdq.mk (And.intro O2 (And.intro (show Kbt w X2 g none by rw [X2e, X1e]; exact keep_put3 (keep_put3 (hK.out.1.trans (Kbt.of_below hb0 g none) (.inl rfl)) _ _) _ _) (show Below g w X2 by rw [X2e, X1e]; exact below_put3 (below_put3 (hK.out.2.trans (hb0.mono (by have := hO.out.lt; omega))) _ _) _ _)));have HNX := Sdq.mk hnx;have X0E := Sdq.mk X0e;have X1E := Sdq.mk X1e;have X2E := Sdq.mk X2e;clear hb0 O0 O1 O2 hO hK eaE ebE j2 hnx X0e X1e X2e
     have n1 : 0 ≤ (s : Int) + 1 ∧ (s : Int) + 1 < (N : Int) := by omega
     have t1 : ((s : Int) + 1).toNat = s + 1 := by omega
     have n2 : (s : Int) < (N : Int) := by omega
     have c1 : (s : Int) < (e : Int) := by have := hNN.out; omega
     have s2 : s ≤ 1000 := by omega
     clear hT htk i1 i2 sN es
     go_upto_region 11 with fail
     have wA := IntWalk.i64_in ((s : Int) + 1) (by omega);refine wpIn_wide.1 (flowIn (n := 3) (m := 18) sl_sym.tab11 rfl (fun l w => ((l 17 = true → l 15 = true) ∧ (l 15 = true → l 9 = true ∧ l 13 = true)) ∧ w = if l 17 = true then X2 else if l 15 = true then X1 else X0) (fun ix_ => (#[.slice (some ⟨g, 0, none⟩) N cap, .int .i64 (s : Int), .slice (some ⟨g, 0, none⟩) N cap, .int .i64 (s : Int), .int .i64 ((s : Int) + 1), .slice (some ⟨g, 0, none⟩) N cap, .int .i64 (s : Int), .int .i64 ((s : Int) + 1), .pointer (some ⟨g, (s + 1) * 3, none⟩), .agg #[.int .i64 eb.v, .bool eb.b, .slice eb.A eb.n eb.c], .slice (some ⟨g, 0, none⟩) N cap, .int .i64 (s : Int), .pointer (some ⟨g, s * 3, none⟩), .agg #[.int .i64 ea.v, .bool ea.b, .slice ea.A ea.n ea.c], .pointer (some ⟨g, s * 3, none⟩), undef, .pointer (some ⟨g, (s + 1) * 3, none⟩), undef] : Array Value).getD ix_ undef) rfl (by kernel_rfl) (fun l l' w hl h => by rw [← hl 9 (by decide), ← hl 13 (by decide), ← hl 15 (by decide), ← hl 17 (by decide)]; exact h) ⟨by simp, by rw [X0E.out]; rfl⟩ ⟨⟨⟨⟨⟨⟨⟨⟨⟨⟨⟨⟨⟨⟨⟨⟨⟨⟨trivial, ?_⟩, ?_⟩, ?_⟩, ?_⟩, ?_⟩, ?_⟩, ?_⟩, ?_⟩, ?_⟩, ?_⟩, ?_⟩, ?_⟩, ?_⟩, ?_⟩, ?_⟩, ?_⟩, ?_⟩, ?_⟩ ?_)
     ·refine AtIn.of _ rfl rfl (fun lq ac w hC hli hd hb K hK => ?_)
      have b0 : ac.tmps[0]? = some (.slice (some ⟨g, 0, none⟩) N cap) := hb 0 (by decide);have hk := hK.out w (by simpa using hC);clear hK hC hd hb HEND HNX X0E X1E X2E hEND hNN
      go_simp
      first | exact hk | simpa using hk
     ·refine AtIn.of _ rfl rfl (fun lq ac w hC hli hd hb K hK => ?_)
      have b13 : ac.tmps[13]? = some (.int .i64 (s : Int)) := hb 13 (by decide);have hk := hK.out w (by simpa using hC);clear hK hC hd hb HEND HNX X0E X1E X2E hEND hNN
      go_simp
      first | exact hk | simpa using hk
     ·refine AtIn.of _ rfl rfl (fun lq ac w hC hli hd hb K hK => ?_)
      have b0 : ac.tmps[0]? = some (.slice (some ⟨g, 0, none⟩) N cap) := hb 0 (by decide);have hk := hK.out w (by simpa using hC);clear hK hC hd hb HEND HNX X0E X1E X2E hEND hNN
      go_simp
      first | exact hk | simpa using hk
     ·refine AtIn.of _ rfl rfl (fun lq ac w hC hli hd hb K hK => ?_)
      have b13 : ac.tmps[13]? = some (.int .i64 (s : Int)) := hb 13 (by decide);have hk := hK.out w (by simpa using hC);clear hK hC hd hb HEND HNX X0E X1E X2E hEND hNN
      go_simp
      first | exact hk | simpa using hk
     ·refine AtIn.of _ rfl rfl (fun lq ac w hC hli hd hb K hK => ?_)
      have q64 : ac.tmps[64]? = some (.int .i64 (s : Int)) := (hd 3 (by decide)).2 64 rfl;have hk := hK.out w (by simpa using hC);clear hK hC hd hb HEND HNX X0E X1E X2E hEND hNN
      go_simp
      first | exact hk | simpa using hk
     ·refine AtIn.of _ rfl rfl (fun lq ac w hC hli hd hb K hK => ?_)
      have b0 : ac.tmps[0]? = some (.slice (some ⟨g, 0, none⟩) N cap) := hb 0 (by decide);have hk := hK.out w (by simpa using hC);clear hK hC hd hb HEND HNX X0E X1E X2E hEND hNN
      go_simp
      first | exact hk | simpa using hk
     ·refine AtIn.of _ rfl rfl (fun lq ac w hC hli hd hb K hK => ?_)
      have b13 : ac.tmps[13]? = some (.int .i64 (s : Int)) := hb 13 (by decide);have hk := hK.out w (by simpa using hC);clear hK hC hd hb HEND HNX X0E X1E X2E hEND hNN
      go_simp
      first | exact hk | simpa using hk
     ·refine AtIn.of _ rfl rfl (fun lq ac w hC hli hd hb K hK => ?_)
      have q67 : ac.tmps[67]? = some (.int .i64 (s : Int)) := (hd 6 (by decide)).2 67 rfl;have hk := hK.out w (by simpa using hC);clear hK hC hd hb HEND HNX X0E X1E X2E hEND hNN
      go_simp
      first | exact hk | simpa using hk
     ·refine AtIn.of _ rfl rfl (fun lq ac w hC hli hd hb K hK => ?_)
      have q66 : ac.tmps[66]? = some (.slice (some ⟨g, 0, none⟩) N cap) := (hd 5 (by decide)).2 66 rfl;have q68 : ac.tmps[68]? = some (.int .i64 ((s : Int) + 1)) := (hd 7 (by decide)).2 68 rfl;have hk := hK.out w (by simpa using hC);clear hK hC hd hb HEND HNX X0E X1E X2E hEND hNN
      go_simp
      first | exact hk | simpa using hk
     ·refine AtIn.of _ rfl rfl (fun lq ac w hC hli hd hb K hK => ?_)
      have q69 : ac.tmps[69]? = some (.pointer (some ⟨g, (s + 1) * 3, none⟩)) := (hd 8 (by decide)).2 69 rfl
      have h1 : lq 15 = false := by
       cases h : lq 15 with
       | false => rfl
       | true => exact absurd (hC.1.2 h).1 (by rw [hli]; decide)
      have h2 : lq 17 = false := by
       cases h : lq 17 with
       | false => rfl
       | true => exact absurd (hC.1.1 h) (by rw [h1]; decide)
      obtain rfl : w = X0 := by rw [hC.2, if_neg (by rw [h2]; decide), if_neg (by rw [h1]; decide)]
      have z := (HB).out;obtain ⟨z0, z1, z2⟩ := z;have hk := hK.out w ⟨⟨fun h => by simp [h2] at h, fun h => by simp [h1] at h⟩, by simp [h1, h2]⟩;clear hK hC hd hb HEND HNX X0E X1E X2E hEND hNN
      go_simp
      first | exact hk | simpa using hk
     ·refine AtIn.of _ rfl rfl (fun lq ac w hC hli hd hb K hK => ?_)
      have b0 : ac.tmps[0]? = some (.slice (some ⟨g, 0, none⟩) N cap) := hb 0 (by decide);have hk := hK.out w (by simpa using hC);clear hK hC hd hb HEND HNX X0E X1E X2E hEND hNN
      go_simp
      first | exact hk | simpa using hk
     ·refine AtIn.of _ rfl rfl (fun lq ac w hC hli hd hb K hK => ?_)
      have b13 : ac.tmps[13]? = some (.int .i64 (s : Int)) := hb 13 (by decide);have hk := hK.out w (by simpa using hC);clear hK hC hd hb HEND HNX X0E X1E X2E hEND hNN
      go_simp
      first | exact hk | simpa using hk
     ·refine AtIn.of _ rfl rfl (fun lq ac w hC hli hd hb K hK => ?_)
      have q71 : ac.tmps[71]? = some (.slice (some ⟨g, 0, none⟩) N cap) := (hd 10 (by decide)).2 71 rfl;have q72 : ac.tmps[72]? = some (.int .i64 (s : Int)) := (hd 11 (by decide)).2 72 rfl;have hk := hK.out w (by simpa using hC);clear hK hC hd hb HEND HNX X0E X1E X2E hEND hNN
      go_simp
      first | exact hk | simpa using hk
     ·refine AtIn.of _ rfl rfl (fun lq ac w hC hli hd hb K hK => ?_)
      have q73 : ac.tmps[73]? = some (.pointer (some ⟨g, s * 3, none⟩)) := (hd 12 (by decide)).2 73 rfl
      have h1 : lq 15 = false := by
       cases h : lq 15 with
       | false => rfl
       | true => exact absurd (hC.1.2 h).2 (by rw [hli]; decide)
      have h2 : lq 17 = false := by
       cases h : lq 17 with
       | false => rfl
       | true => exact absurd (hC.1.1 h) (by rw [h1]; decide)
      obtain rfl : w = X0 := by rw [hC.2, if_neg (by rw [h2]; decide), if_neg (by rw [h1]; decide)]
      have z := (HA).out;obtain ⟨z0, z1, z2⟩ := z;have hk := hK.out w ⟨⟨fun h => by simp [h2] at h, fun h => by simp [h1] at h⟩, by simp [h1, h2]⟩;clear hK hC hd hb HEND HNX X0E X1E X2E hEND hNN
      go_simp
      first | exact hk | simpa using hk
     ·refine AtIn.of _ rfl rfl (fun lq ac w hC hli hd hb K hK => ?_)
      have q61 : ac.tmps[61]? = some (.slice (some ⟨g, 0, none⟩) N cap) := (hd 0 (by decide)).2 61 rfl;have q62 : ac.tmps[62]? = some (.int .i64 (s : Int)) := (hd 1 (by decide)).2 62 rfl;have hk := hK.out w (by simpa using hC);clear hK hC hd hb HEND HNX X0E X1E X2E hEND hNN
      go_simp
      first | exact hk | simpa using hk
     ·refine AtIn.of _ rfl rfl (fun lq ac w hC hli hd hb K hK => ?_)
      have q75 : ac.tmps[75]? = some (.pointer (some ⟨g, s * 3, none⟩)) := (hd 14 (by decide)).2 75 rfl;have q70 : ac.tmps[70]? = some (.agg #[.int .i64 eb.v, .bool eb.b, .slice eb.A eb.n eb.c]) := (hd 9 (by decide)).2 70 rfl
      have h2 : lq 17 = false := by
       cases h : lq 17 with
       | false => rfl
       | true => exact absurd (hC.1.1 h) (by rw [hli]; decide)
      obtain rfl : w = X0 := by rw [hC.2, if_neg (by rw [h2]; decide), if_neg (by rw [hli]; decide)]
      obtain ⟨z0, z1, z2⟩ := HP.out;obtain ⟨f0, f1, f2⟩ := FP.out;have hk := hK.out X1 ⟨⟨fun _ => by simp, fun _ => by simp; exact ⟨(hd 9 (by decide)).1, (hd 13 (by decide)).1⟩⟩, by simp [h2]⟩;rw [X1E.out] at hk;unfold put3 at hk;clear hK hC hd hb HEND HNX X0E X1E X2E hEND hNN
      go_simp
      first | exact hk | simpa using hk
     ·refine AtIn.of _ rfl rfl (fun lq ac w hC hli hd hb K hK => ?_)
      have q63 : ac.tmps[63]? = some (.slice (some ⟨g, 0, none⟩) N cap) := (hd 2 (by decide)).2 63 rfl;have q65 : ac.tmps[65]? = some (.int .i64 ((s : Int) + 1)) := (hd 4 (by decide)).2 65 rfl;have hk := hK.out w (by simpa using hC);clear hK hC hd hb HEND HNX X0E X1E X2E hEND hNN
      go_simp
      first | exact hk | simpa using hk
     ·refine AtIn.of _ rfl rfl (fun lq ac w hC hli hd hb K hK => ?_)
      have q76 : ac.tmps[76]? = some (.pointer (some ⟨g, (s + 1) * 3, none⟩)) := (hd 16 (by decide)).2 76 rfl;have q74 : ac.tmps[74]? = some (.agg #[.int .i64 ea.v, .bool ea.b, .slice ea.A ea.n ea.c]) := (hd 13 (by decide)).2 74 rfl;have h1 : lq 15 = true := (hd 15 (by decide)).1
      obtain rfl : w = X1 := by rw [hC.2, if_neg (by rw [hli]; decide), if_pos h1]
      obtain ⟨z0, z1, z2⟩ := HQ.out;obtain ⟨f0, f1, f2⟩ := FQ.out;have hk := hK.out X2 ⟨⟨fun _ => by simp [h1], fun _ => by simp; exact ⟨(hd 9 (by decide)).1, (hd 13 (by decide)).1⟩⟩, by simp⟩;rw [X2E.out] at hk;unfold put3 at hk;clear hK hC hd hb HEND HNX X0E X1E X2E hEND hNN
      go_simp
      first | exact hk | simpa using hk
     ·rintro w ⟨-, hw⟩
      rw [if_pos rfl] at hw;simp only [fill, Act.put, if_true, List.getD_eq_getElem?_getD, List.setIfInBounds_toArray, List.set_cons_zero, List.set_cons_succ];clear HA HB HP HQ FP FQ X0E X1E X2E;rw [hw];clear hw wA t1 n1 n2
      go_wp2_with fail
      go_roundg q
      case measure => go_light; omega
      case rel => go_light; exact ⟨t + 1, s + 1, _, by omega, by go_num, ⟨by have := hs.out; omega⟩, HNX, ⟨HEND.out.1⟩, ⟨HEND.out.2⟩⟩
end Go.Proofs.YthpgjgmaamcaoaaDoor.P
end
section
namespace Go.Proofs.YthpgjgmaamcaoaaDoor.P
open Go.RowKit Go.Shelf Go.Proofs.YthpgjgmaamcaoaaDoorW.PrintWords Go.Proofs.YthpgjgmaamcaoaaDoorW.PrintLast Go.Proofs.YthpgjgmaamcaoaaDoorW.PrintMore Go.Proofs.YthpgjgmaamcaoaaDoor.Nm
set_option maxRecDepth 100000
set_option linter.unusedVariables false
set_option linter.unusedSimpArgs false
theorem sl_sym.tab23 : tabOf (opsOf Tryd.f101 23) = ([some 113, some 114, some 115, some 116, some 117, some 118, some 119, some 120, some 121, some 122, some 123, some 124, some 125, some 126, some 127, none, some 128, none], [[], [], [], [], [3], [], [], [6], [5, 7], [8], [], [], [10, 11], [12], [0, 1, 0, 1, 5, 6, 7, 8, 9, 13], [14, 9, 0, 1, 5, 6, 7, 8, 9, 13], [2, 4, 0, 1, 2, 3, 4, 5, 6, 7, 8, 9, 10, 11, 12, 13, 14, 15], [16, 13, 15, 0, 1, 2, 3, 4, 5, 6, 7, 8, 9, 10, 11, 12, 13, 14, 15]]) := by kernel_rfl
set_option maxHeartbeats 3200000 in
theorem sl_sym2 (g cap a m b N : Nat) (P L Q : List El) (x : El) (w : World) (hO : Own3 g w (P ++ L ++ [x] ++ Q)) (hN : N = (P ++ L ++ [x] ++ Q).length) (hl : N ≤ 1000) (ha : a = P.length) (hm : m = P.length + L.length) (hb : b = P.length + L.length + 1) (hL1 : L.length ≠ 1) (hL : Srt.Up El.v L) :
  Calls Tryd.prog 101 #[.slice (some ⟨g, 0, none⟩) N cap, .int .i64 a, .int .i64 m, .int .i64 b, .func (.func 48) #[] #[]] w (SPost g w (fun l => Srt.Mrg El.v P (L ++ [x]) Q l)) := by
 have hN' : N = P.length + L.length + 1 + Q.length := by rw [hN]; simp; omega
 obtain ⟨l0, el0⟩ : ∃ l, l = P ++ L ++ [x] ++ Q := ⟨_, rfl⟩
 rw [← el0] at hO;have el0 := Sdq.mk el0;have hO := Sdq.mk hO
 obtain ⟨nL, enL⟩ : ∃ n, n = L.length := ⟨_, rfl⟩
 have v1 : (m : Int) - (a : Int) = (nL : Int) := by omega
 have v2 : (b : Int) - (m : Int) = 1 := by omega
 have hn1 : ((nL : Int) == 1) = false := by simp; omega
 have hL := Sdq.mk hL;have E := Sdq.mk (And.intro hN' (And.intro ha (And.intro hm hb)))
 have bnd : m ≤ 1000 ∧ b ≤ 1000 ∧ nL ≤ 1000 := by omega
 have hmb := Sdq.mk (show a ≤ m by omega);clear hN' ha hm hb hN enL hL1;go_enter Tryd.func101, Tryd.ntmps101
 go_wp2_with fail
 go_loopg [14, 15] m (fun gk s14 s15 wr => ∃ (i j : Nat), s14 = .int .i64 (i : Int) ∧ s15 = .int .i64 (j : Int) ∧ Sdq (a ≤ i ∧ i ≤ j ∧ j ≤ m ∧ j - i ≤ gk ∧ (i - a = 0 ∨ ∃ h : i - a - 1 < L.length, L[i - a - 1].v ≤ x.v) ∧ (j - a = L.length ∨ ∃ h : j - a < L.length, x.v ≤ L[j - a].v)) ∧ Sdq (Below w.heap.size w wr))
 case atStart => exact ⟨a, m, rfl, rfl, ⟨Nat.le_refl _, hmb.out, Nat.le_refl _, by omega, .inl (Nat.sub_self _), .inl (by have := E.out; omega)⟩, ⟨Below.refl _ _⟩⟩
 case round =>
  obtain ⟨i, j, rfl, rfl, hI, hB⟩ := hrel;obtain ⟨h1, h2, h3, h4, -, -⟩ := hI.out
  rcases Nat.lt_or_eq_of_le h2 with hij | hij
  ·obtain ⟨h, vh⟩ : ∃ h : Nat, ((i : Int) + (j : Int)) / 2 = (h : Int) := ⟨(i + j) / 2, by omega⟩
   have hh : i ≤ h ∧ h < j := by omega
   obtain ⟨gk', rfl⟩ : ∃ k, gk = k + 1 := ⟨gk - 1, by omega⟩
   obtain ⟨hN', ha, hm, hb⟩ := E.out;have hOw := hO.out.below hB.out;obtain ⟨iy, ey⟩ := Srt.get_in (P := P) (M := L) (Q := [x] ++ Q) (l := l0) (by rw [el0.out]; simp) (i := h - a) (k := h) (by omega) (by omega);obtain ⟨ix, ex⟩ := Srt.get_mid (p := P ++ L) (q := Q) (x := x) (l := l0) (by rw [el0.out]; simp) (i := m) (by simp; omega)
   obtain ⟨y, yE⟩ : ∃ y, y = L[h - a]'(by omega) := ⟨_, rfl⟩
   rw [← yE] at ey;have y0 := hOw.at0 iy;have y1 := hOw.at1 iy;have y2 := hOw.at2 iy;rw [ey] at y0 y1 y2;have x0 := hOw.at0 ix;have x1 := hOw.at1 ix;have x2 := hOw.at2 ix;rw [ex] at x0 x1 x2
   have n1 : (h : Int) < (N : Int) := by omega
   have n2 : (m : Int) < (N : Int) := by omega
   obtain ⟨r, hr⟩ : ∃ r, r = sgn (x.v - y.v) := ⟨_, rfl⟩
   have hcmp := fun W => sort_by x.v y.v (.bool x.b) (.slice x.A x.n x.c) (.bool y.b) (.slice y.A y.n y.c) W
   rw [← hr] at hcmp;by_cases hyx : x.v < y.v
   ·have hr0 : r < 0 := by rw [hr, sgn_lt (by omega)]; decide
    have hr1 : (!decide (r < 0)) = false := by simp; omega
    have HN := Sdq.mk (show a ≤ i ∧ i ≤ h ∧ h ≤ m ∧ h - i ≤ gk' ∧ (i - a = 0 ∨ ∃ t : i - a - 1 < L.length, L[i - a - 1].v ≤ x.v) ∧ (h - a = L.length ∨ ∃ t : h - a < L.length, x.v ≤ L[h - a].v) from
     ⟨h1, by omega, by omega, by omega, hI.out.2.2.2.2.1, .inr ⟨by omega, by rw [yE] at hyx; omega⟩⟩)
    have lij : i + j ≤ 2000 ∧ h ≤ 1000 := by omega
    clear hI h1 h2 h3 h4 ey ex yE hr hyx iy ix hN' ha hm hb hOw
    go_upto_region 17 with fail
    refine wp_region_ws 9 (by kernel_rfl) (by kernel_rfl) ?_;simp only [List.take_succ_cons, List.take_zero, List.drop_succ_cons, List.drop_zero]
    repeat (refine ws_step (fun K hK => ?_); go_simp; refine hK _ ?_; clear hK K)
    refine ws_nil ?_;go_wp2_with (go_at_call 48; refine (hcmp _).mono ?_; rintro e w2 ⟨rfl, hb2⟩)
    go_roundg gk'
    case measure => go_light; omega
    case rel => go_light; exact ⟨i, h, rfl, rfl, HN, ⟨below_step hB.out.drew hb2⟩⟩
   ·have hr0 : ¬ r < 0 := by
     rw [hr]
     rcases Int.lt_or_eq_of_le (show y.v ≤ x.v by omega) with h | h
     ·rw [sgn_gt (by omega)]; decide
     ·rw [sgn_zero (by omega)]; decide
    have hr1 : (!decide (r < 0)) = true := by simp; omega
    have HN := Sdq.mk (show a ≤ h + 1 ∧ h + 1 ≤ j ∧ j ≤ m ∧ j - (h + 1) ≤ gk' ∧ (h + 1 - a = 0 ∨ ∃ t : h + 1 - a - 1 < L.length, L[h + 1 - a - 1].v ≤ x.v) ∧ (j - a = L.length ∨ ∃ h : j - a < L.length, x.v ≤ L[j - a].v) from
     ⟨by omega, by omega, h3, by omega, .inr ⟨by omega, by rw [yE] at hyx; simp only [show h + 1 - a - 1 = h - a by omega]; omega⟩, hI.out.2.2.2.2.2⟩)
    have lij : i + j ≤ 2000 ∧ h ≤ 1000 := by omega
    clear hI h1 h2 h3 h4 ey ex yE hr hyx iy ix hN' ha hm hb hOw
    go_upto_region 17 with fail
    refine wp_region_ws 9 (by kernel_rfl) (by kernel_rfl) ?_;simp only [List.take_succ_cons, List.take_zero, List.drop_succ_cons, List.drop_zero]
    repeat (refine ws_step (fun K hK => ?_); go_simp; refine hK _ ?_; clear hK K)
    refine ws_nil ?_;go_wp2_with (go_at_call 48; refine (hcmp _).mono ?_; rintro e w2 ⟨rfl, hb2⟩)
    go_roundg gk'
    case measure => go_light; omega
    case rel => go_light; exact ⟨h + 1, j, by go_num, rfl, HN, ⟨below_step hB.out.drew hb2⟩⟩
  ·subst hij
   obtain ⟨hN', ha, hm, hb⟩ := E.out
   obtain ⟨k, ek⟩ : ∃ k, k = i - a := ⟨_, rfl⟩
   obtain ⟨L1, eL1⟩ : ∃ l, l = L.take k := ⟨_, rfl⟩
   obtain ⟨L2, eL2⟩ : ∃ l, l = L.drop k := ⟨_, rfl⟩
   have hk : k ≤ L.length := by omega
   have lL : L1.length = k ∧ L2.length = L.length - k := by rw [eL1, eL2]; simp; omega
   have hT := Sdq.mk (show Srt.Thr (P ++ L1) x L2 Q L2.length l0 by rw [el0.out, show L = L1 ++ L2 by rw [eL1, eL2]; exact (List.take_append_drop ..).symm]; simp [Srt.Thr]);have hEND := Sdq.mk (show ∀ l, Srt.Thr (P ++ L1) x L2 Q 0 l → Srt.Mrg El.v P (L ++ [x]) Q l from fun l h => ⟨L1 ++ x :: L2, by rw [h]; simp, by rw [eL1, eL2]; exact Srt.perm_one' k, by rw [eL1, eL2]; exact Srt.one_up hL.out hk (by rw [ek]; exact hI.out.2.2.2.2.1) (by rw [ek]; exact hI.out.2.2.2.2.2)⟩);have hNN := Sdq.mk (show i = (P ++ L1).length ∧ N = i + L2.length + 1 + Q.length ∧ m = i + L2.length by simp; omega)
   have lak : i ≤ 1000 := by omega
   clear hI h1 h2 h3 h4 ek eL1 eL2 lL hN' ha hm hb hk
   go_wp2_with fail
   go_loopg [17] L2.length (fun gk s17 wr => ∃ (k : Nat) (l : List El), s17 = .int .i64 (k : Int) ∧ Sdq (k = i + gk ∧ gk ≤ L2.length) ∧ Sdq (Srt.Thr (P ++ L1) x L2 Q gk l) ∧ Sdq (Own3 g wr l) ∧ Sdq (Kbt w wr g none ∧ Below g w wr))
   case atStart => exact ⟨m, l0, rfl, ⟨hNN.out.2.2, Nat.le_refl _⟩, hT, ⟨hO.out.below hB.out⟩, ⟨Kbt.of_below hB.out g none, hB.out.mono (Nat.le_of_lt hO.out.lt)⟩⟩
   case round =>
    clear hO hT hB;obtain ⟨k, l, rfl, hs, hT, hO, hK⟩ := hrel
    cases gk with
    | zero =>
     obtain rfl : k = i := hs.out.1;have HE := Sdq.mk (hEND.out l hT.out);go_wp2;refine bodyPost_ret (results_none rfl _ _ _) rfl ?_;exact ⟨rfl, l, HE.out, hO.out, hK.out.1, hK.out.2⟩
    | succ q =>
     obtain ⟨s, es⟩ : ∃ s, s = i + q := ⟨_, rfl⟩
     obtain rfl : k = s + 1 := by have := hs.out; omega
     have hq : q < L2.length := by have := hs.out; omega
     obtain ⟨i1, i2, hnx⟩ := hT.out.dn (k := s) hq (by have := hNN.out; omega)
     have sN : s + 1 < N := by have := hNN.out; omega
     obtain ⟨ea, eaE⟩ : ∃ e, e = l[s + 1] := ⟨_, rfl⟩
     obtain ⟨eb, ebE⟩ : ∃ e, e = l[s] := ⟨_, rfl⟩
     rw [← eaE, ← ebE] at hnx
     obtain ⟨X0, X0e⟩ : ∃ X, X = { wr with drawn := wr.drawn + 1 } := ⟨_, rfl⟩
     have hb0 : Below wr.heap.size wr X0 := by rw [X0e]; exact below_drew (Below.refl _ _)
     have O0 := hO.out.below hb0
     obtain ⟨X1, X1e⟩ : ∃ X, X = put3 X0 g (s + 1) eb := ⟨_, rfl⟩
     obtain ⟨X2, X2e⟩ : ∃ X, X = put3 X1 g (s) ea := ⟨_, rfl⟩
     have O1 : Own3 g X1 (l.set (s + 1) eb) := by rw [X1e]; exact O0.put i1 eb
     have j2 : s < (l.set (s + 1) eb).length := by rw [List.length_set]; exact i2
     have O2 : Own3 g X2 ((l.set (s + 1) eb).set (s) ea) := by rw [X2e]; exact O1.put j2 ea
     have HA := Sdq.mk (And.intro (O0.at0 i1) (And.intro (O0.at1 i1) (O0.at2 i1)));have HB := Sdq.mk (And.intro (O0.at0 i2) (And.intro (O0.at1 i2) (O0.at2 i2)));rw [← eaE] at HA;rw [← ebE] at HB;have HP := Sdq.mk (And.intro (O0.at0 i1) (And.intro (O0.at1 i1) (O0.at2 i1)));have HQ := Sdq.mk (And.intro (O1.at0 j2) (And.intro (O1.at1 j2) (O1.at2 j2)));generalize (l.set (s + 1) eb)[s] = eq_ at HQ;generalize l[s + 1] = ep_ at HP;have FP := Sdq.mk (And.intro (O0.free ((s + 1) * 3)) (And.intro (O0.free ((s + 1) * 3 + 1)) (O0.free ((s + 1) * 3 + 2))));have FQ := Sdq.mk (And.intro (O1.free ((s) * 3)) (And.intro (O1.free ((s) * 3 + 1)) (O1.free ((s) * 3 + 2))));have HEND := Sdq.mk (And.intro O2 (And.intro (show Kbt w X2 g none by rw [X2e, X1e]; exact keep_put3 (keep_put3 (hK.out.1.trans (Kbt.of_below hb0 g none) (.inl rfl)) _ _) _ _) (show Below g w X2 by rw [X2e, X1e]; exact below_put3 (below_put3 (hK.out.2.trans (hb0.mono (by have := hO.out.lt; omega))) _ _) _ _)));have HNX := Sdq.mk hnx;have X0E := Sdq.mk X0e;have X1E := Sdq.mk X1e;have X2E := Sdq.mk X2e;clear hb0 O0 O1 O2 hO hK eaE ebE j2 hnx X0e X1e X2e
     have n1 : 0 ≤ (s : Int) + 1 ∧ (s : Int) + 1 < (N : Int) := by omega
     have t1 : ((s : Int) + 1).toNat = s + 1 := by omega
     have n2 : (s : Int) < (N : Int) := by omega
     have c1 : (i : Int) < (s : Int) + 1 := by omega
     have s2 : s ≤ 1000 := by omega
     have HS := Sdq.mk (And.intro es (Nat.le_of_lt hq));clear hT hs es hq i1 i2 sN
     go_upto_region 23 with fail
     have wA := IntWalk.i64_in ((s : Int) + 1) (by omega);have wB := IntWalk.i64_in (s : Int) (by omega);refine wpIn_wide.1 (flowIn (n := 3) (m := 18) sl_sym.tab23 rfl (fun l w => ((l 17 = true → l 15 = true) ∧ (l 15 = true → l 9 = true ∧ l 13 = true)) ∧ w = if l 17 = true then X2 else if l 15 = true then X1 else X0) (fun ix_ => (#[.slice (some ⟨g, 0, none⟩) N cap, .int .i64 ((s : Int) + 1), .slice (some ⟨g, 0, none⟩) N cap, .int .i64 ((s : Int) + 1), .int .i64 ((s : Int)), .slice (some ⟨g, 0, none⟩) N cap, .int .i64 ((s : Int) + 1), .int .i64 ((s : Int)), .pointer (some ⟨g, s * 3, none⟩), .agg #[.int .i64 eb.v, .bool eb.b, .slice eb.A eb.n eb.c], .slice (some ⟨g, 0, none⟩) N cap, .int .i64 ((s : Int) + 1), .pointer (some ⟨g, (s + 1) * 3, none⟩), .agg #[.int .i64 ea.v, .bool ea.b, .slice ea.A ea.n ea.c], .pointer (some ⟨g, (s + 1) * 3, none⟩), undef, .pointer (some ⟨g, s * 3, none⟩), undef] : Array Value).getD ix_ undef) rfl (by kernel_rfl) (fun l l' w hl h => by rw [← hl 9 (by decide), ← hl 13 (by decide), ← hl 15 (by decide), ← hl 17 (by decide)]; exact h) ⟨by simp, by rw [X0E.out]; rfl⟩ ⟨⟨⟨⟨⟨⟨⟨⟨⟨⟨⟨⟨⟨⟨⟨⟨⟨⟨trivial, ?_⟩, ?_⟩, ?_⟩, ?_⟩, ?_⟩, ?_⟩, ?_⟩, ?_⟩, ?_⟩, ?_⟩, ?_⟩, ?_⟩, ?_⟩, ?_⟩, ?_⟩, ?_⟩, ?_⟩, ?_⟩ ?_)
     ·refine AtIn.of _ rfl rfl (fun lq ac w hC hli hd hb K hK => ?_)
      have b0 : ac.tmps[0]? = some (.slice (some ⟨g, 0, none⟩) N cap) := hb 0 (by decide);have hk := hK.out w (by simpa using hC);clear hK hC hd hb HEND HNX X0E X1E X2E hEND hNN HS
      go_simp
      first | exact hk | simpa using hk
     ·refine AtIn.of _ rfl rfl (fun lq ac w hC hli hd hb K hK => ?_)
      have b17 : ac.tmps[17]? = some (.int .i64 ((s : Int) + 1)) := hb 17 (by decide);have hk := hK.out w (by simpa using hC);clear hK hC hd hb HEND HNX X0E X1E X2E hEND hNN HS
      go_simp
      first | exact hk | simpa using hk
     ·refine AtIn.of _ rfl rfl (fun lq ac w hC hli hd hb K hK => ?_)
      have b0 : ac.tmps[0]? = some (.slice (some ⟨g, 0, none⟩) N cap) := hb 0 (by decide);have hk := hK.out w (by simpa using hC);clear hK hC hd hb HEND HNX X0E X1E X2E hEND hNN HS
      go_simp
      first | exact hk | simpa using hk
     ·refine AtIn.of _ rfl rfl (fun lq ac w hC hli hd hb K hK => ?_)
      have b17 : ac.tmps[17]? = some (.int .i64 ((s : Int) + 1)) := hb 17 (by decide);have hk := hK.out w (by simpa using hC);clear hK hC hd hb HEND HNX X0E X1E X2E hEND hNN HS
      go_simp
      first | exact hk | simpa using hk
     ·refine AtIn.of _ rfl rfl (fun lq ac w hC hli hd hb K hK => ?_)
      have q116 : ac.tmps[116]? = some (.int .i64 ((s : Int) + 1)) := (hd 3 (by decide)).2 116 rfl;have hk := hK.out w (by simpa using hC);clear hK hC hd hb HEND HNX X0E X1E X2E hEND hNN HS
      go_simp
      first | exact hk | simpa using hk
     ·refine AtIn.of _ rfl rfl (fun lq ac w hC hli hd hb K hK => ?_)
      have b0 : ac.tmps[0]? = some (.slice (some ⟨g, 0, none⟩) N cap) := hb 0 (by decide);have hk := hK.out w (by simpa using hC);clear hK hC hd hb HEND HNX X0E X1E X2E hEND hNN HS
      go_simp
      first | exact hk | simpa using hk
     ·refine AtIn.of _ rfl rfl (fun lq ac w hC hli hd hb K hK => ?_)
      have b17 : ac.tmps[17]? = some (.int .i64 ((s : Int) + 1)) := hb 17 (by decide);have hk := hK.out w (by simpa using hC);clear hK hC hd hb HEND HNX X0E X1E X2E hEND hNN HS
      go_simp
      first | exact hk | simpa using hk
     ·refine AtIn.of _ rfl rfl (fun lq ac w hC hli hd hb K hK => ?_)
      have q119 : ac.tmps[119]? = some (.int .i64 ((s : Int) + 1)) := (hd 6 (by decide)).2 119 rfl;have hk := hK.out w (by simpa using hC);clear hK hC hd hb HEND HNX X0E X1E X2E hEND hNN HS
      go_simp
      first | exact hk | simpa using hk
     ·refine AtIn.of _ rfl rfl (fun lq ac w hC hli hd hb K hK => ?_)
      have q118 : ac.tmps[118]? = some (.slice (some ⟨g, 0, none⟩) N cap) := (hd 5 (by decide)).2 118 rfl;have q120 : ac.tmps[120]? = some (.int .i64 ((s : Int))) := (hd 7 (by decide)).2 120 rfl;have hk := hK.out w (by simpa using hC);clear hK hC hd hb HEND HNX X0E X1E X2E hEND hNN HS
      go_simp
      first | exact hk | simpa using hk
     ·refine AtIn.of _ rfl rfl (fun lq ac w hC hli hd hb K hK => ?_)
      have q121 : ac.tmps[121]? = some (.pointer (some ⟨g, s * 3, none⟩)) := (hd 8 (by decide)).2 121 rfl
      have h1 : lq 15 = false := by
       cases h : lq 15 with
       | false => rfl
       | true => exact absurd (hC.1.2 h).1 (by rw [hli]; decide)
      have h2 : lq 17 = false := by
       cases h : lq 17 with
       | false => rfl
       | true => exact absurd (hC.1.1 h) (by rw [h1]; decide)
      obtain rfl : w = X0 := by rw [hC.2, if_neg (by rw [h2]; decide), if_neg (by rw [h1]; decide)]
      have z := (HB).out;obtain ⟨z0, z1, z2⟩ := z;have hk := hK.out w ⟨⟨fun h => by simp [h2] at h, fun h => by simp [h1] at h⟩, by simp [h1, h2]⟩;clear hK hC hd hb HEND HNX X0E X1E X2E hEND hNN HS
      go_simp
      first | exact hk | simpa using hk
     ·refine AtIn.of _ rfl rfl (fun lq ac w hC hli hd hb K hK => ?_)
      have b0 : ac.tmps[0]? = some (.slice (some ⟨g, 0, none⟩) N cap) := hb 0 (by decide);have hk := hK.out w (by simpa using hC);clear hK hC hd hb HEND HNX X0E X1E X2E hEND hNN HS
      go_simp
      first | exact hk | simpa using hk
     ·refine AtIn.of _ rfl rfl (fun lq ac w hC hli hd hb K hK => ?_)
      have b17 : ac.tmps[17]? = some (.int .i64 ((s : Int) + 1)) := hb 17 (by decide);have hk := hK.out w (by simpa using hC);clear hK hC hd hb HEND HNX X0E X1E X2E hEND hNN HS
      go_simp
      first | exact hk | simpa using hk
     ·refine AtIn.of _ rfl rfl (fun lq ac w hC hli hd hb K hK => ?_)
      have q123 : ac.tmps[123]? = some (.slice (some ⟨g, 0, none⟩) N cap) := (hd 10 (by decide)).2 123 rfl;have q124 : ac.tmps[124]? = some (.int .i64 ((s : Int) + 1)) := (hd 11 (by decide)).2 124 rfl;have hk := hK.out w (by simpa using hC);clear hK hC hd hb HEND HNX X0E X1E X2E hEND hNN HS
      go_simp
      first | exact hk | simpa using hk
     ·refine AtIn.of _ rfl rfl (fun lq ac w hC hli hd hb K hK => ?_)
      have q125 : ac.tmps[125]? = some (.pointer (some ⟨g, (s + 1) * 3, none⟩)) := (hd 12 (by decide)).2 125 rfl
      have h1 : lq 15 = false := by
       cases h : lq 15 with
       | false => rfl
       | true => exact absurd (hC.1.2 h).2 (by rw [hli]; decide)
      have h2 : lq 17 = false := by
       cases h : lq 17 with
       | false => rfl
       | true => exact absurd (hC.1.1 h) (by rw [h1]; decide)
      obtain rfl : w = X0 := by rw [hC.2, if_neg (by rw [h2]; decide), if_neg (by rw [h1]; decide)]
      have z := (HA).out;obtain ⟨z0, z1, z2⟩ := z;have hk := hK.out w ⟨⟨fun h => by simp [h2] at h, fun h => by simp [h1] at h⟩, by simp [h1, h2]⟩;clear hK hC hd hb HEND HNX X0E X1E X2E hEND hNN HS
      go_simp
      first | exact hk | simpa using hk
     ·refine AtIn.of _ rfl rfl (fun lq ac w hC hli hd hb K hK => ?_)
      have q113 : ac.tmps[113]? = some (.slice (some ⟨g, 0, none⟩) N cap) := (hd 0 (by decide)).2 113 rfl;have q114 : ac.tmps[114]? = some (.int .i64 ((s : Int) + 1)) := (hd 1 (by decide)).2 114 rfl;have hk := hK.out w (by simpa using hC);clear hK hC hd hb HEND HNX X0E X1E X2E hEND hNN HS
      go_simp
      first | exact hk | simpa using hk
     ·refine AtIn.of _ rfl rfl (fun lq ac w hC hli hd hb K hK => ?_)
      have q127 : ac.tmps[127]? = some (.pointer (some ⟨g, (s + 1) * 3, none⟩)) := (hd 14 (by decide)).2 127 rfl;have q122 : ac.tmps[122]? = some (.agg #[.int .i64 eb.v, .bool eb.b, .slice eb.A eb.n eb.c]) := (hd 9 (by decide)).2 122 rfl
      have h2 : lq 17 = false := by
       cases h : lq 17 with
       | false => rfl
       | true => exact absurd (hC.1.1 h) (by rw [hli]; decide)
      obtain rfl : w = X0 := by rw [hC.2, if_neg (by rw [h2]; decide), if_neg (by rw [hli]; decide)]
      obtain ⟨z0, z1, z2⟩ := HP.out;obtain ⟨f0, f1, f2⟩ := FP.out;have hk := hK.out X1 ⟨⟨fun _ => by simp, fun _ => by simp; exact ⟨(hd 9 (by decide)).1, (hd 13 (by decide)).1⟩⟩, by simp [h2]⟩;rw [X1E.out] at hk;unfold put3 at hk;clear hK hC hd hb HEND HNX X0E X1E X2E hEND hNN HS
      go_simp
      first | exact hk | simpa using hk
     ·refine AtIn.of _ rfl rfl (fun lq ac w hC hli hd hb K hK => ?_)
      have q115 : ac.tmps[115]? = some (.slice (some ⟨g, 0, none⟩) N cap) := (hd 2 (by decide)).2 115 rfl;have q117 : ac.tmps[117]? = some (.int .i64 ((s : Int))) := (hd 4 (by decide)).2 117 rfl;have hk := hK.out w (by simpa using hC);clear hK hC hd hb HEND HNX X0E X1E X2E hEND hNN HS
      go_simp
      first | exact hk | simpa using hk
     ·refine AtIn.of _ rfl rfl (fun lq ac w hC hli hd hb K hK => ?_)
      have q128 : ac.tmps[128]? = some (.pointer (some ⟨g, s * 3, none⟩)) := (hd 16 (by decide)).2 128 rfl;have q126 : ac.tmps[126]? = some (.agg #[.int .i64 ea.v, .bool ea.b, .slice ea.A ea.n ea.c]) := (hd 13 (by decide)).2 126 rfl;have h1 : lq 15 = true := (hd 15 (by decide)).1
      obtain rfl : w = X1 := by rw [hC.2, if_neg (by rw [hli]; decide), if_pos h1]
      obtain ⟨z0, z1, z2⟩ := HQ.out;obtain ⟨f0, f1, f2⟩ := FQ.out;have hk := hK.out X2 ⟨⟨fun _ => by simp [h1], fun _ => by simp; exact ⟨(hd 9 (by decide)).1, (hd 13 (by decide)).1⟩⟩, by simp⟩;rw [X2E.out] at hk;unfold put3 at hk;clear hK hC hd hb HEND HNX X0E X1E X2E hEND hNN HS
      go_simp
      first | exact hk | simpa using hk
     ·rintro w ⟨-, hw⟩
      rw [if_pos rfl] at hw;simp only [fill, Act.put, if_true, List.getD_eq_getElem?_getD, List.setIfInBounds_toArray, List.set_cons_zero, List.set_cons_succ];clear HA HB HP HQ FP FQ X0E X1E X2E;rw [hw];clear hw wA wB t1 n1 n2
      go_wp2_with fail
      go_roundg q
      case measure => go_light; omega
      case rel => go_light; exact ⟨s, _, by go_num, HS, HNX, ⟨HEND.out.1⟩, ⟨HEND.out.2⟩⟩
end Go.Proofs.YthpgjgmaamcaoaaDoor.P
end
section
namespace Go.Proofs.YthpgjgmaamcaoaaDoor.P
open Go.RowKit Go.Shelf Go.Proofs.YthpgjgmaamcaoaaDoorW.PrintWords Go.Proofs.YthpgjgmaamcaoaaDoorW.PrintLast Go.Proofs.YthpgjgmaamcaoaaDoorW.PrintMore Go.Proofs.YthpgjgmaamcaoaaDoor.Nm
set_option maxRecDepth 100000
set_option linter.unusedVariables false
set_option linter.unusedSimpArgs false
structure Sea (a m b mid : Nat) (L R : List El) (st r : Nat) : Prop where
 o1 : a ≤ st
 o2 : mid + m ≤ st + b
 o3 : st ≤ r
 o4 : r ≤ mid
 o5 : r ≤ m
 f1 : st - a = 0 ∨ mid - st = R.length ∨ ∃ (x : st - a - 1 < L.length) (y : mid - st < R.length), L[st - a - 1].v ≤ R[mid - st].v
 f2 : r - a = L.length ∨ mid - r = 0 ∨ ∃ (x : r - a < L.length) (y : mid - r - 1 < R.length), R[mid - r - 1].v ≤ L[r - a].v
def SymIH (g cap N n : Nat) : Prop := ∀ (a m b : Nat) (P L R Q : List El) (w : World), Own3 g w (P ++ L ++ R ++ Q) → N = (P ++ L ++ R ++ Q).length → a = P.length → m = P.length + L.length → b = P.length + L.length + R.length → 0 < L.length → 0 < R.length → L.length + R.length < n → Srt.Up El.v L → Srt.Up El.v R →
 Calls Tryd.prog 101 #[.slice (some ⟨g, 0, none⟩) N cap, .int .i64 (a : Nat), .int .i64 (m : Nat), .int .i64 (b : Nat), .func (.func 48) #[] #[]] w (SPost g w (fun l => Srt.Mrg El.v P (L ++ R) Q l))
structure SymIn (g cap N a m b mid e st : Nat) (P L1 L2 R1 R2 Q : List El) (n : Nat) : Prop where
 len : N = P.length + L1.length + L2.length + R1.length + R2.length + Q.length
 hl : N ≤ 1000
 ha : a = P.length
 hst : st = a + L1.length
 hm : m = st + L2.length
 hmid : mid = st + R1.length
 he : e = m + R1.length
 hb : b = e + R2.length
 lo : a < mid
 hi : mid < b
 hn : n = L1.length + L2.length + R1.length + R2.length
 u1 : Srt.Up El.v L1
 u2 : Srt.Up El.v L2
 v1 : Srt.Up El.v R1
 v2 : Srt.Up El.v R2
 l2 : 2 ≤ L1.length + L2.length
 r2 : 2 ≤ R1.length + R2.length
 ih : SymIH g cap N n
section
variable {g cap N a m b mid e st n : Nat} {P L1 L2 R1 R2 Q : List El} {w : World}
theorem SymIn.any4 (h : SymIn g cap N a m b mid e st P L1 L2 R1 R2 Q n) : (0 < L1.length ∨ 0 < L2.length) ∧ (0 < R1.length ∨ 0 < R2.length) ∧ (0 < L1.length ∨ 0 < R1.length) ∧ (0 < L2.length ∨ 0 < R2.length) := by
 obtain ⟨len, hl, ha, hst, hm, hmid, he, hb, lo, hi, hn, -, -, -, -, l2, r2, -⟩ := h
 omega
theorem SymIn.rot (h : SymIn g cap N a m b mid e st P L1 L2 R1 R2 Q n) (hO : Own3 g w (P ++ L1 ++ L2 ++ R1 ++ R2 ++ Q)) (h1 : st < m) (h2 : m < e) : Calls Tryd.prog 107 #[.slice (some ⟨g, 0, none⟩) N cap, .int .i64 (st : Nat), .int .i64 (m : Nat), .int .i64 (e : Nat), .func (.func 48) #[] #[]] w (SPost g w (fun l => l = P ++ L1 ++ R1 ++ L2 ++ R2 ++ Q)) := by
 obtain ⟨len, hl, ha, hst, hm, hmid, he, hb, lo, hi, hn, -, -, -, -, -, -, -⟩ := h;refine (sl_rotate g cap st m e N (P ++ L1) L2 R1 (R2 ++ Q) (.func (.func 48) #[] #[]) w (by simpa using hO) (by simp; omega) hl (by simp; omega) (by simp; omega) (by simp; omega) (by omega) (by omega)).mono ?_;rintro en w' ⟨rfl, l, rfl, hr⟩;exact ⟨rfl, _, by simp, hr⟩
theorem SymIn.norot (h : SymIn g cap N a m b mid e st P L1 L2 R1 R2 Q n) (h1 : ¬ (st < m ∧ m < e)) : P ++ L1 ++ L2 ++ R1 ++ R2 ++ Q = P ++ L1 ++ R1 ++ L2 ++ R2 ++ Q := by
 have hn : L2 = [] ∨ R1 = [] := by
  obtain ⟨len, hl, ha, hst, hm, hmid, he, hb, lo, hi, hn, -, -, -, -, -, -, -⟩ := h;by_cases h0 : L2.length = 0
  ·exact .inl (List.eq_nil_of_length_eq_zero h0)
  ·exact .inr (List.eq_nil_of_length_eq_zero (by omega))
 rcases hn with rfl | rfl <;> simp
theorem SymIn.rec1 (h : SymIn g cap N a m b mid e st P L1 L2 R1 R2 Q n) (hO : Own3 g w (P ++ L1 ++ R1 ++ L2 ++ R2 ++ Q)) (h1 : a < st) (h2 : st < mid) : Calls Tryd.prog 101 #[.slice (some ⟨g, 0, none⟩) N cap, .int .i64 (a : Nat), .int .i64 (st : Nat), .int .i64 (mid : Nat), .func (.func 48) #[] #[]] w (SPost g w (fun l => ∃ M1 : List El, (M1.Perm (L1 ++ R1) ∧ Srt.Up El.v M1) ∧ l = P ++ M1 ++ L2 ++ R2 ++ Q)) := by
 obtain ⟨len, hl, ha, hst, hm, hmid, he, hb, lo, hi, hn, u1, u2, v1, v2, -, -, ih⟩ := h;refine (ih a st mid P L1 R1 (L2 ++ R2 ++ Q) w (by simpa using hO) (by simp; omega) (by omega) (by omega) (by omega) (by omega) (by omega) (by omega) u1 v1).mono ?_;rintro en w' ⟨rfl, l, ⟨M1, rfl, hp, hu⟩, hr⟩;exact ⟨rfl, _, ⟨M1, ⟨hp, hu⟩, by simp⟩, hr⟩
theorem SymIn.norec1 (h : SymIn g cap N a m b mid e st P L1 L2 R1 R2 Q n) (h1 : ¬ (a < st ∧ st < mid)) : Srt.Up El.v (L1 ++ R1) := by
 obtain ⟨len, hl, ha, hst, hm, hmid, he, hb, lo, hi, hn, u1, u2, v1, v2, -, -, -⟩ := h;by_cases h0 : L1.length = 0
 ·rw [List.eq_nil_of_length_eq_zero h0]; exact v1
 ·rw [List.eq_nil_of_length_eq_zero (l := R1) (by omega)]; simpa using u1
theorem SymIn.rec2 (h : SymIn g cap N a m b mid e st P L1 L2 R1 R2 Q n) {M1 : List El} (hM : M1.Perm (L1 ++ R1)) (hO : Own3 g w (P ++ M1 ++ L2 ++ R2 ++ Q)) (h1 : mid < e) (h2 : e < b) : Calls Tryd.prog 101 #[.slice (some ⟨g, 0, none⟩) N cap, .int .i64 (mid : Nat), .int .i64 (e : Nat), .int .i64 (b : Nat), .func (.func 48) #[] #[]] w (SPost g w (fun l => Srt.Mrg El.v (P ++ M1) (L2 ++ R2) Q l)) := by
 obtain ⟨len, hl, ha, hst, hm, hmid, he, hb, lo, hi, hn, u1, u2, v1, v2, -, -, ih⟩ := h;have hl1 := hM.length_eq;rw [List.length_append] at hl1;exact ih mid e b (P ++ M1) L2 R2 Q w hO (by simp; omega) (by simp; omega) (by simp; omega) (by simp; omega) (by omega) (by omega) (by omega) u2 v2
theorem SymIn.norec2 (h : SymIn g cap N a m b mid e st P L1 L2 R1 R2 Q n) (M1 : List El) (h1 : ¬ (mid < e ∧ e < b)) : Srt.Mrg El.v (P ++ M1) (L2 ++ R2) Q (P ++ M1 ++ L2 ++ R2 ++ Q) := by
 refine ⟨L2 ++ R2, by simp, List.Perm.refl _, ?_⟩;obtain ⟨len, hl, ha, hst, hm, hmid, he, hb, lo, hi, hn, u1, u2, v1, v2, -, -, -⟩ := h;by_cases h0 : L2.length = 0
 ·rw [List.eq_nil_of_length_eq_zero h0]; exact v2
 ·rw [List.eq_nil_of_length_eq_zero (l := R2) (by omega)]; simpa using u2
end
set_option maxHeartbeats 6400000 in
theorem sl_sym3 (g cap a m b N : Nat) (P L R Q : List El) (w : World) (hO : Own3 g w (P ++ L ++ R ++ Q)) (hN : N = (P ++ L ++ R ++ Q).length) (hl : N ≤ 1000) (ha : a = P.length) (hm : m = P.length + L.length) (hb : b = P.length + L.length + R.length) (hL2 : 2 ≤ L.length) (hR2 : 2 ≤ R.length) (hL : Srt.Up El.v L) (hR : Srt.Up El.v R) (IH : SymIH g cap N (L.length + R.length)) :
  Calls Tryd.prog 101 #[.slice (some ⟨g, 0, none⟩) N cap, .int .i64 a, .int .i64 m, .int .i64 b, .func (.func 48) #[] #[]] w (SPost g w (fun l => Srt.Mrg El.v P (L ++ R) Q l)) := by
 have hN' : N = P.length + L.length + R.length + Q.length := by rw [hN]; simp; omega
 obtain ⟨l0, el0⟩ : ∃ l, l = P ++ L ++ R ++ Q := ⟨_, rfl⟩
 rw [← el0] at hO;have el0 := Sdq.mk el0;have hO := Sdq.mk hO;have IH := Sdq.mk IH
 obtain ⟨nL, enL⟩ : ∃ n, n = L.length := ⟨_, rfl⟩
 obtain ⟨nR, enR⟩ : ∃ n, n = R.length := ⟨_, rfl⟩
 obtain ⟨mid, emid⟩ : ∃ mid, mid = (a + b) / 2 := ⟨_, rfl⟩
 obtain ⟨n, en⟩ : ∃ n, n = mid + m := ⟨_, rfl⟩
 obtain ⟨p, ep⟩ : ∃ p, p = n - 1 := ⟨_, rfl⟩
 have v1 : (m : Int) - (a : Int) = (nL : Int) := by omega
 have v2 : (b : Int) - (m : Int) = (nR : Int) := by omega
 have v3 : ((a : Int) + (b : Int)) / 2 = (mid : Int) := by omega
 have v4 : (mid : Int) + (m : Int) = (n : Int) := by omega
 have v5 : (n : Int) - 1 = (p : Int) := by omega
 have hn1 : ((nL : Int) == 1) = false := by simp; omega
 have hn2 : ((nR : Int) == 1) = false := by simp; omega
 have hLR := Sdq.mk (And.intro hL hR);have E := Sdq.mk (show N = P.length + L.length + R.length + Q.length ∧ a = P.length ∧ m = a + L.length ∧ b = m + R.length ∧ n = mid + m ∧ p + 1 = n ∧ a < mid ∧ mid < b ∧ 2 * mid ≤ a + b ∧ a + b ≤ 2 * mid + 1 ∧ 2 ≤ L.length ∧ 2 ≤ R.length by omega)
 have bnd : m ≤ 1000 ∧ b ≤ 1000 ∧ nL ≤ 1000 ∧ nR ≤ 1000 ∧ mid ≤ 1000 ∧ n ≤ 2000 ∧ a ≤ 1000 ∧ p ≤ 2000 := by omega
 clear hN' ha hm hb hN enL enR hL2 hR2 hL hR emid en ep;go_enter Tryd.func101, Tryd.ntmps101
 go_upto_if 140 with fail
 go_cut [20, 21] (fun s20 s21 wc => ∃ (st r : Nat), s20 = .int .i64 (st : Int) ∧ s21 = .int .i64 (r : Int) ∧ Sdq (Sea a m b mid L R st r) ∧ wc = w)
 case first =>
  by_cases hmm : mid < m
  ·obtain ⟨s, es⟩ : ∃ s, s + b = n := ⟨n - b, by have := E.out; omega⟩
   have v6 : (n : Int) - (b : Int) = (s : Int) := by omega
   have HS := Sdq.mk (show Sea a m b mid L R s mid from by
    have e := E.out
    exact ⟨by omega, by omega, by omega, Nat.le_refl _, by omega, .inr (.inl (by omega)), .inr (.inl (Nat.sub_self _))⟩)
   have c1 : (mid : Int) < (m : Int) := by omega
   have s1 : s ≤ 2000 := by omega
   clear es
   go_wp2_with fail
   go_meet
   case rel => exact ⟨s, mid, by go_num, rfl, HS, rfl⟩
  ·have HS := Sdq.mk (show Sea a m b mid L R a m from by
    have e := E.out
    exact ⟨Nat.le_refl _, by omega, by omega, by omega, Nat.le_refl _, .inl (Nat.sub_self _), .inl (by omega)⟩)
   have c1 : ¬ (mid : Int) < (m : Int) := by omega
   go_wp2_with fail
   go_meet
   case rel => exact ⟨a, m, rfl, rfl, HS, rfl⟩
 case rest =>
  obtain ⟨st0, r0, rfl, rfl, HS, hw⟩ := hcut;have hw := hw.symm;subst hw
  go_wp2_with fail
  go_loopg [20, 21] b (fun gk s20 s21 wr => ∃ (st r : Nat), s20 = .int .i64 (st : Int) ∧ s21 = .int .i64 (r : Int) ∧ Sdq (Sea a m b mid L R st r ∧ r - st ≤ gk) ∧ Sdq (Below w.heap.size w wr))
  case atStart => exact ⟨st0, r0, rfl, rfl, ⟨HS.out, by have := HS.out.o4; have := E.out; omega⟩, ⟨Below.refl _ _⟩⟩
  case round =>
   clear HS;obtain ⟨st, r, rfl, rfl, HS, hB⟩ := hrel;obtain ⟨o1, o2, o3, o4, o5, -, -⟩ := HS.out.1;have hgk := HS.out.2
   rcases Nat.lt_or_eq_of_le o3 with hij | hij
   ·obtain ⟨c, vh⟩ : ∃ h : Nat, ((st : Int) + (r : Int)) / 2 = (h : Int) := ⟨(st + r) / 2, by omega⟩
    have hh : st ≤ c ∧ c < r := by omega
    obtain ⟨gk', rfl⟩ : ∃ k, gk = k + 1 := ⟨gk - 1, by omega⟩
    obtain ⟨hN', ha, hm, hb, en, ep, -⟩ := E.out
    obtain ⟨q, eq⟩ : ∃ q, q + c = p := ⟨p - c, by omega⟩
    have vq : (p : Int) - (c : Int) = (q : Int) := by omega
    have hOw := hO.out.below hB.out;obtain ⟨iy, ey⟩ := Srt.get_in (P := P) (M := L) (Q := R ++ Q) (l := l0) (by rw [el0.out]; simp) (i := c - a) (k := c) (by omega) (by omega);obtain ⟨iz, ez⟩ := Srt.get_in (P := P ++ L) (M := R) (Q := Q) (l := l0) el0.out (i := mid - c - 1) (k := q) (by omega) (by simp; omega)
    obtain ⟨y, yE⟩ : ∃ y, y = L[c - a]'(by omega) := ⟨_, rfl⟩
    obtain ⟨z, zE⟩ : ∃ z, z = R[mid - c - 1]'(by omega) := ⟨_, rfl⟩
    rw [← yE] at ey;rw [← zE] at ez;have y0 := hOw.at0 iy;have y1 := hOw.at1 iy;have y2 := hOw.at2 iy;rw [ey] at y0 y1 y2;have z0 := hOw.at0 iz;have z1 := hOw.at1 iz;have z2 := hOw.at2 iz;rw [ez] at z0 z1 z2
    have n1 : (c : Int) < (N : Int) := by omega
    have n2 : (q : Int) < (N : Int) := by omega
    obtain ⟨rr, hr⟩ : ∃ rr, rr = sgn (z.v - y.v) := ⟨_, rfl⟩
    have hcmp := fun W => sort_by z.v y.v (.bool z.b) (.slice z.A z.n z.c) (.bool y.b) (.slice y.A y.n y.c) W
    rw [← hr] at hcmp
    have lij : st + r ≤ 2000 ∧ c ≤ 1000 ∧ q ≤ 1000 := by omega
    by_cases hyx : z.v < y.v
    ·have hr0 : rr < 0 := by rw [hr, sgn_lt (by omega)]; decide
     have hr1 : (!decide (rr < 0)) = false := by simp; omega
     have HN := Sdq.mk (show Sea a m b mid L R st c ∧ c - st ≤ gk' from
      ⟨⟨o1, o2, by omega, by omega, by omega, HS.out.1.f1, .inr (.inr ⟨by omega, by omega, by rw [yE, zE] at hyx; omega⟩)⟩, by omega⟩)
     have lq : q ≤ 100000 := by omega
     clear HS o1 o2 o3 o4 o5 hgk ey ez yE zE hr hyx iy iz hN' ha hm hb hOw en ep eq
     go_upto_region 35 with fail
     have xq := x64 (n := q) lq;have wq := w64 (n := q) rfl lq;clear lq;refine wp_region_ws 11 (by kernel_rfl) (by kernel_rfl) ?_;simp only [List.take_succ_cons, List.take_zero, List.drop_succ_cons, List.drop_zero]
     repeat (refine ws_step (fun K hK => ?_); go_simp; refine hK _ ?_; clear hK K)
     refine ws_nil ?_;clear xq wq;go_wp2_with (go_at_call 48; refine (hcmp _).mono ?_; rintro e w2 ⟨rfl, hb2⟩)
     go_roundg gk'
     case measure => go_light; omega
     case rel => go_light; exact ⟨st, c, rfl, rfl, HN, ⟨below_step hB.out.drew hb2⟩⟩
    ·have hr0 : ¬ rr < 0 := by
      rw [hr]
      rcases Int.lt_or_eq_of_le (show y.v ≤ z.v by omega) with h | h
      ·rw [sgn_gt (by omega)]; decide
      ·rw [sgn_zero (by omega)]; decide
     have hr1 : (!decide (rr < 0)) = true := by simp; omega
     have HN := Sdq.mk (show Sea a m b mid L R (c + 1) r ∧ r - (c + 1) ≤ gk' from
      ⟨⟨by omega, by omega, by omega, by omega, by omega, .inr (.inr ⟨by omega, by omega, by rw [yE, zE] at hyx; simp only [show c + 1 - a - 1 = c - a by omega, show mid - (c + 1) = mid - c - 1 by omega]; omega⟩), HS.out.1.f2⟩, by omega⟩)
     have lq : q ≤ 100000 := by omega
     clear HS o1 o2 o3 o4 o5 hgk ey ez yE zE hr hyx iy iz hN' ha hm hb hOw en ep eq
     go_upto_region 35 with fail
     have xq := x64 (n := q) lq;have wq := w64 (n := q) rfl lq;clear lq;refine wp_region_ws 11 (by kernel_rfl) (by kernel_rfl) ?_;simp only [List.take_succ_cons, List.take_zero, List.drop_succ_cons, List.drop_zero]
     repeat (refine ws_step (fun K hK => ?_); go_simp; refine hK _ ?_; clear hK K)
     refine ws_nil ?_;clear xq wq;go_wp2_with (go_at_call 48; refine (hcmp _).mono ?_; rintro e w2 ⟨rfl, hb2⟩)
     go_roundg gk'
     case measure => go_light; omega
     case rel => go_light; exact ⟨c + 1, r, by go_num, rfl, HN, ⟨below_step hB.out.drew hb2⟩⟩
   ·subst hij
    obtain ⟨hN', ha, hm, hb, en, ep, hmd⟩ := E.out
    obtain ⟨s, es⟩ : ∃ s, s = st - a := ⟨_, rfl⟩
    obtain ⟨t, et⟩ : ∃ t, t = mid - st := ⟨_, rfl⟩
    have hsl : s ≤ L.length := by omega
    have htl : t ≤ R.length := by omega
    have hle := Sdq.mk (Srt.mid_le hLR.out.1 hLR.out.2 hsl htl (by rw [es, et]; exact HS.out.1.f1) (by rw [es, et]; exact HS.out.1.f2))
    obtain ⟨e, ee⟩ : ∃ e, e + st = n := ⟨n - st, by omega⟩
    have v6 : (n : Int) - (st : Int) = (e : Int) := by omega
    have el1 := Sdq.mk (show l0 = P ++ L.take s ++ L.drop s ++ R.take t ++ R.drop t ++ Q by
     have h1 := List.take_append_drop s L;have h2 := List.take_append_drop t R;rw [el0.out]
     conv => lhs; rw [← h1, ← h2]
     simp only [List.append_assoc])
    have I := Sdq.mk (show SymIn g cap N a m b mid e st P (L.take s) (L.drop s) (R.take t) (R.drop t) Q (L.length + R.length) by
     have h1 := hLR.out.1;have h2 := hLR.out.2;rw [← List.take_append_drop s L] at h1;rw [← List.take_append_drop t R] at h2
     have l1 : (L.take s).length = s ∧ (L.drop s).length = L.length - s ∧ (R.take t).length = t ∧ (R.drop t).length = R.length - t := by simp; omega
     obtain ⟨l1, l2, l3, l4⟩ := l1
     exact ⟨by omega, hl, ha, by omega, by omega, by omega, by omega, by omega, by omega, by omega, by omega, h1.left, h1.right, h2.left, h2.right, by omega, by omega, IH.out⟩)
    have hfin := Sdq.mk (fun (M1 l : List El) => Srt.Mrg.two (P := P) (Q := Q) (l := l) hle.out (M1 := M1))
    obtain ⟨L1, eL1⟩ : ∃ l, l = L.take s := ⟨_, rfl⟩
    obtain ⟨L2, eL2⟩ : ∃ l, l = L.drop s := ⟨_, rfl⟩
    obtain ⟨R1, eR1⟩ : ∃ l, l = R.take t := ⟨_, rfl⟩
    obtain ⟨R2, eR2⟩ : ∃ l, l = R.drop t := ⟨_, rfl⟩
    rw [← eL1, ← eL2, ← eR1, ← eR2] at el1 I;simp only [← eL1, ← eL2, ← eR1, ← eR2] at hfin
    have le1 : e ≤ 2000 ∧ st ≤ 1000 := by omega
    have HO := Sdq.mk (show Own3 g wr (P ++ L1 ++ L2 ++ R1 ++ R2 ++ Q) ∧ Kbt w wr g none ∧ Below g w wr from ⟨by rw [← el1.out]; exact hO.out.below hB.out, Kbt.of_below hB.out g none, hB.out.mono (Nat.le_of_lt hO.out.lt)⟩);clear HS hle o1 o2 o3 o4 o5 hgk hN' ha hm hb en ep hmd es et hsl htl ee eL1 eL2 eR1 eR2 hLR el0 el1 E IH hO hB bnd
    have bnd : m ≤ 1000 ∧ b ≤ 1000 ∧ mid ≤ 1000 ∧ a ≤ 1000 := by obtain ⟨len, hl, ha, hst, hm, hmid, he, hb, -⟩ := I.out; omega
    by_cases hA : 0 < L1.length
    ·by_cases hB_ : 0 < L2.length
     ·by_cases hT_ : 0 < R1.length
      ·by_cases hD : 0 < R2.length
       ·obtain ⟨k0, k1, k2, k3, k4, k5⟩ : st < m ∧ m < e ∧ a < st ∧ st < mid ∧ mid < e ∧ e < b := by have i1 := I.out.hst; have i2 := I.out.hm; have i3 := I.out.hmid; have i4 := I.out.he; have i5 := I.out.hb; clear I; omega
        clear hA hB_ hT_ hD
        have d0 : (st : Int) < (m : Int) := by rw [Int.ofNat_lt]; exact k0
        have d1 : (m : Int) < (e : Int) := by rw [Int.ofNat_lt]; exact k1
        have d2 : (a : Int) < (st : Int) := by rw [Int.ofNat_lt]; exact k2
        have d3 : (st : Int) < (mid : Int) := by rw [Int.ofNat_lt]; exact k3
        have d4 : (mid : Int) < (e : Int) := by rw [Int.ofNat_lt]; exact k4
        have d5 : (e : Int) < (b : Int) := by rw [Int.ofNat_lt]; exact k5
        have KK := Sdq.mk (And.intro k0 (And.intro k1 (And.intro k2 (And.intro k3 (And.intro k4 k5)))));clear k0 k1 k2 k3 k4 k5
        go_upto_region 40 with fail
        have hc := I.out.rot HO.out.1 KK.out.1 KK.out.2.1
        go_upto_region 41 with (go_at_call 107; refine hc.mono ?_; rintro e1 w1 ⟨rfl, l1, rfl, hO1, hk1, hb1⟩)
        have HO := Sdq.mk (show Own3 g w1 (P ++ L1 ++ R1 ++ L2 ++ R2 ++ Q) ∧ Kbt w w1 g none ∧ Below g w w1 from ⟨hO1, HO.out.2.1.trans hk1 (.inl rfl), HO.out.2.2.trans hb1⟩);clear hO1 hk1 hb1 hc
        go_upto_region 42 with fail
        have hc := I.out.rec1 HO.out.1 KK.out.2.2.1 KK.out.2.2.2.1
        go_upto_region 43 with (go_at_call 101; refine hc.mono ?_; rintro e2 w2 ⟨rfl, l2, ⟨M1, hM, rfl⟩, hO2, hk2, hb2⟩)
        have HM := Sdq.mk hM;have HO := Sdq.mk (show Own3 g w2 (P ++ M1 ++ L2 ++ R2 ++ Q) ∧ Kbt w w2 g none ∧ Below g w w2 from ⟨hO2, HO.out.2.1.trans hk2 (.inl rfl), HO.out.2.2.trans hb2⟩);clear hO2 hk2 hb2 hc hM
        go_upto_region 44 with fail
        have hc := I.out.rec2 HM.out.1 HO.out.1 KK.out.2.2.2.2.1 KK.out.2.2.2.2.2;go_wp2_with (go_at_call 101; refine hc.mono ?_; rintro e3 w3 ⟨rfl, l3, hM3, hO3, hk3, hb3⟩)
        go_end0
        exact ⟨rfl, l3, hfin.out _ l3 HM.out.1 HM.out.2 hM3, hO3, HO.out.2.1.trans hk3 (.inl rfl), HO.out.2.2.trans hb3⟩
       ·obtain ⟨k0, k1, k2, k3, k4, k5⟩ : st < m ∧ m < e ∧ a < st ∧ st < mid ∧ mid < e ∧ ¬ e < b := by have i1 := I.out.hst; have i2 := I.out.hm; have i3 := I.out.hmid; have i4 := I.out.he; have i5 := I.out.hb; clear I; omega
        clear hA hB_ hT_ hD
        have d0 : (st : Int) < (m : Int) := by rw [Int.ofNat_lt]; exact k0
        have d1 : (m : Int) < (e : Int) := by rw [Int.ofNat_lt]; exact k1
        have d2 : (a : Int) < (st : Int) := by rw [Int.ofNat_lt]; exact k2
        have d3 : (st : Int) < (mid : Int) := by rw [Int.ofNat_lt]; exact k3
        have d4 : (mid : Int) < (e : Int) := by rw [Int.ofNat_lt]; exact k4
        have d5 : ¬ (e : Int) < (b : Int) := by rw [Int.ofNat_lt]; exact k5
        have KK := Sdq.mk (And.intro k0 (And.intro k1 (And.intro k2 (And.intro k3 (And.intro k4 k5)))));clear k0 k1 k2 k3 k4 k5
        go_upto_region 40 with fail
        have hc := I.out.rot HO.out.1 KK.out.1 KK.out.2.1
        go_upto_region 41 with (go_at_call 107; refine hc.mono ?_; rintro e1 w1 ⟨rfl, l1, rfl, hO1, hk1, hb1⟩)
        have HO := Sdq.mk (show Own3 g w1 (P ++ L1 ++ R1 ++ L2 ++ R2 ++ Q) ∧ Kbt w w1 g none ∧ Below g w w1 from ⟨hO1, HO.out.2.1.trans hk1 (.inl rfl), HO.out.2.2.trans hb1⟩);clear hO1 hk1 hb1 hc
        go_upto_region 42 with fail
        have hc := I.out.rec1 HO.out.1 KK.out.2.2.1 KK.out.2.2.2.1
        go_upto_region 43 with (go_at_call 101; refine hc.mono ?_; rintro e2 w2 ⟨rfl, l2, ⟨M1, hM, rfl⟩, hO2, hk2, hb2⟩)
        have HM := Sdq.mk hM;have HO := Sdq.mk (show Own3 g w2 (P ++ M1 ++ L2 ++ R2 ++ Q) ∧ Kbt w w2 g none ∧ Below g w w2 from ⟨hO2, HO.out.2.1.trans hk2 (.inl rfl), HO.out.2.2.trans hb2⟩);clear hO2 hk2 hb2 hc hM;have HX := Sdq.mk (hfin.out _ _ HM.out.1 HM.out.2 (I.out.norec2 _ (fun h => KK.out.2.2.2.2.2 h.2)))
        go_wp2_with fail
        go_end0
        exact ⟨rfl, _, HX.out, HO.out⟩
      ·by_cases hD : 0 < R2.length
       ·obtain ⟨k0, k1, k2, k3, k4, k5⟩ : st < m ∧ ¬ m < e ∧ a < st ∧ ¬ st < mid ∧ mid < e ∧ e < b := by have i1 := I.out.hst; have i2 := I.out.hm; have i3 := I.out.hmid; have i4 := I.out.he; have i5 := I.out.hb; clear I; omega
        clear hA hB_ hT_ hD
        have d0 : (st : Int) < (m : Int) := by rw [Int.ofNat_lt]; exact k0
        have d1 : ¬ (m : Int) < (e : Int) := by rw [Int.ofNat_lt]; exact k1
        have d2 : (a : Int) < (st : Int) := by rw [Int.ofNat_lt]; exact k2
        have d3 : ¬ (st : Int) < (mid : Int) := by rw [Int.ofNat_lt]; exact k3
        have d4 : (mid : Int) < (e : Int) := by rw [Int.ofNat_lt]; exact k4
        have d5 : (e : Int) < (b : Int) := by rw [Int.ofNat_lt]; exact k5
        have KK := Sdq.mk (And.intro k0 (And.intro k1 (And.intro k2 (And.intro k3 (And.intro k4 k5)))));clear k0 k1 k2 k3 k4 k5;have HO := Sdq.mk (show Own3 g wr (P ++ L1 ++ R1 ++ L2 ++ R2 ++ Q) ∧ Kbt w wr g none ∧ Below g w wr from ⟨by rw [← I.out.norot (fun h => KK.out.2.1 h.2)]; exact HO.out.1, HO.out.2⟩);have HM := Sdq.mk (show (L1 ++ R1).Perm (L1 ++ R1) ∧ Srt.Up El.v (L1 ++ R1) from ⟨List.Perm.refl _, I.out.norec1 (fun h => KK.out.2.2.2.1 h.2)⟩);have HO := Sdq.mk (show _ ∧ _ from ⟨by have h := HO.out.1; rw [List.append_assoc P L1 R1] at h; exact h, HO.out.2⟩)
        go_upto_region 44 with fail
        have hc := I.out.rec2 HM.out.1 HO.out.1 KK.out.2.2.2.2.1 KK.out.2.2.2.2.2;go_wp2_with (go_at_call 101; refine hc.mono ?_; rintro e3 w3 ⟨rfl, l3, hM3, hO3, hk3, hb3⟩)
        go_end0
        exact ⟨rfl, l3, hfin.out _ l3 HM.out.1 HM.out.2 hM3, hO3, HO.out.2.1.trans hk3 (.inl rfl), HO.out.2.2.trans hb3⟩
       ·exact absurd I.out.any4 (by omega)
     ·by_cases hT_ : 0 < R1.length
      ·by_cases hD : 0 < R2.length
       ·obtain ⟨k0, k1, k2, k3, k4, k5⟩ : ¬ st < m ∧ m < e ∧ a < st ∧ st < mid ∧ ¬ mid < e ∧ e < b := by have i1 := I.out.hst; have i2 := I.out.hm; have i3 := I.out.hmid; have i4 := I.out.he; have i5 := I.out.hb; clear I; omega
        clear hA hB_ hT_ hD
        have d0 : ¬ (st : Int) < (m : Int) := by rw [Int.ofNat_lt]; exact k0
        have d1 : (m : Int) < (e : Int) := by rw [Int.ofNat_lt]; exact k1
        have d2 : (a : Int) < (st : Int) := by rw [Int.ofNat_lt]; exact k2
        have d3 : (st : Int) < (mid : Int) := by rw [Int.ofNat_lt]; exact k3
        have d4 : ¬ (mid : Int) < (e : Int) := by rw [Int.ofNat_lt]; exact k4
        have d5 : (e : Int) < (b : Int) := by rw [Int.ofNat_lt]; exact k5
        have KK := Sdq.mk (And.intro k0 (And.intro k1 (And.intro k2 (And.intro k3 (And.intro k4 k5)))));clear k0 k1 k2 k3 k4 k5;have HO := Sdq.mk (show Own3 g wr (P ++ L1 ++ R1 ++ L2 ++ R2 ++ Q) ∧ Kbt w wr g none ∧ Below g w wr from ⟨by rw [← I.out.norot (fun h => KK.out.1 h.1)]; exact HO.out.1, HO.out.2⟩)
        go_upto_region 42 with fail
        have hc := I.out.rec1 HO.out.1 KK.out.2.2.1 KK.out.2.2.2.1
        go_upto_region 43 with (go_at_call 101; refine hc.mono ?_; rintro e2 w2 ⟨rfl, l2, ⟨M1, hM, rfl⟩, hO2, hk2, hb2⟩)
        have HM := Sdq.mk hM;have HO := Sdq.mk (show Own3 g w2 (P ++ M1 ++ L2 ++ R2 ++ Q) ∧ Kbt w w2 g none ∧ Below g w w2 from ⟨hO2, HO.out.2.1.trans hk2 (.inl rfl), HO.out.2.2.trans hb2⟩);clear hO2 hk2 hb2 hc hM;have HX := Sdq.mk (hfin.out _ _ HM.out.1 HM.out.2 (I.out.norec2 _ (fun h => KK.out.2.2.2.2.1 h.1)))
        go_wp2_with fail
        go_end0
        exact ⟨rfl, _, HX.out, HO.out⟩
       ·exact absurd I.out.any4 (by omega)
      ·by_cases hD : 0 < R2.length
       ·obtain ⟨k0, k1, k2, k3, k4, k5⟩ : ¬ st < m ∧ ¬ m < e ∧ a < st ∧ ¬ st < mid ∧ ¬ mid < e ∧ e < b := by have i1 := I.out.hst; have i2 := I.out.hm; have i3 := I.out.hmid; have i4 := I.out.he; have i5 := I.out.hb; clear I; omega
        clear hA hB_ hT_ hD
        have d0 : ¬ (st : Int) < (m : Int) := by rw [Int.ofNat_lt]; exact k0
        have d1 : ¬ (m : Int) < (e : Int) := by rw [Int.ofNat_lt]; exact k1
        have d2 : (a : Int) < (st : Int) := by rw [Int.ofNat_lt]; exact k2
        have d3 : ¬ (st : Int) < (mid : Int) := by rw [Int.ofNat_lt]; exact k3
        have d4 : ¬ (mid : Int) < (e : Int) := by rw [Int.ofNat_lt]; exact k4
        have d5 : (e : Int) < (b : Int) := by rw [Int.ofNat_lt]; exact k5
        have KK := Sdq.mk (And.intro k0 (And.intro k1 (And.intro k2 (And.intro k3 (And.intro k4 k5)))));clear k0 k1 k2 k3 k4 k5;have HO := Sdq.mk (show Own3 g wr (P ++ L1 ++ R1 ++ L2 ++ R2 ++ Q) ∧ Kbt w wr g none ∧ Below g w wr from ⟨by rw [← I.out.norot (fun h => KK.out.1 h.1)]; exact HO.out.1, HO.out.2⟩);have HM := Sdq.mk (show (L1 ++ R1).Perm (L1 ++ R1) ∧ Srt.Up El.v (L1 ++ R1) from ⟨List.Perm.refl _, I.out.norec1 (fun h => KK.out.2.2.2.1 h.2)⟩);have HO := Sdq.mk (show _ ∧ _ from ⟨by have h := HO.out.1; rw [List.append_assoc P L1 R1] at h; exact h, HO.out.2⟩);have HX := Sdq.mk (hfin.out _ _ HM.out.1 HM.out.2 (I.out.norec2 _ (fun h => KK.out.2.2.2.2.1 h.1)))
        go_wp2_with fail
        go_end0
        exact ⟨rfl, _, HX.out, HO.out⟩
       ·exact absurd I.out.any4 (by omega)
    ·by_cases hB_ : 0 < L2.length
     ·by_cases hT_ : 0 < R1.length
      ·by_cases hD : 0 < R2.length
       ·obtain ⟨k0, k1, k2, k3, k4, k5⟩ : st < m ∧ m < e ∧ ¬ a < st ∧ st < mid ∧ mid < e ∧ e < b := by have i1 := I.out.hst; have i2 := I.out.hm; have i3 := I.out.hmid; have i4 := I.out.he; have i5 := I.out.hb; clear I; omega
        clear hA hB_ hT_ hD
        have d0 : (st : Int) < (m : Int) := by rw [Int.ofNat_lt]; exact k0
        have d1 : (m : Int) < (e : Int) := by rw [Int.ofNat_lt]; exact k1
        have d2 : ¬ (a : Int) < (st : Int) := by rw [Int.ofNat_lt]; exact k2
        have d3 : (st : Int) < (mid : Int) := by rw [Int.ofNat_lt]; exact k3
        have d4 : (mid : Int) < (e : Int) := by rw [Int.ofNat_lt]; exact k4
        have d5 : (e : Int) < (b : Int) := by rw [Int.ofNat_lt]; exact k5
        have KK := Sdq.mk (And.intro k0 (And.intro k1 (And.intro k2 (And.intro k3 (And.intro k4 k5)))));clear k0 k1 k2 k3 k4 k5
        go_upto_region 40 with fail
        have hc := I.out.rot HO.out.1 KK.out.1 KK.out.2.1
        go_upto_region 41 with (go_at_call 107; refine hc.mono ?_; rintro e1 w1 ⟨rfl, l1, rfl, hO1, hk1, hb1⟩)
        have HO := Sdq.mk (show Own3 g w1 (P ++ L1 ++ R1 ++ L2 ++ R2 ++ Q) ∧ Kbt w w1 g none ∧ Below g w w1 from ⟨hO1, HO.out.2.1.trans hk1 (.inl rfl), HO.out.2.2.trans hb1⟩);clear hO1 hk1 hb1 hc;have HM := Sdq.mk (show (L1 ++ R1).Perm (L1 ++ R1) ∧ Srt.Up El.v (L1 ++ R1) from ⟨List.Perm.refl _, I.out.norec1 (fun h => KK.out.2.2.1 h.1)⟩);have HO := Sdq.mk (show _ ∧ _ from ⟨by have h := HO.out.1; rw [List.append_assoc P L1 R1] at h; exact h, HO.out.2⟩)
        go_upto_region 44 with fail
        have hc := I.out.rec2 HM.out.1 HO.out.1 KK.out.2.2.2.2.1 KK.out.2.2.2.2.2;go_wp2_with (go_at_call 101; refine hc.mono ?_; rintro e3 w3 ⟨rfl, l3, hM3, hO3, hk3, hb3⟩)
        go_end0
        exact ⟨rfl, l3, hfin.out _ l3 HM.out.1 HM.out.2 hM3, hO3, HO.out.2.1.trans hk3 (.inl rfl), HO.out.2.2.trans hb3⟩
       ·obtain ⟨k0, k1, k2, k3, k4, k5⟩ : st < m ∧ m < e ∧ ¬ a < st ∧ st < mid ∧ mid < e ∧ ¬ e < b := by have i1 := I.out.hst; have i2 := I.out.hm; have i3 := I.out.hmid; have i4 := I.out.he; have i5 := I.out.hb; clear I; omega
        clear hA hB_ hT_ hD
        have d0 : (st : Int) < (m : Int) := by rw [Int.ofNat_lt]; exact k0
        have d1 : (m : Int) < (e : Int) := by rw [Int.ofNat_lt]; exact k1
        have d2 : ¬ (a : Int) < (st : Int) := by rw [Int.ofNat_lt]; exact k2
        have d3 : (st : Int) < (mid : Int) := by rw [Int.ofNat_lt]; exact k3
        have d4 : (mid : Int) < (e : Int) := by rw [Int.ofNat_lt]; exact k4
        have d5 : ¬ (e : Int) < (b : Int) := by rw [Int.ofNat_lt]; exact k5
        have KK := Sdq.mk (And.intro k0 (And.intro k1 (And.intro k2 (And.intro k3 (And.intro k4 k5)))));clear k0 k1 k2 k3 k4 k5
        go_upto_region 40 with fail
        have hc := I.out.rot HO.out.1 KK.out.1 KK.out.2.1
        go_upto_region 41 with (go_at_call 107; refine hc.mono ?_; rintro e1 w1 ⟨rfl, l1, rfl, hO1, hk1, hb1⟩)
        have HO := Sdq.mk (show Own3 g w1 (P ++ L1 ++ R1 ++ L2 ++ R2 ++ Q) ∧ Kbt w w1 g none ∧ Below g w w1 from ⟨hO1, HO.out.2.1.trans hk1 (.inl rfl), HO.out.2.2.trans hb1⟩);clear hO1 hk1 hb1 hc;have HM := Sdq.mk (show (L1 ++ R1).Perm (L1 ++ R1) ∧ Srt.Up El.v (L1 ++ R1) from ⟨List.Perm.refl _, I.out.norec1 (fun h => KK.out.2.2.1 h.1)⟩);have HO := Sdq.mk (show _ ∧ _ from ⟨by have h := HO.out.1; rw [List.append_assoc P L1 R1] at h; exact h, HO.out.2⟩);have HX := Sdq.mk (hfin.out _ _ HM.out.1 HM.out.2 (I.out.norec2 _ (fun h => KK.out.2.2.2.2.2 h.2)))
        go_wp2_with fail
        go_end0
        exact ⟨rfl, _, HX.out, HO.out⟩
      ·by_cases hD : 0 < R2.length
       ·exact absurd I.out.any4 (by omega)
       ·exact absurd I.out.any4 (by omega)
     ·by_cases hT_ : 0 < R1.length
      ·by_cases hD : 0 < R2.length
       ·exact absurd I.out.any4 (by omega)
       ·exact absurd I.out.any4 (by omega)
      ·by_cases hD : 0 < R2.length
       ·exact absurd I.out.any4 (by omega)
       ·exact absurd I.out.any4 (by omega)
end Go.Proofs.YthpgjgmaamcaoaaDoor.P
end
section
namespace Go.Proofs.YthpgjgmaamcaoaaDoor.P
open Go.RowKit Go.Shelf Go.Proofs.YthpgjgmaamcaoaaDoorW.PrintWords Go.Proofs.YthpgjgmaamcaoaaDoorW.PrintLast Go.Proofs.YthpgjgmaamcaoaaDoorW.PrintMore Go.Proofs.YthpgjgmaamcaoaaDoor.Nm
set_option maxRecDepth 100000
set_option linter.unusedVariables false
set_option linter.unusedSimpArgs false
theorem sl_symMerge (g cap N : Nat) (hl : N ≤ 1000) : ∀ n, SymIH g cap N n := by
 intro n
 induction n with
 | zero => intro a m b P L R Q w hO hN ha hm hb h1 h2 hn; omega
 | succ n ih =>
  intro a m b P L R Q w hO hN ha hm hb h1 h2 hn uL uR;by_cases hL : L.length = 1
  ·obtain ⟨x, rfl⟩ := List.length_eq_one_iff.1 hL
   exact sl_sym1 g cap a m b N P R Q x w hO hN hl ha (by simpa using hm) (by simpa using hb) uR
  ·by_cases hR : R.length = 1
   ·obtain ⟨x, rfl⟩ := List.length_eq_one_iff.1 hR
    exact sl_sym2 g cap a m b N P L Q x w hO hN hl ha hm (by simpa using hb) hL uL
   ·refine sl_sym3 g cap a m b N P L R Q w hO hN hl ha hm hb (by omega) (by omega) uL uR ?_
    intro a m b P' L' R' Q' w hO hN ha hm hb h1 h2 hn';exact ih a m b P' L' R' Q' w hO hN ha hm hb h1 h2 (by omega)
set_option maxHeartbeats 1600000 in
theorem sl_stable (g cap N : Nat) (l : List El) (w : World) (hO : Own3 g w l) (hN : N = l.length) (hl : N ≤ 39) :
  Calls Tryd.prog 78 #[.slice (some ⟨g, 0, none⟩) N cap, .int .i64 N, .func (.func 48) #[] #[]] w (SPost g w (fun l' => l'.Perm l ∧ Srt.Up El.v l')) := by
 rcases Nat.lt_or_ge N 20 with h20 | h20
 ·have h1 := sl_insertion g cap 0 N N [] l [] w (by simpa using hO) (by simpa using hN) (by omega) rfl (by simpa using hN)
  rw [show ((0 : Nat) : Int) = 0 from rfl] at h1
  have c1 : ¬ (20 : Int) ≤ (N : Int) := by omega
  have c2 : ¬ (20 : Int) < (N : Int) := by omega
  clear hO hN h20;go_enter Tryd.func78, Tryd.ntmps78
  go_wp2_with fail
  go_loopg [7, 8] 0 (fun gk s7 s8 wr => s7 = .int .i64 0 ∧ s8 = .int .i64 20 ∧ wr = w)
  case atStart => exact ⟨rfl, rfl, rfl⟩
  case round =>
   obtain ⟨rfl, rfl, rfl⟩ := hrel;go_wp2_with (go_at_call 100; refine h1.mono ?_; rintro e w2 ⟨rfl, l2, hM, hO2, hk2, hb2⟩);have HM := Sdq.mk (show l2.Perm l ∧ Srt.Up El.v l2 by obtain ⟨M, e, hp, hu⟩ := hM; simp at e; subst e; exact ⟨hp, hu⟩);clear hM h1
   go_loopg [6] 0 (fun gk s6 wr => s6 = .int .i64 20 ∧ wr = w2)
   case atStart => exact ⟨rfl, rfl⟩
   case round =>
    obtain ⟨rfl, rfl⟩ := hrel
    go_wp2_with fail
    go_end0
    exact ⟨rfl, l2, HM.out, hO2, hk2, hb2⟩
 ·obtain ⟨l1, l2, hl12, hl1, hl2⟩ := Srt.split_at_ (u := l) (j := 20) (by omega)
  rw [hl12] at hO;have hE := Sdq.mk hl12;have h1 := sl_insertion g cap 0 20 N [] l1 l2 w (by simpa using hO) (by simp; omega) (by omega) rfl (by simp; omega);have h2 := Sdq.mk (fun (M1 : List El) (W : World) (hp : M1.Perm l1) (h : Own3 g W (M1 ++ l2)) => sl_insertion g cap 20 N N M1 l2 [] W (by simpa using h) (by have := hp.length_eq; simp; omega) (by omega) (by have := hp.length_eq; omega) (by have := hp.length_eq; omega));have h3 := Sdq.mk (fun (M1 M2 : List El) (W : World) (hp : M1.Perm l1) (hq : M2.Perm l2) (h0 : 20 < N) (h : Own3 g W (M1 ++ M2)) (u1 : Srt.Up El.v M1) (u2 : Srt.Up El.v M2) => sl_symMerge g cap N (by omega) (N + 1) 0 20 N [] M1 M2 [] W (by simpa using h) (by have := hp.length_eq; have := hq.length_eq; simp; omega) rfl (by have := hp.length_eq; simp; omega) (by have := hp.length_eq; have := hq.length_eq; simp; omega) (by have := hp.length_eq; omega) (by have := hq.length_eq; omega) (by have := hp.length_eq; have := hq.length_eq; omega) u1 u2);rw [show ((0 : Nat) : Int) = 0 from rfl, show ((20 : Nat) : Int) = 20 from rfl] at h1;have h1 := Sdq.mk h1;have h4 := Sdq.mk (show N = 20 + l2.length by omega)
  have c1 : (20 : Int) ≤ (N : Int) := by omega
  have c2 : ¬ (40 : Int) ≤ (N : Int) := by omega
  have c3 : ¬ (40 : Int) < (N : Int) := by omega
  clear hO hN hl1 hl2 hl12;go_enter Tryd.func78, Tryd.ntmps78
  go_wp2_with fail
  go_loopg [7, 8] 1 (fun gk s7 s8 wr => (gk = 1 ∧ s7 = .int .i64 0 ∧ s8 = .int .i64 20 ∧ wr = w) ∨ (gk = 0 ∧ s7 = .int .i64 20 ∧ s8 = .int .i64 40 ∧ ∃ M1 : List El, Sdq (M1.Perm l1 ∧ Srt.Up El.v M1 ∧ Own3 g wr (M1 ++ l2) ∧ Kbt w wr g none ∧ Below g w wr)))
  case atStart => exact .inl ⟨rfl, rfl, rfl, rfl⟩
  case round =>
   rcases hrel with ⟨rfl, rfl, rfl, rfl⟩ | ⟨rfl, rfl, rfl, M1, hM⟩
   ·have h1 := h1.out
    go_wp2_with (go_at_call 100; refine h1.mono ?_; rintro e w2 ⟨rfl, l3, hM, hO2, hk2, hb2⟩);have HM := Sdq.mk (show ∃ M1 : List El, Sdq (M1.Perm l1 ∧ Srt.Up El.v M1 ∧ Own3 g w2 (M1 ++ l2) ∧ Kbt wr w2 g none ∧ Below g wr w2) by obtain ⟨M, e, hp, hu⟩ := hM; simp at e; subst e; exact ⟨M, ⟨hp, hu, hO2, hk2, hb2⟩⟩);clear hM h1 hO2 hk2 hb2
    go_roundg 0
    case measure => omega
    case rel => exact .inr ⟨rfl, rfl, rfl, HM.out⟩
   ·have hc := h2.out M1 wr hM.out.1 hM.out.2.2.1
    rw [show ((20 : Nat) : Int) = 20 from rfl] at hc;go_wp2_with (go_at_call 100; refine hc.mono ?_; rintro e w2 ⟨rfl, l3, hM2, hO2, hk2, hb2⟩);obtain ⟨M2, he, hp, hu⟩ := hM2;have HM := Sdq.mk (show M2.Perm l2 ∧ Srt.Up El.v M2 ∧ Own3 g w2 (M1 ++ M2) ∧ Kbt w w2 g none ∧ Below g w w2 from ⟨hp, hu, by simp at he; rw [← he]; exact hO2, hM.out.2.2.2.1.trans hk2 (.inl rfl), hM.out.2.2.2.2.trans hb2⟩);clear he hp hu hO2 hk2 hb2 hc h1 h2
    go_loopg [6] 1 (fun gk s6 wr => (gk = 1 ∧ s6 = .int .i64 20 ∧ wr = w2) ∨ (gk = 0 ∧ s6 = .int .i64 40 ∧ ∃ l3 : List El, Sdq (l3.Perm l ∧ Srt.Up El.v l3 ∧ Own3 g wr l3 ∧ Kbt w wr g none ∧ Below g w wr)))
    case atStart => exact .inl ⟨rfl, rfl, rfl⟩
    case round =>
     rcases hrel with ⟨rfl, rfl, rfl⟩ | ⟨rfl, rfl, l3, hL⟩
     ·by_cases hlt : 20 < N
      ·have d1 : (20 : Int) < (N : Int) := by omega
       have hc := h3.out M1 M2 wr hM.out.1 HM.out.1 hlt HM.out.2.2.1 hM.out.2.1 HM.out.2.1;rw [show ((0 : Nat) : Int) = 0 from rfl, show ((20 : Nat) : Int) = 20 from rfl] at hc;clear hlt
       go_wp2_with fail
       go_loopg [7, 8] 0 (fun gk s7 s8 wq => s7 = .int .i64 0 ∧ s8 = .int .i64 40 ∧ wq = wr)
       case atStart => exact ⟨rfl, rfl, rfl⟩
       case round =>
        obtain ⟨rfl, rfl, rfl⟩ := hrel;go_wp2_with (go_at_call 101; refine hc.mono ?_; rintro e w4 ⟨rfl, l3, hM3, hO3, hk3, hb3⟩);obtain ⟨M3, he, hp, hu⟩ := hM3;have HX := Sdq.mk (show ∃ l3 : List El, Sdq (l3.Perm l ∧ Srt.Up El.v l3 ∧ Own3 g w4 l3 ∧ Kbt w w4 g none ∧ Below g w w4) from ⟨M3, ⟨by rw [hE.out]; exact hp.trans (hM.out.1.append HM.out.1), hu, by simp at he; rw [← he]; exact hO3, HM.out.2.2.2.1.trans hk3 (.inl rfl), HM.out.2.2.2.2.trans hb3⟩⟩);clear he hp hu hO3 hk3 hb3 hc
        go_roundg 0
        case measure => omega
        case rel => exact .inr ⟨rfl, rfl, HX.out⟩
      ·have d1 : ¬ (20 : Int) < (N : Int) := by omega
       have HX := Sdq.mk (show (M1 ++ M2).Perm l ∧ Srt.Up El.v (M1 ++ M2) from ⟨by rw [hE.out]; exact hM.out.1.append HM.out.1, by
        have : l2 = [] := List.eq_nil_of_length_eq_zero (by have := h4.out; omega);have h5 := HM.out.1;rw [this] at h5;rw [h5.eq_nil]
        simpa using hM.out.2.1⟩)
       clear hlt
       go_wp2_with fail
       go_end0
       exact ⟨rfl, _, HX.out, HM.out.2.2⟩
     ·go_wp2_with fail
      go_end0
      exact ⟨rfl, l3, ⟨hL.out.1, hL.out.2.1⟩, hL.out.2.2⟩
set_option maxHeartbeats 400000 in
theorem sl_sort (g cap N : Nat) (l : List El) (w : World) (hO : Own3 g w l) (hN : N = l.length) (hl : N ≤ 39) :
  Calls Tryd.prog 47 #[.slice (some ⟨g, 0, none⟩) N cap, .func (.func 48) #[] #[]] w (SPost g w (fun l' => l'.Perm l ∧ Srt.Up El.v l')) := by
 have h1 := sl_stable g cap N l w hO hN hl;clear hO hN;go_enter Tryd.func47, Tryd.ntmps47;go_wp2_with (go_at_call 78; refine h1.mono ?_; rintro e w2 ⟨rfl, l3, hM, hO2, hk2, hb2⟩)
 go_end0
 exact ⟨rfl, l3, hM, hO2, hk2, hb2⟩
end Go.Proofs.YthpgjgmaamcaoaaDoor.P
end
section
namespace Go.Proofs.YthpgjgmaamcaoaaDoor.P
open Go.RowKit Go.Proofs.YthpgjgmaamcaoaaDoorW.PrintWords
section
variable {P : Program} {ops : Array Oper} {Q : Exit → Act → World → Prop} {a0 : Act} {C : World → Prop} {R : Nat → Value → World → Prop}
def headArr (n m : Nat) : Array Bool := ((List.range n).map fun j => decide (j < m)).toArray
theorem head_eq {l : Array Bool} {n m : Nat} (hs : l.size = n) (h : ∀ j, j < n → lf l j = decide (j < m)) : l = headArr n m := by
 refine Array.ext (by simp [headArr, hs]) (fun i h1 h2 => ?_);have := h i (by omega);unfold lf at this;rw [Array.getD_eq_getD_getElem?, Array.getElem?_eq_getElem h1] at this;simp only [Option.getD_some] at this;rw [this]
 simp [headArr]
theorem cnt_head {l : Nat → Bool} {m : Nat} : ∀ n, (∀ j, j < n → l j = decide (j < m)) → cnt l n = n - m
 | 0, _ => by simp [cnt]
 | n + 1, h => by
  simp only [cnt];rw [cnt_head n (fun j hj => h j (by omega)), h n (by omega)];by_cases hm : n < m
  ·simp [hm]; omega
  ·simp [hm]; omega
theorem cnt_none {l : Nat → Bool} : ∀ n, (∀ j, j < n → l j = false) → cnt l n = n
 | 0, _ => rfl
 | n + 1, h => by simp only [cnt]; rw [cnt_none n (fun j hj => h j (by omega)), h n (by omega)]; simp
theorem cnt_pos {l : Nat → Bool} {j : Nat} (hj : l j = false) : ∀ n, j < n → 0 < cnt l n
 | n + 1, h => by
  simp only [cnt];by_cases e : j = n
  ·subst e; rw [hj]; simp
  ·have := cnt_pos hj n (by omega); omega
theorem flow_seq {m : Nat} (hmn : m < ops.size) (hM : (List.range m).all (marks ops m (waits ops m)).contains = true) (hCh : ∀ t, m < t → t < ops.size → (waits ops t).contains (t - 1) = true) (hSq : Region.seqB .any ops (ops.size - m) m (headArr ops.size m) = true) (hE : early ops = true) (hA : apart (dsts ops) = true) (hT : ∀ t, some t ∈ dsts ops → t < a0.tmps.size) (hC : ∀ w w', C w → Below w.heap.size w w' → C w') (hR : ∀ j v w w', R j v w → Below w.heap.size w w' → R j v w')
  (hS : ∀ i, i < m → Step P ops Q a0 C R i) (hQ : ∀ e w, C w → (∀ j, j < m → R j (e j) w) → ∀ a, a = fill (dsts ops) 0 e (fun j => decide (j < m)) a0 → wpList P ops Q (ops.toList.drop m) a w) :
  ∀ fuel l a w, FI ops a0 C R l a w → (∀ t, m ≤ t → lf l t = false) → cnt (lf l) ops.size = fuel → wpAny P .any ops Q fuel l a w := by
 intro fuel
 induction fuel with
 | zero =>
  intro l a w hI hl hn;have := cnt_pos (hl m (Nat.le_refl _)) ops.size hmn
  omega
 | succ fuel ih =>
  intro l a w hI hl hn;by_cases hall : ∀ j, j < m → lf l j = true
  ·obtain ⟨hs, hc, hCw, e, rfl, hr⟩ := hI
   have hlh : ∀ j, j < ops.size → lf l j = decide (j < m) := fun j _ => by
    by_cases hj : j < m
    ·rw [hall j hj]; simp [hj]
    ·rw [hl j (by omega)]; simp [hj]
   have hle := head_eq hs hlh;have hcn := cnt_head ops.size hlh;rw [hcn] at hn
   have hlen : (ops.toList.drop m).length = fuel + 1 := by rw [List.length_drop, Array.length_toList]; exact hn
   rw [← hlen];refine wpAny_of_seq (ops.toList.drop m) m l _ w (fun j => by rw [List.getElem?_drop, Array.getElem?_toList]) (by rw [hlen, hle, ← hn]; exact hSq) ?_;exact hQ e w hCw (fun j hj => hr j (hall j hj)) _ (fill_congr _ 0 a0 (fun j _ hj => ⟨hlh j (by simpa [dsts] using hj), fun _ => rfl⟩))
  ·refine ⟨fun hr => ?_, fun i hi => ?_⟩
   ·have := ready_nil hr hE hI.1 m hmn
    rw [hl m (Nat.le_refl _)] at this;cases this
   ·obtain ⟨o, ho, hli, hisz, hw⟩ := ready_mem hi hI.1
    have hnx := cnt_next hi hI.1;have hilt := (Array.getElem?_eq_some_iff.1 ho).1
    have hwl : ∀ x, x ∈ waits ops i → lf l x = true := fun x hx => by
     obtain ⟨o', ho', y, hy, hyb, rfl⟩ := waits_mem hx;obtain rfl := Option.some.inj (ho.symm.trans ho');exact hw y hy hyb
    have him : i < m := by
     refine Classical.byContradiction fun hge => ?_
     by_cases e : i = m
     ·subst e
      exact hall (fun j hj => marks_listed hI.2.1 i _ hwl j (by simpa using List.all_eq_true.1 hM j (List.mem_range.2 hj)))
     ·have h1 := hwl (i - 1) (by simpa using hCh i (by omega) hilt)
      rw [hl (i - 1) (by omega)] at h1;cases h1
    refine fi_step hA hT hC hR hI hi (hS i him) (fun a' w' hI' => ih _ a' w' hI' (fun t ht => ?_) (by omega));rw [lf_set hisz]
    dsimp only
    rw [if_neg (by omega)];exact hl t ht
theorem flowS {id m n : Nat} {w0 : World} {D : List (Option Tmp)} {W : List (List Nat)} (h : tabOf ops = (D, W)) (hn : ops.size = n) (C : World → Prop) (R : Nat → Value → World → Prop) (hm : P.follows .mixedOrders = true)
  (hc : (earlyW W && apart D && D.all (fun d => (d.map fun t => decide (t < a0.tmps.size)).getD true) && (List.range m).all (marksW W m (W.getD m [])).contains && (List.range n).all (fun t => decide (t ≤ m) || (W.getD t []).contains (t - 1)) && decide (m < n)) = true) (hSq : Region.seqB .any ops (n - m) m (headArr n m) = true)
  (hC : ∀ w w', C w → Below w.heap.size w w' → C w') (hR : ∀ j v w w', R j v w → Below w.heap.size w w' → R j v w') (h0 : C w0)
  (hS : Steps (At P ops Q D W a0 C R) m) (hQ : ∀ e w, C w → Steps (fun j => R j (e j) w) m → ∀ a, a = fill D 0 e (fun j => decide (j < m)) a0 → wpList P ops Q (ops.toList.drop m) a w) : (Code.region id ops true).wp P Q a0 w0 := by
 subst hn;simp only [Bool.and_eq_true, decide_eq_true_eq] at hc;have hD : dsts ops = D := congrArg Prod.fst h;refine wp_region_any hm (flow_seq hc.2 (by rw [marks_tab h m _ (by omega), ← waits_tab h m hc.2]; exact hc.1.1.2) (fun t h1 h2 => ?_) hSq (early_tab h hc.1.1.1.1.1) (by rw [hD]; exact hc.1.1.1.1.2) (by rw [hD]; exact fun t ht => by have := List.all_eq_true.1 hc.1.1.1.2 _ ht; simpa using this) hC hR (fun i hi => step_at h (hS.all i hi)) (fun e w hCw hr a ha => ?_) _ _ _ _ (fi_start (hC _ _ h0 (below_drew (Below.refl _ _)))) (fun t _ => ?_) (cnt_none _ (fun j _ => ?_)))
 ·have := List.all_eq_true.1 hc.1.2 t (List.mem_range.2 h2)
  simp only [Bool.or_eq_true, decide_eq_true_eq] at this;rw [← waits_tab h t h2];exact this.resolve_left (by omega)
 ·rw [hD] at ha
  refine hQ e w hCw ?_ a ha
  have hall : ∀ n, n ≤ m → Steps (fun j => R j (e j) w) n := fun n => by
   induction n with
   | zero => intro _; trivial
   | succ n ih => intro hn; exact ⟨ih (by omega), hr n (by omega)⟩
  exact hall _ (Nat.le_refl _)
 ·unfold lf; rw [Array.getD_eq_getD_getElem?, Array.getElem?_replicate]; split <;> rfl
 ·unfold lf; rw [Array.getD_eq_getD_getElem?, Array.getElem?_replicate]; split <;> rfl
end
end Go.Proofs.YthpgjgmaamcaoaaDoor.P
end
section
namespace Go.Proofs.YthpgjgmaamcaoaaDoor.LnP
abbrev Ps := List (Int × Int)
def cf : Ps → Int → Int
 | [], _ => 0
 | p :: r, v => (if p.1 = v then p.2 else 0) + cf r v
theorem cf_nil (v : Int) : cf [] v = 0 := rfl
theorem cf_cons (p : Int × Int) (r : Ps) (v : Int) : cf (p :: r) v = (if p.1 = v then p.2 else 0) + cf r v := rfl
theorem cf_append (a b : Ps) (v : Int) : cf (a ++ b) v = cf a v + cf b v := by
 induction a with
 | nil => simp [cf]
 | cons p r ih => rw [List.cons_append, cf_cons, cf_cons, ih, Int.add_assoc]
theorem cf_perm {a b : Ps} (h : a.Perm b) (v : Int) : cf a v = cf b v := by
 induction h with
 | nil => rfl
 | cons p _ ih => rw [cf_cons, cf_cons, ih]
 | swap p q l => rw [cf_cons, cf_cons, cf_cons, cf_cons]; omega
 | trans _ _ ih1 ih2 => rw [ih1, ih2]
def One (l : Ps) : Prop := l.Pairwise (fun x y => x.1 < y.1) ∧ ∀ p ∈ l, p.2 ≠ 0
theorem One.nil : One [] := ⟨List.Pairwise.nil, fun _ h => by cases h⟩
theorem One.tail {p : Int × Int} {r : Ps} (h : One (p :: r)) : One r := ⟨(List.pairwise_cons.1 h.1).2, fun q hq => h.2 q (List.mem_cons_of_mem _ hq)⟩
theorem cf_above {l : Ps} {v : Int} (h : ∀ p ∈ l, v < p.1) : cf l v = 0 := by
 induction l with
 | nil => rfl
 | cons p r ih =>
  rw [cf_cons, ih (fun q hq => h q (List.mem_cons_of_mem _ hq)), if_neg]
  ·rfl
  ·have := h p (List.mem_cons_self ..); omega
theorem One.head {p : Int × Int} {r : Ps} (h : One (p :: r)) : cf (p :: r) p.1 = p.2 := by
 rw [cf_cons, if_pos rfl, cf_above (fun q hq => (List.pairwise_cons.1 h.1).1 q hq), Int.add_zero]
theorem one_ext : ∀ {a b : Ps}, One a → One b → (∀ v, cf a v = cf b v) → a = b
 | [], [], _, _, _ => rfl
 | [], q :: s, _, hb, h => absurd ((h q.1).symm.trans rfl) (by rw [hb.head]; exact hb.2 q (List.mem_cons_self ..))
 | p :: r, [], ha, _, h => absurd ((h p.1).trans rfl) (by rw [ha.head]; exact ha.2 p (List.mem_cons_self ..))
 | p :: r, q :: s, ha, hb, h => by
  have hp : p.1 = q.1 := by
   rcases Int.lt_trichotomy p.1 q.1 with hlt | he | hlt
   ·have := h p.1
    rw [ha.head, cf_above (l := q :: s) (fun z hz => by
     rcases List.mem_cons.1 hz with rfl | hz
     ·exact hlt
     ·have := (List.pairwise_cons.1 hb.1).1 z hz; omega)] at this
    exact absurd this (ha.2 p (List.mem_cons_self ..))
   ·exact he
   ·have := h q.1
    rw [hb.head, cf_above (l := p :: r) (fun z hz => by
     rcases List.mem_cons.1 hz with rfl | hz
     ·exact hlt
     ·have := (List.pairwise_cons.1 ha.1).1 z hz; omega)] at this
    exact absurd this.symm (hb.2 q (List.mem_cons_self ..))
  have hc : p.2 = q.2 := by
   have := h p.1;rw [ha.head, hp, hb.head] at this;exact this
  have e : p = q := Prod.ext hp hc;subst e;rw [one_ext ha.tail hb.tail (fun v => by have := h v; rw [cf_cons, cf_cons] at this; omega)]
def ins (p : Int × Int) : Ps → Ps
 | [] => if p.2 = 0 then [] else [p]
 | q :: r => if p.1 < q.1 then (if p.2 = 0 then q :: r else p :: q :: r) else if p.1 = q.1 then (if p.2 + q.2 = 0 then r else (p.1, p.2 + q.2) :: r) else q :: ins p r
def nrm : Ps → Ps
 | [] => []
 | p :: r => ins p (nrm r)
theorem ins_mem {p q : Int × Int} {l : Ps} (h : q ∈ ins p l) : q.1 = p.1 ∨ q ∈ l := by
 induction l with
 | nil =>
  unfold ins at h
  split at h
  ·cases h
  ·obtain rfl : q = p := by simpa using h
   exact .inl rfl
 | cons z r ih =>
  unfold ins at h
  split at h
  ·split at h
   ·exact .inr h
   ·rcases List.mem_cons.1 h with rfl | h
    ·exact .inl rfl
    ·exact .inr h
  ·split at h
   ·split at h
    ·exact .inr (List.mem_cons_of_mem _ h)
    ·rcases List.mem_cons.1 h with rfl | h
     ·exact .inl rfl
     ·exact .inr (List.mem_cons_of_mem _ h)
   ·rcases List.mem_cons.1 h with rfl | h
    ·exact .inr (List.mem_cons_self ..)
    ·exact (ih h).elim .inl (fun h => .inr (List.mem_cons_of_mem _ h))
theorem ins_one {p : Int × Int} : ∀ {l : Ps}, One l → One (ins p l)
  | [], _ => by
    unfold ins
    split
    · exact One.nil
    · rename_i h
      exact ⟨List.pairwise_singleton _ _, fun q hq => by obtain rfl : q = p := by simpa using hq
                                                         exact h⟩
  | q :: r, h => by
    have hq := (List.pairwise_cons.1 h.1).1;unfold ins
    split
    · rename_i hlt
      split
      · exact h
      · rename_i h0
        refine ⟨List.pairwise_cons.2 ⟨fun z hz => ?_, h.1⟩, fun z hz => ?_⟩
        · rcases List.mem_cons.1 hz with rfl | hz
          · exact hlt
          · have := hq z hz; omega
        · rcases List.mem_cons.1 hz with rfl | hz
          · exact h0
          · exact h.2 z hz
    · split
      · rename_i he
        split
        · exact h.tail
        · rename_i h0
          refine ⟨List.pairwise_cons.2 ⟨fun z hz => ?_, h.tail.1⟩, fun z hz => ?_⟩
          · have := hq z hz; show p.1 < z.1; omega
          · rcases List.mem_cons.1 hz with rfl | hz
            · exact h0
            · exact h.2 z (List.mem_cons_of_mem _ hz)
      · have ih := ins_one (p := p) h.tail
        refine ⟨List.pairwise_cons.2 ⟨fun z hz => ?_, ih.1⟩, fun z hz => ?_⟩
        · rcases ins_mem hz with e | hz
          · omega
          · exact hq z hz
        · rcases List.mem_cons.1 hz with rfl | hz
          · exact h.2 z (List.mem_cons_self ..)
          · exact ih.2 z hz
theorem cf_ins (p : Int × Int) (v : Int) : ∀ l : Ps, cf (ins p l) v = (if p.1 = v then p.2 else 0) + cf l v
 | [] => by
  unfold ins
  split
  ·rename_i h; simp [cf, h]
  ·rfl
 | q :: r => by
  unfold ins
  split
  ·split
   ·rename_i h; simp [h]
   ·rfl
  ·split
   ·rename_i he
    split
    ·rename_i h0
     rw [cf_cons];by_cases hv : p.1 = v
     ·rw [if_pos hv, if_pos (by omega)]; omega
     ·rw [if_neg hv, if_neg (by omega)]; omega
    ·rw [cf_cons, cf_cons]
     by_cases hv : p.1 = v
     ·rw [if_pos hv, if_pos (by omega), if_pos (by omega)]; omega
     ·rw [if_neg hv, if_neg (by omega), if_neg (by omega)]; omega
   ·rw [cf_cons, cf_cons, cf_ins p v r]; omega
theorem nrm_one : ∀ l : Ps, One (nrm l)
 | [] => One.nil
 | _ :: r => ins_one (nrm_one r)
theorem cf_nrm (v : Int) : ∀ l : Ps, cf (nrm l) v = cf l v
 | [] => rfl
 | p :: r => by rw [nrm, cf_ins, cf_nrm v r, cf_cons]
theorem nrm_eq {l a : Ps} (h : One a) (hc : ∀ v, cf a v = cf l v) : a = nrm l := one_ext h (nrm_one l) (fun v => by rw [hc, cf_nrm])
theorem nrm_congr {a b : Ps} (h : ∀ v, cf a v = cf b v) : nrm a = nrm b := nrm_eq (nrm_one a) (fun v => by rw [cf_nrm, h])
def step (out : Ps) (p : Int × Int) : Ps :=
 match out.getLast? with
 | some q => if q.1 = p.1 then (if q.2 + p.2 = 0 then out.dropLast else out.dropLast ++ [(q.1, q.2 + p.2)]) else if p.2 = 0 then out else out ++ [p]
 | none => if p.2 = 0 then out else out ++ [p]
def scan (out : Ps) (l : Ps) : Ps := l.foldl step out
def OneTo (out : Ps) (v : Int) : Prop := One out ∧ ∀ q ∈ out, q.1 ≤ v
theorem One.append {a : Ps} {p : Int × Int} (h : One a) (hl : ∀ q ∈ a, q.1 < p.1) (h0 : p.2 ≠ 0) : One (a ++ [p]) := by
 refine ⟨List.pairwise_append.2 ⟨h.1, List.pairwise_singleton _ _, fun x hx y hy => ?_⟩, fun q hq => ?_⟩
 ·obtain rfl : y = p := by simpa using hy
  exact hl x hx
 ·rcases List.mem_append.1 hq with hq | hq
  ·exact h.2 q hq
  ·obtain rfl : q = p := by simpa using hq
   exact h0
theorem step_one {out : Ps} {p : Int × Int} (h : OneTo out p.1) : OneTo (step out p) p.1 ∧ ∀ v, cf (step out p) v = cf out v + if p.1 = v then p.2 else 0 := by
 unfold step
 rcases List.eq_nil_or_concat out with rfl | ⟨a, q, rfl⟩
 ·simp only [List.getLast?_nil]
  split
  ·rename_i h0
   exact ⟨h, fun v => by simp [h0]⟩
  ·rename_i h0
   refine ⟨⟨One.append One.nil (fun _ h => by cases h) h0, fun q hq => ?_⟩, fun v => by simp [cf]⟩
   obtain rfl : q = p := by simpa using hq
   exact Int.le_refl _
 ·rw [List.concat_eq_append] at h ⊢
  have hg : (a ++ [q]).getLast? = some q := by simp
  have hd : (a ++ [q]).dropLast = a := by simp
  obtain ⟨⟨h1, h2⟩, h3⟩ := h;have hp := List.pairwise_append.1 h1
  have ha : One a := ⟨hp.1, fun z hz => h2 z (List.mem_append.2 (.inl hz))⟩
  have haq : ∀ z ∈ a, z.1 < q.1 := fun z hz => hp.2.2 z hz q (by simp)
  have hq := h3 q (by simp);simp only [hg, hd]
  split
  ·rename_i he
   split
   ·rename_i h0
    exact ⟨⟨ha, fun z hz => by have := haq z hz; omega⟩, fun v => by rw [cf_append, cf_cons, cf_nil, he]; split <;> omega⟩
   ·rename_i h0
    refine ⟨⟨ha.append haq h0, fun z hz => ?_⟩, fun v => by rw [cf_append, cf_append, cf_cons, cf_cons, cf_nil]; simp only; rw [he]; split <;> omega⟩
    rcases List.mem_append.1 hz with hz | hz
    ·have := haq z hz; omega
    ·obtain rfl : z = (q.1, q.2 + p.2) := by simpa using hz
     exact hq
  ·rename_i hne
   split
   ·rename_i h0
    exact ⟨⟨⟨h1, h2⟩, h3⟩, fun v => by simp [h0]⟩
   ·rename_i h0
    refine ⟨⟨One.append ⟨h1, h2⟩ (fun z hz => ?_) h0, fun z hz => ?_⟩, fun v => by rw [cf_append (a ++ [q]), cf_cons, cf_nil]; omega⟩
    ·rcases List.mem_append.1 hz with hz | hz
     ·have := haq z hz; omega
     ·obtain rfl : z = q := by simpa using hz
      omega
    ·rcases List.mem_append.1 hz with hz | hz
     ·exact h3 z hz
     ·obtain rfl : z = p := by simpa using hz
      exact Int.le_refl _
theorem scan_one : ∀ {l out : Ps}, One out → (∀ p ∈ l, ∀ q ∈ out, q.1 ≤ p.1) → l.Pairwise (fun x y => x.1 ≤ y.1) → One (scan out l) ∧ ∀ v, cf (scan out l) v = cf out v + cf l v
 | [], out, h, _, _ => ⟨h, fun v => by simp [scan, cf]⟩
 | p :: r, out, h, hle, hs => by
  obtain ⟨⟨h1, h2⟩, h3⟩ := step_one (p := p) ⟨h, hle p (List.mem_cons_self ..)⟩;obtain ⟨hs1, hs2⟩ := List.pairwise_cons.1 hs;obtain ⟨h4, h5⟩ := scan_one (l := r) h1 (fun z hz q hq => by have := h2 q hq; have := hs1 z hz; omega) hs2
  exact ⟨h4, fun v => by
   show cf (scan (step out p) r) v = _
   rw [h5, h3, cf_cons]; omega⟩
theorem scan_nrm {l m : Ps} (hs : m.Pairwise (fun x y => x.1 ≤ y.1)) (hp : m.Perm l) : scan [] m = nrm l := by
 obtain ⟨h1, h2⟩ := scan_one (out := []) One.nil (fun _ _ _ h => by cases h) hs;exact nrm_eq h1 (fun v => by rw [h2, cf_nil, Int.zero_add, cf_perm hp])
end Go.Proofs.YthpgjgmaamcaoaaDoor.LnP
end
