/- Walks and words of this session, put together by a program of this session (pack.py). Conditions: as each text says. -/
import Derived.Test.YteighppcdpaekaaDoorS2
import Derived.Test.YteighppcdpaekaaDoorS3
import Derived.Test.YteighppcdpaekaaDoorS4
import Derived.Test.YteighppcdpaekaaDoorS7
set_option linter.unusedVariables false
set_option linter.unusedSimpArgs false
section
namespace Go.Proofs.YteighppcdpaekaaDoor.P
open Go.RowKit Go.Proofs.YteighppcdpaekaaDoorW.PrintWords Go.Proofs.YteighppcdpaekaaDoorW.PrintLast Go.Proofs.YteighppcdpaekaaDoorW.PrintMore
structure TX (w0 w : World) (g : Nat) (b : List Int) (W : World) (a d e B : Int) (v : Value) (l : List Int) : Prop where
 s : PS w0 w g b W a d e B
 r : Kd.R (Kd.int .u8) 5 W w.heap.size (fun _ => True) v l
 hl : w0.heap.size ≤ w.heap.size
theorem PS.below {w0 w : World} {g : Nat} {b : List Int} {W W' : World} {a d e B : Int} (h : PS w0 w g b W a d e B) (hb : Below W.heap.size W W') : PS w0 w g b W' a d e B := ⟨IsS96.below h.i hb, below_step h.bl hb, h.k.trans (Kbt.of_below hb g none) (.inl rfl)⟩
section
variable {w0 w : World} {g : Nat} {b : List Int} {W W' : World} {a d e B a' d' e' B' : Int} {v v' : Value} {l l' : List Int}
theorem TX.call (h : TX w0 w g b W a d e B v l) (hi : IsS96 w0 W' g b a' d' e' B') (hb : Below w0.heap.size w0 W') (hk : Kbt W W' g none) : TX w0 w g b W' a' d' e' B' v l :=
 ⟨h.s.call hi hb hk, Kd.R_mono (Kd.R_keep (IsS96.apart h.s.i h.r (by decide)) hk (fun _ h => h.2)) (fun _ h => h.1), h.hl⟩
theorem TX.set1 (h : TX w0 w g b W a d e B v l) (x : Int) : TX w0 w g b (W.setCell ⟨g, 1, none⟩ (.int .i64 x)) x d e B v l :=
 ⟨h.s.set1 x, Kd.R_mono (Kd.R_far (p := ⟨g, 1, none⟩) (IsS96.apart h.s.i h.r (by decide)) (fun _ h => h.2) _) (fun _ h => h.1), h.hl⟩
theorem TX.grown (h : TX w0 w g b W a d e B v l) (hR : Kd.R (Kd.int .u8) 5 W' w.heap.size (fun _ => True) v' l') (hb : Below w.heap.size W W') (hg : W.grownBy W' v.ownBlock) : TX w0 w g b W' a d e B v' l' :=
 ⟨⟨h.s.i.grown hg (IsS96.own_ne h.s.i h.r (by decide)), below_weaken h.s.bl h.hl hb, h.s.k.trans (Kbt.of_grown hg g) (Kd.R_base2 h.r)⟩, hR, h.hl⟩
end
mutual
def RRq_escape.l0 : Nat → Int → Int → ByteArray → List Int → Int → List Int → Int → Int → Int → Int → Option (List Int × Int × Int × Int × Int)
 | 0, _, _, _, _, _, _, _, _, _, _ => none
 | k + 1, x3, x4, x5, x6, x7, x1000, x1001, x1002, x1003, x1004 => if x7 < (x5.size : Int) then (if 0 ≤ x7 then (if x4 = (wrap64 (bt x5 x7)) then (if x7 < (x6.length : Int) then (some ((([rd x6 x7] : List Int)), wrap64 (x1001 + 1), x1002, x1003, x1004)) else (none)) else (RRq_escape.l0 k x3 x4 x5 x6 (wrap64 (x7 + 1)) x1000 x1001 x1002 x1003 x1004)) else (none)) else (if x4 = 117 then ((RRq_hex.f k x1000 (wrap64 (x1001 + 1)) x1002 x1003 x1004).bind fun bt627 => (if bt627.2.2.2.1 = 0 then (if bt627.1 ≥ 55296 then (RRq_escape.j1 k x3 bt627.1 (decide (bt627.1 ≤ 56319)) x1000 bt627.2.1 bt627.2.2.1 bt627.2.2.2.1 bt627.2.2.2.2) else (RRq_escape.j1 k x3 bt627.1 false x1000 bt627.2.1 bt627.2.2.1 bt627.2.2.2.1 bt627.2.2.2.2)) else (RRq_escape.j1 k x3 bt627.1 false x1000 bt627.2.1 bt627.2.2.1 bt627.2.2.2.1 bt627.2.2.2.2))) else ((RRq_fail.f x1000 x1001 x1002 x1003 x1004 6 x1001).bind fun bt623 => (some (([] : List Int), bt623.1, bt623.2.1, bt623.2.2.1, bt623.2.2.2))))
def RRq_escape.j1 : Nat → Int → Int → Bool → List Int → Int → Int → Int → Int → Option (List Int × Int × Int × Int × Int)
 | 0, _, _, _, _, _, _, _, _ => none
 | k + 1, x3, x8, x83, x1000, x1001, x1002, x1003, x1004 => if x83 = true then ((RRq_second.f k x1000 x1001 x1002 x1003 x1004 x3 x8).bind fun bt632 => (RRq_escape.j2 k x3 bt632.1 x1000 bt632.2.1 bt632.2.2.1 bt632.2.2.2.1 bt632.2.2.2.2)) else (RRq_escape.j2 k x3 x8 x1000 x1001 x1002 x1003 x1004)
def RRq_escape.j2 : Nat → Int → Int → List Int → Int → Int → Int → Int → Option (List Int × Int × Int × Int × Int)
 | 0, _, _, _, _, _, _, _ => none
 | k + 1, x3, x8, x1000, x1001, x1002, x1003, x1004 => if x1003 = 0 then ((R3q_Encode.f k x8).bind fun bt637 => (if bt637.2 = 0 then (some (bt637.1, x1001, x1002, x1003, x1004)) else ((RRq_fail.f x1000 x1001 x1002 x1003 x1004 6 x3).bind fun bt641 => (some (bt637.1, bt641.1, bt641.2.1, bt641.2.2.1, bt641.2.2.2))))) else (some (([] : List Int), x1001, x1002, x1003, x1004))
end
def RRq_escape.f (k : Nat) (s0_0 : List Int) (s0_1 : Int) (s0_2 : Int) (s0_3 : Int) (s0_4 : Int) : Option (List Int × Int × Int × Int × Int) := (RRq_peek.f s0_0 (wrap64 (s0_1 + 1)) s0_2 s0_3 s0_4).bind fun bt611 => (if bt611.2.2.2.1 = 0 then (RRq_escape.l0 k s0_1 bt611.1 (⟨#[34, 92, 47, 98, 102, 110, 114, 116]⟩ : ByteArray) (([34, 92, 47, 8, 12, 10, 13, 9] : List Int)) 0 s0_0 bt611.2.1 bt611.2.2.1 bt611.2.2.2.1 bt611.2.2.2.2) else (some (([] : List Int), bt611.2.1, bt611.2.2.1, bt611.2.2.2.1, bt611.2.2.2.2)))
set_option maxRecDepth 100000 in
set_option maxHeartbeats 3200000 in
theorem RRq_escape.calls (k : Nat) (g : Nat) (s0_0 : List Int) (s0_1 : Int) (s0_2 : Int) (s0_3 : Int) (s0_4 : Int) (r1 : List Int) (r2 : Int) (r3 : Int) (r4 : Int) (r5 : Int) (w0 w : World) (hI : IsS96 w0 w g s0_0 s0_1 s0_2 s0_3 s0_4) (hB : Below w0.heap.size w0 w) (h : RRq_escape.f k s0_0 s0_1 s0_2 s0_3 s0_4 = some (r1, r2, r3, r4, r5)) :
  Calls Tryd.prog 89 #[.pointer (some ⟨g, 0, none⟩)] w fun e w' => ∃ v0_ : Value, e = .returned (v0_) ∧ Kd.R (Kd.int .u8) 5 w' w.heap.size (fun _ => True) v0_ r1 ∧ IsS96 w0 w' g s0_0 r2 r3 r4 r5 ∧ Below w0.heap.size w0 w' ∧ Kbt w w' g none := by
 have N := Sdq.mk (PS.start hI hB);have HL := Sdq.mk hB.size;clear hI hB;simp only [RRq_escape.f] at h;obtain ⟨⟨t, a1, d1, e1, B1⟩, q, h⟩ := Option.bind_eq_some_iff.mp h;have Q := Sdq.mk q;have H := Sdq.mk h;clear q h;obtain ⟨c1, c2, c3, f1, f2⟩ := N.out.cells;have N1 := Sdq.mk (N.out.set1 (wrap64 (s0_1 + 1)));go_enter Tryd.func89, Tryd.ntmps89
 go_wp2_with fail
 refine (RRq_peek.calls g s0_0 (wrap64 (s0_1 + 1)) s0_2 s0_3 s0_4 t a1 d1 e1 B1 w0 _ N1.out.i N1.out.bl Q.out).mono ?_;rintro en w1 ⟨rfl, hi, hb, hk⟩;have N2 := Sdq.mk (N1.out.call hi hb hk);clear N N1 hi hb hk Q c1 c2 c3 f1 f2;obtain ⟨c1, c2, c3, f1, f2⟩ := N2.out.cells;have h := H.out;clear H;by_cases he : e1 = 0
 case neg =>
  rw [if_neg he] at h
  obtain ⟨rfl, rfl, rfl, rfl, rfl⟩ := (by simpa using h : [] = r1 ∧ a1 = r2 ∧ d1 = r3 ∧ e1 = r4 ∧ B1 = r5)
  have eb : (e1 != 0) = true := by simp [he]
  clear h
  go_wp2_with fail
  go_ret;exact ⟨_, rfl, Kd.R_nil _ _ _ _ _, N2.out.i, N2.out.bl, N2.out.k⟩
 rw [if_pos he] at h
 have eb : (e1 != 0) = false := by simp [he]
 have H := Sdq.mk h;clear h
 go_wp2_with ((with_reducible refine gate_dst (N := 29) rfl ?_); refine Kd.R_lit (Kd.int .u8) _ 5 ?hg (N := 29) ?hd (xs := ([34, 92, 47, 8, 12, 10, 13, 9] : List Int)) (inner := [.int .u8 34, .int .u8 92, .int .u8 47, .int .u8 8, .int .u8 12, .int .u8 10, .int .u8 13, .int .u8 9]) (ok := fun _ => True) (okp := fun _ => True) ?hr ?hp (fun _ hk => hk) trivial (Below.refl _ _) (Nat.le_refl _) (by simp) ?_; (case hd => rfl); (case hg => rfl); (case hr => first | (go_simp; done) | (go_simp; rfl)); (case hp => exact Reps.one (show Kd.M (Kd.int .u8) _ _ _ 34 [.int .u8 34] from rfl) (Reps.one (show Kd.M (Kd.int .u8) _ _ _ 92 [.int .u8 92] from rfl) (Reps.one (show Kd.M (Kd.int .u8) _ _ _ 47 [.int .u8 47] from rfl) (Reps.one (show Kd.M (Kd.int .u8) _ _ _ 8 [.int .u8 8] from rfl) (Reps.one (show Kd.M (Kd.int .u8) _ _ _ 12 [.int .u8 12] from rfl) (Reps.one (show Kd.M (Kd.int .u8) _ _ _ 10 [.int .u8 10] from rfl) (Reps.one (show Kd.M (Kd.int .u8) _ _ _ 13 [.int .u8 13] from rfl) (Reps.one (show Kd.M (Kd.int .u8) _ _ _ 9 [.int .u8 9] from rfl) (Reps.none _ _))))))))); intro v3 w3 ho hb hg_ hnew_; have N3 := Sdq.mk (show TX w0 w g s0_0 w3 a1 d1 e1 B1 v3 ([34, 92, 47, 8, 12, 10, 13, 9] : List Int) from ⟨N2.out.below hb, Kd.R_lower ho (keep_size N2.out.k), HL.out⟩); clear N2 ho hb hg_ hnew_ c1 c2 c3 f1 f2)
 generalize hT : ([34, 92, 47, 8, 12, 10, 13, 9] : List Int) = T at N3 H
 have hTl : (T.length : Int) = 8 := by subst hT; rfl
 clear hT HL
 go_loopg [7] k (fun kq s7 wc => ∃ i : Int, s7 = .int .i64 i ∧ Sdq (RRq_escape.l0 kq s0_1 t (⟨#[34, 92, 47, 98, 102, 110, 114, 116]⟩ : ByteArray) T i s0_0 a1 d1 e1 B1 = some (r1, r2, r3, r4, r5)) ∧ Sdq (TX w0 w g s0_0 wc a1 d1 e1 B1 v3 T))
 case atStart => exact ⟨0, rfl, H, N3⟩
 case round =>
  clear H N3;obtain ⟨i, rfl, H, N⟩ := hrel
  cases gk with
  | zero => exact absurd H.out (by simp [RRq_escape.l0])
  | succ gk =>
  have h := H.out;clear H;simp only [RRq_escape.l0] at h;by_cases q1 : i < ((⟨#[34, 92, 47, 98, 102, 110, 114, 116]⟩ : ByteArray).size : Int)
  ·rw [if_pos q1] at h
   replace q1 : i < (8 : Int) := q1;by_cases q2 : 0 ≤ i
   case neg =>
    rw [if_neg q2] at h
    simp at h
   rw [if_pos q2] at h
   have q3 : i < (T.length : Int) := by omega
   rw [if_pos q3] at h;have b1 : decide (i < 8) = true := decide_eq_true q1;have hx := bt_at (⟨#[34, 92, 47, 98, 102, 110, 114, 116]⟩ : ByteArray) i;by_cases tq : t = wrap64 (bt (⟨#[34, 92, 47, 98, 102, 110, 114, 116]⟩ : ByteArray) i)
   ·rw [if_pos tq] at h
    have tb : (t == wrap64 (bt (⟨#[34, 92, 47, 98, 102, 110, 114, 116]⟩ : ByteArray) i)) = true := by simp [tq]
    obtain ⟨rfl, rfl, rfl, rfl, rfl⟩ := (by simpa using h : [rd T i] = r1 ∧ wrap64 (a1 + 1) = r2 ∧ d1 = r3 ∧ e1 = r4 ∧ B1 = r5)
    clear h;have p1 := eq_true q2;have p2 := eq_true q1;have p3 := eq_true q3;obtain ⟨c1, c2, c3, f1, f2⟩ := N.out.s.cells;have N4 := Sdq.mk (N.out.set1 (wrap64 (a1 + 1)));obtain ⟨A, c, rfl⟩ := Kd.R_slice N.out.r;obtain ⟨ad, ead, hc⟩ := Kd.at_int (Kd.R_reads' N4.out.r).2.2 i q2 q3;cases ead;clear q1 q2 q3 tq N
    go_wp2_with ((with_reducible refine gate_dst (N := 53) rfl ?_); refine Kd.R_lit (Kd.int .u8) _ 5 ?hg (N := 53) ?hd (xs := ([rd T i] : List Int)) (inner := [.int .u8 (rd T i)]) (ok := fun _ => True) (okp := fun _ => True) ?hr ?hp (fun _ hk => hk) trivial (Below.refl _ _) (Nat.le_refl _) (by simp) ?_; (case hd => rfl); (case hg => rfl); (case hr => first | (go_simp; done) | (go_simp; rfl)); (case hp => exact Reps.one (show Kd.M (Kd.int .u8) _ _ _ (rd T i) [.int .u8 (rd T i)] from rfl) (Reps.none _ _)); intro v5 w5 ho hb hg_ hnew_; have N5 := Sdq.mk (N4.out.s.below hb); have ho := Sdq.mk (Kd.R_lower ho (keep_size N4.out.s.k)); clear hb hg_ hnew_)
    go_ret;exact ⟨_, rfl, ho.out, N5.out.i, N5.out.bl, N5.out.k⟩
   ·rw [if_neg tq] at h
    have tb : (t == wrap64 (bt (⟨#[34, 92, 47, 98, 102, 110, 114, 116]⟩ : ByteArray) i)) = false := by simp [tq]
    rw [show wrap64 (i + 1) = i + 1 by unfold wrap64; omega] at h;have H := Sdq.mk h;clear h;have p1 := eq_true q2;have p2 := eq_true q1;clear tq
    go_wp2_with fail
    go_roundg gk
    case measure => omega
    exact ⟨_, rfl, H, N⟩
  rw [if_neg q1] at h;have b1 : decide (i < 8) = false := decide_eq_false q1;have P := Sdq.mk N.out.s;clear N;obtain ⟨c1, c2, c3, f1, f2⟩ := P.out.cells;by_cases tu : t = 117
  case neg =>
   rw [if_neg tu] at h
   have tb : (t != 117) = true := by simp [tu]
   obtain ⟨⟨a2, d2, e2, B2⟩, q, h⟩ := Option.bind_eq_some_iff.mp h
   obtain ⟨rfl, rfl, rfl, rfl, rfl⟩ := (by simpa using h : [] = r1 ∧ a2 = r2 ∧ d2 = r3 ∧ e2 = r4 ∧ B2 = r5)
   have Q := Sdq.mk q;clear q h
   go_wp2_with fail
   refine (RRq_fail.calls g s0_0 a1 d1 e1 B1 6 a1 a2 d2 e2 B2 w0 _ P.out.i P.out.bl Q.out).mono ?_;rintro en w2 ⟨rfl, hi, hb, hk⟩;have N2 := Sdq.mk (P.out.call hi hb hk);clear P hi hb hk Q
   go_wp2_with fail
   go_ret;exact ⟨_, rfl, Kd.R_nil _ _ _ _ _, N2.out.i, N2.out.bl, N2.out.k⟩
  rw [if_pos tu] at h
  have tb : (t != 117) = false := by simp [tu]
  obtain ⟨⟨v, a2, d2, e2, B2⟩, q, h⟩ := Option.bind_eq_some_iff.mp h
  replace h : RRq_escape.j1 gk s0_1 v (e2 == 0 && decide (v ≥ 55296) && decide (v ≤ 56319)) s0_0 a2 d2 e2 B2 = some (r1, r2, r3, r4, r5) := by
   by_cases h1 : e2 = 0
   ·rw [if_pos h1] at h
    by_cases h2 : v ≥ 55296
    ·rw [if_pos h2] at h; rw [show (e2 == 0 && decide (v ≥ 55296) && decide (v ≤ 56319)) = decide (v ≤ 56319) by simp [h1, h2]]; exact h
    ·rw [if_neg h2] at h; rw [show (e2 == 0 && decide (v ≥ 55296) && decide (v ≤ 56319)) = false by simp [h2]]; exact h
   ·rw [if_neg h1] at h; rw [show (e2 == 0 && decide (v ≥ 55296) && decide (v ≤ 56319)) = false by simp [h1]]; exact h
  have Q := Sdq.mk q;have H := Sdq.mk h;clear q h;have N2 := Sdq.mk (P.out.set1 (wrap64 (a1 + 1)))
  go_wp2_with fail
  clear P c1 c2 c3 f1 f2;refine (RRq_hex.calls gk g s0_0 _ d1 e1 B1 v a2 d2 e2 B2 w0 _ N2.out.i N2.out.bl Q.out).mono ?_;rintro en w4 ⟨rfl, hi, hb, hk⟩;have N := Sdq.mk (N2.out.call hi hb hk);clear N2 hi hb hk Q;obtain ⟨c1, c2, c3, f1, f2⟩ := N.out.cells
  go_upto_region 19 with fail
  go_cut [83] (fun s wc => s = .bool (e2 == 0 && decide (v ≥ 55296) && decide (v ≤ 56319)) ∧ wc = w4)
  case first =>
   rcases Bool.eq_false_or_eq_true (e2 == 0) with q1 | q1 <;> rcases (show (v ≥ 55296 ∧ v ≤ 56319) ∨ (v ≥ 55296 ∧ ¬ v ≤ 56319) ∨ (¬ v ≥ 55296 ∧ v ≤ 56319) by omega) with ⟨q2, q3⟩ | ⟨q2, q3⟩ | ⟨q2, q3⟩
   all_goals
    go_wp2_with fail
    go_meet
    exact ⟨by simp [q1, q2, q3], rfl⟩
  case rest =>
  obtain ⟨rfl, rfl⟩ := hcut;clear c1 c2 c3 f1 f2
  cases gk with
  | zero => exact absurd H.out (by simp [RRq_escape.j1])
  | succ gk =>
  go_upto_if 83 with fail
  go_cut [8] (fun s wc => ∃ v a d e B : Int, s = .int .i64 v ∧ Sdq (RRq_escape.j2 gk s0_1 v s0_0 a d e B = some (r1, r2, r3, r4, r5)) ∧ Sdq (PS w0 w g s0_0 wc a d e B))
  case first =>
   have h := H.out;clear H;simp only [RRq_escape.j1] at h
   rcases Bool.eq_false_or_eq_true (e2 == 0 && decide (v ≥ 55296) && decide (v ≤ 56319)) with q1 | q1
   ·rw [if_pos q1] at h
    obtain ⟨⟨v3, a3, d3, e3, B3⟩, q, h⟩ := Option.bind_eq_some_iff.mp h;have Q := Sdq.mk q;have H := Sdq.mk h;clear q h;rw [q1]
    go_wp2_with fail
    refine (RRq_second.calls gk g s0_0 a2 d2 e2 B2 s0_1 v v3 a3 d3 e3 B3 w0 _ N.out.i N.out.bl Q.out).mono ?_;rintro en w5 ⟨rfl, hi, hb, hk⟩;have N2 := Sdq.mk (N.out.call hi hb hk);clear N hi hb hk Q
    go_wp2_with fail
    go_meet
    exact ⟨_, _, _, _, _, rfl, H, N2⟩
   ·rw [if_neg (by rw [q1]; decide)] at h
    have H := Sdq.mk h;clear h;rw [q1]
    go_wp2_with fail
    go_meet
    exact ⟨_, _, _, _, _, rfl, H, N⟩
  case rest =>
  clear H N;obtain ⟨v, a, d, e, B, rfl, H, N⟩ := hcut;obtain ⟨c1, c2, c3, f1, f2⟩ := N.out.cells
  cases gk with
  | zero => exact absurd H.out (by simp [RRq_escape.j2])
  | succ gk =>
  have h := H.out;clear H;simp only [RRq_escape.j2] at h;by_cases he : e = 0
  case neg =>
   rw [if_neg he] at h
   obtain ⟨rfl, rfl, rfl, rfl, rfl⟩ := (by simpa using h : [] = r1 ∧ a = r2 ∧ d = r3 ∧ e = r4 ∧ B = r5)
   have eb : (e != 0) = true := by simp [he]
   clear h
   go_wp2_with fail
   go_ret;exact ⟨_, rfl, Kd.R_nil _ _ _ _ _, N.out.i, N.out.bl, N.out.k⟩
  rw [if_pos he] at h
  have eb : (e != 0) = false := by simp [he]
  obtain ⟨⟨m, z⟩, q, h⟩ := Option.bind_eq_some_iff.mp h;have Q := Sdq.mk q;have H := Sdq.mk h;clear q h
  go_wp2_with fail
  refine (R3q_Encode.calls gk v m z _ Q.out).mono ?_;rintro en w6 ⟨V, rfl, ho, hb⟩;have ho := Sdq.mk (Kd.R_lower ho (keep_size N.out.k));have N2 := Sdq.mk (N.out.below hb);clear N Q hb c1 c2 c3 f1 f2;have h := H.out;clear H;by_cases hz : z = 0
  ·rw [if_pos hz] at h
   obtain ⟨rfl, rfl, rfl, rfl, rfl⟩ := (by simpa using h : m = r1 ∧ a = r2 ∧ d = r3 ∧ e = r4 ∧ B = r5)
   have zb : (z != 0) = false := by simp [hz]
   clear h
   go_wp2_with fail
   go_ret;exact ⟨_, rfl, ho.out, N2.out.i, N2.out.bl, N2.out.k⟩
  ·rw [if_neg hz] at h
   have zb : (z != 0) = true := by simp [hz]
   obtain ⟨⟨a7, d7, e7, B7⟩, q, h⟩ := Option.bind_eq_some_iff.mp h
   obtain ⟨rfl, rfl, rfl, rfl, rfl⟩ := (by simpa using h : m = r1 ∧ a7 = r2 ∧ d7 = r3 ∧ e7 = r4 ∧ B7 = r5)
   have Q := Sdq.mk q;clear q h
   go_wp2_with fail
   refine (RRq_fail.calls g s0_0 a d e B 6 s0_1 a7 d7 e7 B7 w0 _ N2.out.i N2.out.bl Q.out).mono ?_;rintro en w7 ⟨rfl, hi, hb, hk⟩;have N3 := Sdq.mk (N2.out.call hi hb hk);have ho2 := Sdq.mk (Kd.R_mono (Kd.R_keep (IsS96.apart N2.out.i ho.out (by decide)) hk (fun _ h => h.2)) (fun _ h => h.1));clear N2 hi hb hk Q ho
   go_wp2_with fail
   go_ret;exact ⟨_, rfl, ho2.out, N3.out.i, N3.out.bl, N3.out.k⟩
end Go.Proofs.YteighppcdpaekaaDoor.P
end
section
namespace Go.Proofs.YteighppcdpaekaaDoor.P
open Go.RowKit Go.Proofs.YteighppcdpaekaaDoorW.PrintWords Go.Proofs.YteighppcdpaekaaDoorW.PrintLast Go.Proofs.YteighppcdpaekaaDoorW.PrintMore
def RRq_text.l0 : Nat → List Int → List Int → Int → Int → Int → Int → Option (ByteArray × Int × Int × Int × Int)
 | 0, _, _, _, _, _, _ => none
 | k + 1, x3, x1000, x1001, x1002, x1003, x1004 => if x1003 = 0 then ((RRq_peek.f x1000 x1001 x1002 x1003 x1004).bind fun bt649 => (if bt649.2.2.2.1 = 0 then (if bt649.1 = 34 then (some (strOfNums x3, wrap64 (bt649.2.1 + 1), bt649.2.2.1, bt649.2.2.2.1, bt649.2.2.2.2)) else (if bt649.1 < 32 then ((RRq_fail.f x1000 bt649.2.1 bt649.2.2.1 bt649.2.2.2.1 bt649.2.2.2.2 6 bt649.2.1).bind fun bt654 => (RRq_text.l0 k x3 x1000 bt654.1 bt654.2.1 bt654.2.2.1 bt654.2.2.2)) else (if bt649.1 = 92 then ((RRq_escape.f k x1000 bt649.2.1 bt649.2.2.1 bt649.2.2.2.1 bt649.2.2.2.2).bind fun bt658 => (if x3.length + bt658.1.length < 140737488355328 then (RRq_text.l0 k (x3 ++ bt658.1) x1000 bt658.2.1 bt658.2.2.1 bt658.2.2.2.1 bt658.2.2.2.2) else (none))) else (if x3.length < 140737488355328 then (RRq_text.l0 k (x3 ++ [(bt649.1) % 256]) x1000 (wrap64 (bt649.2.1 + 1)) bt649.2.2.1 bt649.2.2.2.1 bt649.2.2.2.2) else (none))))) else (some ((⟨#[]⟩ : ByteArray), bt649.2.1, bt649.2.2.1, bt649.2.2.2.1, bt649.2.2.2.2)))) else (some ((⟨#[]⟩ : ByteArray), x1001, x1002, x1003, x1004))
def RRq_text.f (k : Nat) (s0_0 : List Int) (s0_1 : Int) (s0_2 : Int) (s0_3 : Int) (s0_4 : Int) : Option (ByteArray × Int × Int × Int × Int) := (RRq_must.f k s0_0 s0_1 s0_2 s0_3 s0_4 34).bind fun bt645 => (RRq_text.l0 k ([] : List Int) s0_0 bt645.1 bt645.2.1 bt645.2.2.1 bt645.2.2.2)
set_option maxRecDepth 100000 in
set_option maxHeartbeats 3200000 in
theorem RRq_text.calls (k : Nat) (g : Nat) (s0_0 : List Int) (s0_1 : Int) (s0_2 : Int) (s0_3 : Int) (s0_4 : Int) (r1 : ByteArray) (r2 : Int) (r3 : Int) (r4 : Int) (r5 : Int) (w0 w : World) (hI : IsS96 w0 w g s0_0 s0_1 s0_2 s0_3 s0_4) (hB : Below w0.heap.size w0 w) (h : RRq_text.f k s0_0 s0_1 s0_2 s0_3 s0_4 = some (r1, r2, r3, r4, r5)) :
  Calls Tryd.prog 68 #[.pointer (some ⟨g, 0, none⟩)] w fun e w' => e = .returned (.string r1) ∧ IsS96 w0 w' g s0_0 r2 r3 r4 r5 ∧ Below w0.heap.size w0 w' ∧ Kbt w w' g none := by
 have N := Sdq.mk (PS.start hI hB);have HL := Sdq.mk hB.size;clear hI hB;simp only [RRq_text.f] at h;obtain ⟨⟨a1, d1, e1, B1⟩, q, h⟩ := Option.bind_eq_some_iff.mp h;have Q := Sdq.mk q;have H := Sdq.mk h;clear q h;go_enter Tryd.func68, Tryd.ntmps68
 go_wp2_with fail
 refine (RRq_must.calls k g s0_0 s0_1 s0_2 s0_3 s0_4 34 a1 d1 e1 B1 w0 _ N.out.i N.out.bl Q.out).mono ?_;rintro en w1 ⟨rfl, hi, hb, hk⟩;have N2 := Sdq.mk (show TX w0 w g s0_0 w1 a1 d1 e1 B1 (.slice none 0 0) [] from ⟨N.out.call hi hb hk, Kd.R_nil _ _ _ _ _, HL.out⟩);clear N hi hb hk Q HL
 go_wp2_with fail
 go_loopg [3] k (fun kq s3 wc => ∃ (l : List Int) (a d e B : Int), Sdq (RRq_text.l0 kq l s0_0 a d e B = some (r1, r2, r3, r4, r5)) ∧ Sdq (TX w0 w g s0_0 wc a d e B s3 l))
 case atStart => exact ⟨[], _, _, _, _, H, N2⟩
 case round =>
  clear H N2;obtain ⟨l, a, d, e, B, H, N⟩ := hrel
  cases gk with
  | zero => exact absurd H.out (by simp [RRq_text.l0])
  | succ gk =>
  have h := H.out;clear H;simp only [RRq_text.l0] at h;have hcl := N.out.s.cells;obtain ⟨c1, c2, c3, f1, f2⟩ := hcl;by_cases he : e = 0
  case neg =>
   rw [if_neg he] at h
   obtain ⟨rfl, rfl, rfl, rfl, rfl⟩ := (by simpa using h : ⟨#[]⟩ = r1 ∧ a = r2 ∧ d = r3 ∧ e = r4 ∧ B = r5)
   have eb : (e == 0) = false := by simp [he]
   clear h
   go_wp2_with fail
   go_ret;exact ⟨rfl, N.out.s.i, N.out.s.bl, N.out.s.k⟩
  rw [if_pos he] at h
  have eb : (e == 0) = true := by simp [he]
  obtain ⟨⟨t, a2, d2, e2, B2⟩, q, h⟩ := Option.bind_eq_some_iff.mp h;have Q := Sdq.mk q;have H := Sdq.mk h;clear q h
  go_wp2_with fail
  refine (RRq_peek.calls g s0_0 a d e B t a2 d2 e2 B2 w0 _ N.out.s.i N.out.s.bl Q.out).mono ?_;rintro en w2 ⟨rfl, hi, hb, hk⟩;have N2 := Sdq.mk (N.out.call hi hb hk);clear N hi hb hk Q c1 c2 c3 f1 f2 he eb;have hcl := N2.out.s.cells;obtain ⟨c1, c2, c3, f1, f2⟩ := hcl;have h := H.out;clear H;by_cases he : e2 = 0
  case neg =>
   rw [if_neg he] at h
   obtain ⟨rfl, rfl, rfl, rfl, rfl⟩ := (by simpa using h : ⟨#[]⟩ = r1 ∧ a2 = r2 ∧ d2 = r3 ∧ e2 = r4 ∧ B2 = r5)
   have eb : (e2 != 0) = true := by simp [he]
   clear h
   go_wp2_with fail
   go_ret;exact ⟨rfl, N2.out.s.i, N2.out.s.bl, N2.out.s.k⟩
  rw [if_pos he] at h
  have eb : (e2 != 0) = false := by simp [he]
  by_cases h34 : t = 34
  case pos =>
   rw [if_pos h34] at h
   obtain ⟨rfl, rfl, rfl, rfl, rfl⟩ := (by simpa using h : strOfNums l = r1 ∧ wrap64 (a2 + 1) = r2 ∧ d2 = r3 ∧ e2 = r4 ∧ B2 = r5)
   have tb : (t == 34) = true := by simp [h34]
   clear h;have N3 := Sdq.mk (N2.out.set1 (wrap64 (a2 + 1)));have hcv := own_string (P := Tryd.prog) Tryd.underlying35 Tryd.underlying5 Tryd.underlying9 (Kd.own_of_R N3.out.r)
   go_wp2_with fail
   go_ret;exact ⟨rfl, N3.out.s.i, N3.out.s.bl, N3.out.s.k⟩
  rw [if_neg h34] at h
  have tb : (t == 34) = false := by simp [h34]
  by_cases h32 : t < 32
  case pos =>
   rw [if_pos h32] at h;have lb : decide (t < 32) = true := decide_eq_true h32;obtain ⟨⟨a3, d3, e3, B3⟩, q, h⟩ := Option.bind_eq_some_iff.mp h;have Q := Sdq.mk q;have H := Sdq.mk h;clear q h
   go_wp2_with fail
   refine (RRq_fail.calls g s0_0 a2 d2 e2 B2 6 a2 a3 d3 e3 B3 w0 _ N2.out.s.i N2.out.s.bl Q.out).mono ?_;rintro en w3 ⟨rfl, hi, hb, hk⟩;have N3 := Sdq.mk (N2.out.call hi hb hk);clear N2 hi hb hk Q
   go_wp2_with fail
   go_roundg gk
   case measure => omega
   exact ⟨_, _, _, _, _, H, N3⟩
  rw [if_neg h32] at h;have lb : decide (t < 32) = false := decide_eq_false h32;by_cases h92 : t = 92
  case pos =>
   rw [if_pos h92] at h
   have nb : (t == 92) = true := by simp [h92]
   obtain ⟨⟨m, a3, d3, e3, B3⟩, q, h⟩ := Option.bind_eq_some_iff.mp h;by_cases hl : l.length + m.length < 140737488355328
   case neg =>
    rw [if_neg hl] at h
    simp at h
   rw [if_pos hl] at h;have Q := Sdq.mk q;have H := Sdq.mk h;clear q h
   go_wp2_with fail
   refine (RRq_escape.calls gk g s0_0 a2 d2 e2 B2 m a3 d3 e3 B3 w0 _ N2.out.s.i N2.out.s.bl Q.out).mono ?_;rintro en w3 ⟨v, rfl, ho, hi, hb, hk⟩;have N3 := Sdq.mk (N2.out.call hi hb hk);have hO : Kd.R (Kd.int .u8) 5 w3 w.heap.size (fun _ => True) u3 l := N3.out.r;have hV := Kd.R_lower (Kd.R_new' ho (Kd.R_lt N2.out.r)) (keep_size N2.out.s.k);have hT := Kd.R_mono (Kd.R_told (Kd.R_oldK (IsS96.apart N2.out.s.i N2.out.r (by decide)) hk) (Kd.R_base ho)) (fun _ h_ => h_.1);clear N2 hi hb hk Q ho;obtain ⟨A, c, rfl⟩ := Kd.R_slice hV
   go_wp2_with ((with_reducible refine gate_builtin (b := .append) (xs := #[.tmp 40, .tmp 42]) rfl ?_); at_builtin; refine Kd.R_append_rows (Kd.int .u8) w.heap.size rfl (.tmp 40) (.tmp 42) 35 5 (.int .u8 0) 1 rfl Tryd.underlying35 info5 rfl (by decide) (by omega) u3 l m _ _ _ (fun k_ => some k_ ≠ (.slice A m.length c : Value).ownBlock) (fun _ => False) rfl rfl (Kd.R_mono hT (fun _ hk => hk.2)) (Kd.R_reads' hV).2.2 (fun _ _ h => h) (fun _ h => h.elim) (fun k_ hk => Kd.fresh' (Kd.R_lt hV) k_ hk) (Below.refl _ _) (keep_size N3.out.s.k) (by omega) ?_; intro v4 w4 ho hb hg hat; have N4 := Sdq.mk (N3.out.grown (Kd.R_mono ho (fun _ _ => trivial)) hb hg))
   clear N3 hO hV hT ho hb hg hat
   go_roundg gk
   case measure => omega
   exact ⟨_, _, _, _, _, H, N4⟩
  rw [if_neg h92] at h
  have nb : (t == 92) = false := by simp [h92]
  by_cases hl : l.length < 140737488355328
  case neg =>
   rw [if_neg hl] at h
   simp at h
  rw [if_pos hl] at h;have H := Sdq.mk h;clear h
  go_wp2_with ((with_reducible refine gate_builtin (b := .append) (xs := #[.tmp 44, .tmp 47]) rfl ?_); at_builtin; refine Kd.R_append (Kd.int .u8) w.heap.size rfl (.tmp 44) (.tmp 47) 35 5 (.int .u8 0) 1 rfl Tryd.underlying35 info5 rfl (by decide) (by omega) u3 l (t % 256) [.int .u8 (t % 256)] (fun _ => True) (fun _ => False) rfl rfl rfl (fun _ hk => hk.elim) (fun _ _ => trivial) N2.out.r (Below.refl _ _) (keep_size N2.out.s.k) (by omega) ?_; intro v4 w4 ho hb hg hat; have N4 := Sdq.mk (N2.out.grown ho hb hg); clear c1 c2 c3 f1 f2; have hcl := N4.out.s.cells; obtain ⟨c1, c2, c3, f1, f2⟩ := hcl)
  have N5 := Sdq.mk (N4.out.set1 (wrap64 (a2 + 1)));clear N2 N4
  go_roundg gk
  case measure => omega
  exact ⟨_, _, _, _, _, H, N5⟩
end Go.Proofs.YteighppcdpaekaaDoor.P
end
section
namespace Go.Proofs.YteighppcdpaekaaDoor.Rf
open Go.RowKit Go.Proofs.YteighppcdpaekaaDoorW.PrintWords Go.Proofs.YteighppcdpaekaaDoor Go.Proofs.YteighppcdpaekaaDoor.P
def Bs (b : List Int) : Prop := (∀ x ∈ b, 0 ≤ x ∧ x ≤ 255) ∧ b.length ≤ 1000000
section
variable {α : Type} {r : α}
theorem evT {c : Prop} [Decidable c] {A B : Nat → Option α} (hc : c) (h : Ev A r) : Ev (fun k => if c then A k else B k) r := by simpa only [if_pos hc] using h
theorem evF {c : Prop} [Decidable c] {A B : Nat → Option α} (hc : ¬ c) (h : Ev B r) : Ev (fun k => if c then A k else B k) r := by simpa only [if_neg hc] using h
theorem evC {o : Option α} (h : o = some r) : Ev (fun _ => o) r := ⟨0, fun _ _ => h⟩
theorem evB {β : Type} {o : Option α} {f : Nat → α → Option β} {s : β} (h : o = some r) (k : Ev (fun n => f n r) s) : Ev (fun n => o.bind (f n)) s := by
 subst h; exact k
end
theorem w64 {z : Int} (h0 : -9223372036854775808 ≤ z) (h1 : z ≤ 9223372036854775807) : wrap64 z = z := by unfold wrap64; omega
theorem w64n {n : Nat} (h : n ≤ 1000000) : wrap64 ((n : Int) + 1) = ((n + 1 : Nat) : Int) := by unfold wrap64; omega
variable {b : List Int} {p : Nat} {d B : Int}
theorem rd_at {c : Int} (h : b[p]? = some c) : rd b (p : Int) = c := by simp [rd, h]
theorem lt_of {c : Int} (h : b[p]? = some c) : p < b.length := (List.getElem?_eq_some_iff.1 h).1
theorem byte_of {c : Int} (hb : Bs b) (h : b[p]? = some c) : 0 ≤ c ∧ c ≤ 255 := hb.1 c (List.mem_of_getElem? h)
theorem see_ok {c : Int} (hb : Bs b) (h : b[p]? = some c) : RRq_see.f b p d 0 B = some (c, (p : Int), d, (0 : Int), B) := by
 have := lt_of h;have := byte_of hb h;unfold RRq_see.f;rw [if_pos rfl, if_neg (by omega), if_pos (by omega), if_pos (by omega), rd_at h, w64 (by omega) (by omega)]
theorem see_end (h : b[p]? = none) : RRq_see.f b p d 0 B = some (-1, (p : Int), d, (0 : Int), B) := by
 have : b.length ≤ p := by simpa using h
 unfold RRq_see.f;rw [if_pos rfl, if_pos (by omega)]
theorem see_bad {a e : Int} (he : e ≠ 0) : RRq_see.f b a d e B = some (-1, a, d, e, B) := by
 unfold RRq_see.f;rw [if_neg he]
theorem peek_ok {c : Int} (hb : Bs b) (h : b[p]? = some c) : RRq_peek.f b p d 0 B = some (c, (p : Int), d, (0 : Int), B) := by
 have := lt_of h;have := byte_of hb h;unfold RRq_peek.f;rw [if_pos rfl, if_neg (by omega), if_pos (by omega), if_pos (by omega), rd_at h, w64 (by omega) (by omega)]
theorem peek_end (h : b[p]? = none) : RRq_peek.f b p d 0 B = some (-1, (p : Int), d, (11 : Int), (b.length : Int)) := by
 have : b.length ≤ p := by simpa using h
 unfold RRq_peek.f;rw [if_pos rfl, if_pos (by omega)]
 rfl
theorem peek_bad {a e : Int} (he : e ≠ 0) : RRq_peek.f b a d e B = some (-1, a, d, e, B) := by
 unfold RRq_peek.f;rw [if_neg he]
theorem fail_0 (a c x : Int) : RRq_fail.f b a d 0 B c x = some (a, d, c, x) := by unfold RRq_fail.f; rw [if_pos rfl]
theorem fail_bad {a e : Int} (he : e ≠ 0) (c x : Int) : RRq_fail.f b a d e B c x = some (a, d, e, B) := by unfold RRq_fail.f; rw [if_neg he]
theorem n6 : (6 : Int) ≠ 0 := by decide
theorem n10 : (10 : Int) ≠ 0 := by decide
theorem n11 : (11 : Int) ≠ 0 := by decide
theorem n12 : (12 : Int) ≠ 0 := by decide
theorem n13 : (13 : Int) ≠ 0 := by decide
theorem n23 : (23 : Int) ≠ 0 := by decide
def Ends0 (o : Js.Out Unit) (d B : Int) (g : Nat → Option (Int × Int × Int × Int)) : Prop :=
 match o with
 | .ok _ q => Ev g ((q : Int), d, 0, B)
 | .no _ _ => ∃ a d' e B', e ≠ 0 ∧ Ev g (a, d', e, B')
theorem blank_loop (hb : Bs b) : ∀ (j : Nat) (p : Nat), p + j = b.length → ∀ c, (∀ x, b[p]? = some x → c = x) → (b[p]? = none → c = -1) → Ev (fun k => RRq_blank.l0 k c b p d 0 B) ((Js.blank b p : Nat), d, 0, B)
 | 0, p, hj, c, _, h2 => by
  have hn : b[p]? = none := by simp; omega
  have := h2 hn;subst this;refine Ev.step (fun k => rfl) ?_;refine evF (by decide) (evF (by decide) (evF (by decide) (evF (by decide) ?_)));rw [Js.blank, Js.blank_end hn];exact Ev.now _
 | j + 1, p, hj, c, h1, _ => by
  obtain ⟨x, hx⟩ : ∃ x, b[p]? = some x := ⟨b[p]'(by omega), by simp⟩
  have := h1 x hx;subst this;have hl := hb.2
  have ih : ∀ c', (∀ x, b[p + 1]? = some x → c' = x) → (b[p + 1]? = none → c' = -1) → Ev (fun k => RRq_blank.l0 k c' b ((p + 1 : Nat) : Int) d 0 B) ((Js.blank b (p + 1) : Nat), d, 0, B) := fun c' a a' => blank_loop hb j (p + 1) (by omega) c' a a'
  have go : Ev (fun k => (RRq_see.f b (wrap64 ((p : Int) + 1)) d 0 B).bind fun t => RRq_blank.l0 k t.1 b t.2.1 t.2.2.1 t.2.2.2.1 t.2.2.2.2) ((Js.blank b (p + 1) : Nat), d, 0, B) := by
   rw [w64n (by omega)]
   cases hn : b[p + 1]? with
   | none => exact evB (see_end hn) (ih _ (fun x e => by rw [hn] at e; cases e) (fun _ => rfl))
   | some y => exact evB (see_ok hb hn) (ih _ (fun x e => by rw [hn] at e; exact Option.some.inj e) (fun e => by rw [hn] at e; cases e))
  by_cases hc : Js.isBlank c = true
  ·have e : Js.blank b p = Js.blank b (p + 1) := by unfold Js.blank; rw [Js.blank_step hx hc]; omega
   rw [e];refine Ev.step (fun k => rfl) ?_;by_cases e1 : c = 32
   ·exact evT e1 go
   refine evF e1 ?_;by_cases e2 : c = 9
   ·exact evT e2 go
   refine evF e2 ?_;by_cases e3 : c = 10
   ·exact evT e3 go
   refine evF e3 ?_;by_cases e4 : c = 13
   ·exact evT e4 go
   ·exact absurd hc (by simp [Js.isBlank, e1, e2, e3, e4])
  ·have e : Js.blank b p = p := by unfold Js.blank; rw [Js.blank_stop hx (by simpa using hc)]; rfl
   rw [e]
   have hc' : c ≠ 32 ∧ c ≠ 9 ∧ c ≠ 10 ∧ c ≠ 13 := by simpa [Js.isBlank, not_or, and_assoc] using hc
   refine Ev.step (fun k => rfl) ?_;exact evF hc'.1 (evF hc'.2.1 (evF hc'.2.2.1 (evF hc'.2.2.2 (Ev.now _))))
theorem blank_ok (hb : Bs b) (hp : p ≤ b.length) : Ev (fun k => RRq_blank.f k b p d 0 B) ((Js.blank b p : Nat), d, 0, B) := by
 show Ev (fun k => (RRq_see.f b p d 0 B).bind fun t => RRq_blank.l0 k t.1 b t.2.1 t.2.2.1 t.2.2.2.1 t.2.2.2.2) _
 cases hn : b[p]? with
 | none => exact evB (see_end hn) (blank_loop hb (b.length - p) p (by omega) _ (fun x e => by rw [hn] at e; cases e) (fun _ => rfl))
 | some y => exact evB (see_ok hb hn) (blank_loop hb (b.length - p) p (by omega) _ (fun x e => by rw [hn] at e; exact Option.some.inj e) (fun e => by rw [hn] at e; cases e))
theorem blank_bad {a e : Int} (he : e ≠ 0) : Ev (fun k => RRq_blank.f k b a d e B) (a, d, e, B) := by
 refine evB (see_bad he) ?_;refine Ev.step (fun k => rfl) ?_;exact evF (by show ¬ ((-1 : Int) = 32); decide) (evF (by show ¬ ((-1 : Int) = 9); decide) (evF (by show ¬ ((-1 : Int) = 10); decide) (evF (by show ¬ ((-1 : Int) = 13); decide) (Ev.now _))))
theorem must_ok {c : Int} (hb : Bs b) (h : b[p]? = some c) : Ev (fun k => RRq_must.f k b p d 0 B c) (((p + 1 : Nat) : Int), d, 0, B) := by
 unfold RRq_must.f;have := lt_of h;have hl := hb.2;refine evB (peek_ok hb h) ?_;refine evT rfl ?_;refine Ev.step (fun k => rfl) ?_;refine evF (by simp) (evT rfl ?_)
 show Ev (fun _ => some (wrap64 ((p : Int) + 1), d, 0, B)) _
 rw [w64n (by omega)];exact Ev.now _
theorem must_no {c x : Int} (hb : Bs b) (h : b[p]? = some x) (hx : x ≠ c) : Ev (fun k => RRq_must.f k b p d 0 B c) ((p : Int), d, 6, (p : Int)) := by
 unfold RRq_must.f;refine evB (peek_ok hb h) ?_;refine evT rfl ?_;refine Ev.step (fun k => rfl) ?_;refine evT (by simpa using hx) ?_;refine evB (fail_0 _ _ _) ?_;exact evF (by show ¬ ((6 : Int) = 0); decide) (Ev.now _)
theorem must_bad {a e c : Int} (he : e ≠ 0) : Ev (fun k => RRq_must.f k b a d e B c) (a, d, e, B) := by
 unfold RRq_must.f;refine evB (peek_bad he) ?_;refine evF (by exact he) ?_;refine Ev.step (fun k => rfl) ?_;exact evF (by exact he) (Ev.now _)
theorem must_end {c : Int} (h : b[p]? = none) : Ev (fun k => RRq_must.f k b p d 0 B c) ((p : Int), d, 11, (b.length : Int)) := by
 unfold RRq_must.f;refine evB (peek_end h) ?_;refine evF (by show ¬ ((11 : Int) = 0); decide) ?_;refine Ev.step (fun k => rfl) ?_;exact Ev.now _
theorem digits_loop (hb : Bs b) : ∀ (j : Nat) (p : Nat), p + j = b.length → ∀ c, (∀ x, b[p]? = some x → c = x) → (b[p]? = none → c = -1) → Ev (fun k => RRq_digits.l0 k c b p d 0 B) (((p + Js.digitLen (b.drop p) : Nat) : Int), d, 0, B)
 | 0, p, hj, c, _, h2 => by
  have hn : b[p]? = none := by simp; omega
  have := h2 hn;subst this;refine Ev.step (fun k => rfl) ?_;rw [Js.digit_end hn];exact evF (c := (-1 : Int) ≥ 48) (by decide) (Ev.now _)
 | j + 1, p, hj, c, h1, _ => by
  obtain ⟨x, hx⟩ : ∃ x, b[p]? = some x := ⟨b[p]'(by omega), by simp⟩
  have := h1 x hx;subst this;have hl := hb.2;refine Ev.step (fun k => rfl) ?_;by_cases e1 : c ≥ 48
  ·refine evT e1 ?_
   by_cases e2 : c ≤ 57
   ·refine evT e2 ?_
    have e : p + Js.digitLen (b.drop p) = (p + 1) + Js.digitLen (b.drop (p + 1)) := by rw [Js.digit_step hx (by simp [Js.isDigit]; omega)]; omega
    rw [e, w64n (by omega)]
    cases hn : b[p + 1]? with
    | none => exact evB (see_end hn) (digits_loop hb j (p + 1) (by omega) _ (fun x e => by rw [hn] at e; cases e) (fun _ => rfl))
    | some y => exact evB (see_ok hb hn) (digits_loop hb j (p + 1) (by omega) _ (fun x e => by rw [hn] at e; exact Option.some.inj e) (fun e => by rw [hn] at e; cases e))
   ·rw [Js.digit_stop hx (by simp [Js.isDigit]; omega)]
    exact evF e2 (Ev.now _)
  ·rw [Js.digit_stop hx (by simp [Js.isDigit]; omega)]
   exact evF e1 (Ev.now _)
theorem digits_1 (hb : Bs b) (hp : p ≤ b.length) : Ev (fun k => RRq_digits.j1 k b p d 0 B) (((p + Js.digitLen (b.drop p) : Nat) : Int), d, 0, B) := by
 refine Ev.step (fun k => rfl) ?_
 cases hn : b[p]? with
 | none => exact evB (see_end hn) (digits_loop hb (b.length - p) p (by omega) _ (fun x e => by rw [hn] at e; cases e) (fun _ => rfl))
 | some y => exact evB (see_ok hb hn) (digits_loop hb (b.length - p) p (by omega) _ (fun x e => by rw [hn] at e; exact Option.some.inj e) (fun e => by rw [hn] at e; cases e))
theorem digits_1bad {a e : Int} (he : e ≠ 0) : Ev (fun k => RRq_digits.j1 k b a d e B) (a, d, e, B) := by
 refine Ev.step (fun k => rfl) ?_;refine evB (see_bad he) ?_;refine Ev.step (fun k => rfl) ?_;exact evF (c := (-1 : Int) ≥ 48) (by decide) (Ev.now _)
theorem digits_bad {a e : Int} (he : e ≠ 0) : Ev (fun k => RRq_digits.f k b a d e B) (a, d, e, B) := by
 unfold RRq_digits.f;refine evB (peek_bad he) ?_;refine evF (by exact he) ?_;exact Ev.step (fun k => rfl) (digits_1bad he)
theorem digits_ends (hb : Bs b) : Ends0 (Js.digits b p) d B (fun k => RRq_digits.f k b p d 0 B) := by
 unfold RRq_digits.f Js.digits
 cases hn : b[p]? with
 | none =>
  refine ⟨(p : Int), d, 11, (b.length : Int), by decide, evB (peek_end hn) ?_⟩;refine evF (by show ¬ ((11 : Int) = 0); decide) ?_;exact Ev.step (fun k => rfl) (digits_1bad n11)
 | some c =>
  have hp := lt_of hn;simp only;by_cases e1 : Js.isDigit c = true
  ·rw [if_pos e1]
   refine evB (peek_ok hb hn) ?_;refine evT rfl ?_
   have e2 : 48 ≤ c ∧ c ≤ 57 := by simpa [Js.isDigit] using e1
   refine evF (by show ¬ (c < 48); omega) ?_;refine Ev.step (fun k => rfl) ?_;refine evF (by show ¬ (decide (c > 57) = true); simp; omega) ?_;exact digits_1 hb (by omega)
  ·rw [if_neg e1]
   have e2 : ¬ (48 ≤ c ∧ c ≤ 57) := by simpa [Js.isDigit] using e1
   refine ⟨(p : Int), d, 6, (p : Int), by decide, evB (peek_ok hb hn) ?_⟩;refine evT rfl ?_
   have bad : Ev (fun k => RRq_digits.j0 k true b p d 0 B) ((p : Int), d, 6, (p : Int)) := by
    refine Ev.step (f := fun k => (RRq_fail.f b p d 0 B 6 p).bind fun t => RRq_digits.j1 k b t.1 t.2.1 t.2.2.1 t.2.2.2) (fun k => rfl) ?_;exact evB (fail_0 _ _ _) (digits_1bad n6)
   by_cases e3 : c < 48
   ·exact evT e3 bad
   ·refine evF e3 ?_
    show Ev (fun k => RRq_digits.j0 k (decide (c > 57)) b p d 0 B) _
    rw [decide_eq_true (by omega : c > 57)];exact bad
theorem word_bad (s : ByteArray) (kd : Int) : ∀ (j i : Nat), i + j = s.size → ∀ {a e : Int}, e ≠ 0 → s.size ≤ 1000 → Ev (fun k => RRq_word.l0 k s kd i b a d e B) (kd, (⟨#[]⟩ : ByteArray), [], [], a, d, e, B)
 | 0, i, h, a, e, he, hs => by
  refine Ev.step (fun k => rfl) ?_;exact evF (by omega) (Ev.now _)
 | j + 1, i, h, a, e, he, hs => by
  refine Ev.step (fun k => rfl) ?_;refine evT (by omega) (evT (by omega) ?_);refine Ev.bind (must_bad he) ?_;rw [w64n (by omega)];exact word_bad s kd j (i + 1) (by omega) he hs
theorem word_loop (hb : Bs b) (s : ByteArray) (kd : Int) (hs : s.size ≤ 1000) : ∀ (ws : List Int) (i p : Nat), i + ws.length = s.size → (∀ j (h : j < ws.length), bt s ((i + j : Nat) : Int) = ws[j]) → p ≤ b.length →
  (match Js.word b ws p with
   | .ok _ q => Ev (fun k => RRq_word.l0 k s kd i b p d 0 B) (kd, (⟨#[]⟩ : ByteArray), [], [], (q : Int), d, 0, B)
   | .no _ _ => ∃ a e B', e ≠ 0 ∧ Ev (fun k => RRq_word.l0 k s kd i b p d 0 B) (kd, (⟨#[]⟩ : ByteArray), [], [], a, d, e, B'))
 | [], i, p, h, hw, hp => by
  show Ev _ _
  refine Ev.step (fun k => rfl) ?_;exact evF (by simp at h; omega) (Ev.now _)
 | w :: r, i, p, h, hw, hp => by
  have hr := bt_range s (i : Int);have h0 : bt s (i : Int) = w := hw 0 (by simp);simp only [List.length_cons] at h
  have e0 : wrap64 (bt s (i : Int)) = w := by rw [w64 (by omega) (by omega), h0]
  have stepE : ∀ {o : Int × ByteArray × List ByteArray × List S44 × Int × Int × Int × Int} {t : Int × Int × Int × Int}, Ev (fun k => RRq_must.f k b p d 0 B w) t → Ev (fun k => RRq_word.l0 k s kd ((i + 1 : Nat) : Int) b t.1 t.2.1 t.2.2.1 t.2.2.2) o → Ev (fun k => RRq_word.l0 k s kd i b p d 0 B) o := by
   intro o t h1 h2;refine Ev.step (fun k => rfl) ?_;refine evT (by omega) (evT (by omega) ?_);rw [e0, w64n (by omega)];exact Ev.bind h1 h2
  simp only [Js.word]
  cases hn : b[p]? with
  | none => exact ⟨_, _, _, n11, stepE (must_end hn) (word_bad s kd (s.size - (i + 1)) (i + 1) (by omega) n11 hs)⟩
  | some x =>
   simp only;by_cases hx : x = w
   ·subst hx
    rw [if_pos (by simp)];have ih := word_loop hb s kd hs r (i + 1) (p + 1) (by omega) (fun j hj => by have := hw (j + 1) (by simpa using hj); simpa [Nat.add_assoc, Nat.add_comm 1 j] using this) (by have := lt_of hn; omega)
    cases ho : Js.word b r (p + 1) with
    | ok u q => rw [ho] at ih; exact stepE (must_ok hb hn) ih
    | no y e => rw [ho] at ih; obtain ⟨a, e, B', he, h⟩ := ih; exact ⟨a, e, B', he, stepE (must_ok hb hn) h⟩
   ·rw [if_neg (by simpa using hx)]
    exact ⟨_, _, _, n6, stepE (must_no hb hn hx) (word_bad s kd (s.size - (i + 1)) (i + 1) (by omega) n6 hs)⟩
def dv (c : Int) : Int := match Js.hexDigit c with
 | some x => x
 | none => -1
theorem dv_spec (c : Int) : dv c = if 48 ≤ c ∧ c ≤ 57 then c - 48 else if 97 ≤ c ∧ c ≤ 102 then c - 87 else if 65 ≤ c ∧ c ≤ 70 then c - 55 else -1 := by
 unfold dv Js.hexDigit;by_cases h1 : 48 ≤ c ∧ c ≤ 57
 ·rw [if_pos h1, if_pos h1]
 rw [if_neg h1, if_neg h1];by_cases h2 : 97 ≤ c ∧ c ≤ 102
 ·rw [if_pos h2, if_pos h2]
 rw [if_neg h2, if_neg h2];by_cases h3 : 65 ≤ c ∧ c ≤ 70
 ·rw [if_pos h3, if_pos h3]
 ·rw [if_neg h3, if_neg h3]
theorem hex_chain {c n i a e : Int} (hc : -1 ≤ c ∧ c ≤ 255) {r : Int × Int × Int × Int × Int} (h : Ev (fun k => RRq_hex.j6 k n i (dv c) b a d e B) r) :
  Ev (fun k => if c ≥ 48 then RRq_hex.j1 k n i c (-1) (decide (c ≤ 57)) b a d e B else RRq_hex.j1 k n i c (-1) false b a d e B) r := by
 have s4 : ∀ x6 : Int, (if 65 ≤ c ∧ c ≤ 70 then c - 55 else x6) = dv c → Ev (fun k => RRq_hex.j4 k n i c x6 b a d e B) r := by
  intro x6 hx;by_cases h1 : c ≥ 65
  ·by_cases h2 : c ≤ 70
   ·rw [if_pos ⟨h1, h2⟩] at hx
    refine Ev.step (fun k => rfl) (evT h1 ?_);refine Ev.step (fun k => rfl) (evT (decide_eq_true h2) ?_);rw [show wrap64 (wrap64 (c - 65) + 10) = dv c from by rw [← hx]; unfold wrap64; omega];exact h
   ·rw [if_neg (fun z => h2 z.2)] at hx
    subst hx;refine Ev.step (fun k => rfl) (evT h1 ?_);exact Ev.step (fun k => rfl) (evF (by simpa using h2) h)
  ·rw [if_neg (fun z => h1 z.1)] at hx
   subst hx;refine Ev.step (fun k => rfl) (evF h1 ?_);exact Ev.step (f := fun k => RRq_hex.j6 k n i (dv c) b a d e B) (fun k => rfl) h
 have s2 : ∀ x6 : Int, (if 97 ≤ c ∧ c ≤ 102 then c - 87 else if 65 ≤ c ∧ c ≤ 70 then c - 55 else x6) = dv c → Ev (fun k => RRq_hex.j2 k n i c x6 b a d e B) r := by
  intro x6 hx;by_cases h1 : c ≥ 97
  ·by_cases h2 : c ≤ 102
   ·rw [if_pos ⟨h1, h2⟩] at hx
    refine Ev.step (fun k => rfl) (evT h1 ?_);refine Ev.step (fun k => rfl) (evT (decide_eq_true h2) ?_);exact s4 _ (by rw [if_neg (by omega), ← hx]; unfold wrap64; omega)
   ·rw [if_neg (fun z => h2 z.2)] at hx
    refine Ev.step (fun k => rfl) (evT h1 ?_);exact Ev.step (fun k => rfl) (evF (by simpa using h2) (s4 _ hx))
  ·rw [if_neg (fun z => h1 z.1)] at hx
   refine Ev.step (fun k => rfl) (evF h1 ?_);exact Ev.step (f := fun k => RRq_hex.j4 k n i c x6 b a d e B) (fun k => rfl) (s4 _ hx)
 by_cases h1 : c ≥ 48
 ·refine evT h1 ?_
  by_cases h2 : c ≤ 57
  ·refine Ev.step (fun k => rfl) (evT (decide_eq_true h2) ?_)
   refine s2 _ ?_;rw [dv_spec, if_pos (show 48 ≤ c ∧ c ≤ 57 from ⟨h1, h2⟩), if_neg (show ¬ (97 ≤ c ∧ c ≤ 102) from by omega), if_neg (show ¬ (65 ≤ c ∧ c ≤ 70) from by omega)];unfold wrap64; omega
  ·refine Ev.step (fun k => rfl) (evF (by simpa using h2) ?_)
   refine s2 _ ?_;rw [dv_spec, if_neg (show ¬ (48 ≤ c ∧ c ≤ 57) from fun z => h2 z.2)]
 ·refine evF h1 ?_
  refine Ev.step (f := fun k => RRq_hex.j2 k n i c (-1) b a d e B) (fun k => rfl) (s2 _ ?_);rw [dv_spec, if_neg (show ¬ (48 ≤ c ∧ c ≤ 57) from fun z => h1 z.1)]
theorem hex_loop (hb : Bs b) : ∀ (j : Nat) (i : Nat) (n : Int) (p : Nat), i + j = 4 → 0 ≤ n → n < 16 ^ i → p ≤ b.length →
    (match Js.hexTo b j n p with
      | .ok v q => Ev (fun k => RRq_hex.l0 k n i b p d 0 B) (v, (q : Int), d, 0, B) ∧ 0 ≤ v ∧ v ≤ 65535
      | .no _ _ => ∃ a e B', e ≠ 0 ∧ Ev (fun k => RRq_hex.l0 k n i b p d 0 B) (0, a, d, e, B'))
  | 0, i, n, p, h, h0, h1, hp => by
    obtain rfl : i = 4 := by omega
    refine ⟨?_, h0, by have : (16 : Int) ^ 4 = 65536 := by decide
                       omega⟩
    exact Ev.step (f := fun k => some (n, (p : Int), d, 0, B)) (fun k => rfl) (Ev.now _)
  | j + 1, i, n, p, h, h0, h1, hp => by
    have hl := hb.2
    have hp16 : (16 : Int) ^ i ≤ 4096 := by
      have h3 : i ≤ 3 := by omega
      have : i = 0 ∨ i = 1 ∨ i = 2 ∨ i = 3 := by omega
      rcases this with rfl | rfl | rfl | rfl <;> decide
    simp only [Js.hexTo]
    cases hn : b[p]? with
    | none =>
      refine ⟨(p : Int), 11, (b.length : Int), n11, ?_⟩;refine Ev.step (fun k => rfl) (evT (by omega) ?_);refine evB (peek_end hn) ?_;refine hex_chain (c := -1) ⟨by decide, by decide⟩ ?_;refine Ev.step (f := fun k => RRq_hex.j7 k n i (dv (-1)) false b p d 11 (b.length : Int)) (fun k => rfl) ?_;exact Ev.step (f := fun k => some (0, (p : Int), d, 11, (b.length : Int))) (fun k => rfl) (Ev.now _)
    | some c =>
      have hc := byte_of hb hn;have hpl := lt_of hn;simp only
      cases hd : Js.hexDigit c with
      | none =>
        have e : dv c = -1 := by unfold dv; rw [hd]
        refine ⟨(p : Int), 6, (p : Int), n6, ?_⟩;refine Ev.step (fun k => rfl) (evT (by omega) ?_);refine evB (peek_ok hb hn) ?_;refine hex_chain (by omega) ?_;rw [e];refine Ev.step (f := fun k => RRq_hex.j7 k n i (-1) true b p d 0 B) (fun k => rfl) ?_;refine Ev.step (f := fun k => (RRq_fail.f b p d 0 B 6 p).bind fun t => if t.2.2.1 = 0 then RRq_hex.l0 k (wrap64 (wrap64 (n * 16) + -1)) (wrap64 ((i : Int) + 1)) b (wrap64 (t.1 + 1)) t.2.1 t.2.2.1 t.2.2.2 else some (0, t.1, t.2.1, t.2.2.1, t.2.2.2)) (fun k => rfl) ?_;exact evB (fail_0 _ _ _) (evF n6 (Ev.now _))
      | some x =>
        have e : dv c = x := by unfold dv; rw [hd]
        have hx : 0 ≤ x ∧ x ≤ 15 := by
          unfold Js.hexDigit at hd
          split at hd
          · cases hd; omega
          split at hd
          · cases hd; omega
          split at hd
          · cases hd; omega
          · cases hd
        have goes : ∀ r, Ev (fun k => RRq_hex.l0 k (n * 16 + x) ((i + 1 : Nat) : Int) b ((p + 1 : Nat) : Int) d 0 B) r → Ev (fun k => RRq_hex.l0 k n i b p d 0 B) r := by
          intro r hr;refine Ev.step (fun k => rfl) (evT (by omega) ?_);refine evB (peek_ok hb hn) ?_;refine hex_chain (by omega) ?_;rw [e];refine Ev.step (f := fun k => RRq_hex.j7 k n i x (decide (x < 0)) b p d 0 B) (fun k => rfl) ?_;rw [decide_eq_false (by omega : ¬ x < 0)];refine Ev.step (f := fun k => RRq_hex.l0 k (wrap64 (wrap64 (n * 16) + x)) (wrap64 ((i : Int) + 1)) b (wrap64 ((p : Int) + 1)) d 0 B) (fun k => rfl) ?_;rw [w64 (z := n * 16) (by omega) (by omega), w64 (z := n * 16 + x) (by omega) (by omega), w64n (by omega), w64n (by omega)];exact hr
        have ih := hex_loop hb j (i + 1) (n * 16 + x) (p + 1) (by omega) (by omega) (by rw [Int.pow_succ]; omega) (by omega);simp only
        cases ho : Js.hexTo b j (n * 16 + x) (p + 1) with
        | ok v q => rw [ho] at ih; exact ⟨goes _ ih.1, ih.2⟩
        | no y z => rw [ho] at ih; obtain ⟨a, e, B', he, h⟩ := ih; exact ⟨a, e, B', he, goes _ h⟩
theorem hex_ends (hb : Bs b) (hp : p ≤ b.length) : (match Js.hex b p with
      | .ok v q => Ev (fun k => RRq_hex.f k b p d 0 B) (v, (q : Int), d, 0, B) ∧ 0 ≤ v ∧ v ≤ 65535
      | .no _ _ => ∃ a e B', e ≠ 0 ∧ Ev (fun k => RRq_hex.f k b p d 0 B) (0, a, d, e, B')) := hex_loop hb 4 0 0 p rfl (by decide) (by decide) hp
theorem enc_ok {n : Int} {l : List Int} (h : Js.encode n = some l) : Ev (fun k => R3q_Encode.f k n) (l, 0) := by
 unfold Js.encode at h
 split at h
 ·cases h
 rename_i h0
 have go : ∀ r, Ev (fun k => R3q_Encode.j0 k n false) r → Ev (fun k => R3q_Encode.f k n) r := by
  intro r hr;unfold R3q_Encode.f;refine evF (by omega) (evF (by omega) ?_);by_cases h1 : n ≥ 55296
  ·refine evT h1 ?_
   rw [decide_eq_false (by omega : ¬ n ≤ 57343)];exact hr
  ·exact evF h1 hr
 refine go _ ?_
 have d1 : ∀ m : Int, 0 ≤ n → Int.tdiv n m = n / m := fun m hn => Int.tdiv_eq_ediv_of_nonneg hn
 have d2 : ∀ x m : Int, 0 ≤ x → Int.tmod x m = x % m := fun x m hx => Int.tmod_eq_emod_of_nonneg hx
 have hn : 0 ≤ n := by omega
 refine Ev.step (f := fun k => if n < 128 then (some ((([(n) % 256] : List Int)), 0)) else (if n < 2048 then (some ((([(wrap64 (192 + (wrap64 (Int.tdiv n 64)))) % 256, (wrap64 (128 + (Int.tmod n 64))) % 256] : List Int)), 0)) else (if n < 65536 then (some ((([(wrap64 (224 + (wrap64 (Int.tdiv n 4096)))) % 256, (wrap64 (128 + (Int.tmod (wrap64 (Int.tdiv n 64)) 64))) % 256, (wrap64 (128 + (Int.tmod n 64))) % 256] : List Int)), 0)) else (some ((([(wrap64 (240 + (wrap64 (Int.tdiv n 262144)))) % 256, (wrap64 (128 + (Int.tmod (wrap64 (Int.tdiv n 4096)) 64))) % 256, (wrap64 (128 + (Int.tmod (wrap64 (Int.tdiv n 64)) 64))) % 256, (wrap64 (128 + (Int.tmod n 64))) % 256] : List Int)), 0))))) (fun k => rfl) ?_;have w1 : wrap64 (n / 64) = n / 64 := w64 (by omega) (by omega);have w2 : wrap64 (n / 4096) = n / 4096 := w64 (by omega) (by omega);have w3 : wrap64 (n / 262144) = n / 262144 := w64 (by omega) (by omega);rw [d1 64 hn, d1 4096 hn, d1 262144 hn, w1, w2, w3, d2 n 64 hn, d2 (n / 64) 64 (by omega), d2 (n / 4096) 64 (by omega)];by_cases h1 : n < 128
 ·rw [if_pos h1] at h
  cases h;refine evT h1 (evC ?_);rw [Int.emod_eq_of_lt hn (by omega)]
 rw [if_neg h1] at h;refine evF h1 ?_
 have a2 : wrap64 (128 + n % 64) % 256 = 128 + n % 64 := by unfold wrap64; omega
 by_cases h2 : n < 2048
 ·rw [if_pos h2] at h
  cases h;refine evT h2 (evC ?_);rw [a2, show wrap64 (192 + n / 64) % 256 = 192 + n / 64 from by unfold wrap64; omega]
 rw [if_neg h2] at h;refine evF h2 ?_
 have a3 : wrap64 (128 + n / 64 % 64) % 256 = 128 + n / 64 % 64 := by unfold wrap64; omega
 by_cases h3 : n < 65536
 ·rw [if_pos h3] at h
  cases h;refine evT h3 (evC ?_);rw [a2, a3, show wrap64 (224 + n / 4096) % 256 = 224 + n / 4096 from by unfold wrap64; omega]
 rw [if_neg h3] at h;cases h;refine evF h3 (evC ?_);rw [a2, a3, show wrap64 (128 + n / 4096 % 64) % 256 = 128 + n / 4096 % 64 from by unfold wrap64; omega, show wrap64 (240 + n / 262144) % 256 = 240 + n / 262144 from by unfold wrap64; omega]
theorem enc_no {n : Int} (h : Js.encode n = none) : Ev (fun k => R3q_Encode.f k n) ([], 10) := by
 unfold Js.encode at h
 have h0 : n < 0 ∨ n > 0x10FFFF ∨ (0xD800 ≤ n ∧ n ≤ 0xDFFF) := by
  split at h
  ·assumption
  ·repeat (split at h; · cases h)
   cases h
 have go : Ev (fun k => R3q_Encode.j0 k n true) ([], 10) := Ev.step (f := fun k => some ([], 10)) (fun k => rfl) (Ev.now _);unfold R3q_Encode.f;by_cases h1 : n < 0
 ·exact evT h1 go
 refine evF h1 ?_;by_cases h2 : n > 1114111
 ·exact evT h2 go
 refine evF h2 (evT (by omega) ?_);rw [decide_eq_true (by omega : n ≤ 57343)];exact go
end Go.Proofs.YteighppcdpaekaaDoor.Rf
end
section
namespace Go.Proofs.YteighppcdpaekaaDoor.Rf
open Go.RowKit Go.Proofs.YteighppcdpaekaaDoorW.PrintWords Go.Proofs.YteighppcdpaekaaDoor Go.Proofs.YteighppcdpaekaaDoor.P
variable {b : List Int} {p : Nat} {d B : Int}
def sec (b : List Int) (n : Int) (q : Nat) : Option (Int × Nat) :=
 if Js.next b q 92 then
  match b[q + 1]? with
  | none => none
  | some c => if c == 117 then
    match Js.hex b (q + 2) with
    | .no _ _ => none
    | .ok low q => if low < 0xDC00 ∨ low > 0xDFFF then none else some (0x10000 + (n - 0xD800) * 1024 + low - 0xDC00, q)
   else none
 else none
def uni (b : List Int) (n : Int) (q : Nat) : Option (Int × Nat) := if 0xD800 ≤ n ∧ n ≤ 0xDBFF then sec b n q else some (n, q)
theorem second_1 {q : Nat} {n from_ : Int} (hq : q + 1 ≤ 1000000) {r : Int × Int × Int × Int × Int} (hr : Ev (fun k => (RRq_hex.f k b ((q + 1 + 1 : Nat) : Int) d 0 B).bind fun t => (if t.2.2.2.1 = 0 then (if t.1 < 56320 then ((RRq_fail.f b t.2.1 t.2.2.1 t.2.2.2.1 t.2.2.2.2 6 from_).bind fun u => (some (wrap64 ((wrap64 ((wrap64 (65536 + (wrap64 ((wrap64 (n - 55296)) * 1024)))) + t.1)) - 56320), u.1, u.2.1, u.2.2.1, u.2.2.2))) else (if t.1 > 57343 then ((RRq_fail.f b t.2.1 t.2.2.1 t.2.2.2.1 t.2.2.2.2 6 from_).bind fun u => (some (wrap64 ((wrap64 ((wrap64 (65536 + (wrap64 ((wrap64 (n - 55296)) * 1024)))) + t.1)) - 56320), u.1, u.2.1, u.2.2.1, u.2.2.2))) else (some (wrap64 ((wrap64 ((wrap64 (65536 + (wrap64 ((wrap64 (n - 55296)) * 1024)))) + t.1)) - 56320), t.2.1, t.2.2.1, t.2.2.2.1, t.2.2.2.2)))) else (some (wrap64 ((wrap64 ((wrap64 (65536 + (wrap64 ((wrap64 (n - 55296)) * 1024)))) + t.1)) - 56320), t.2.1, t.2.2.1, t.2.2.2.1, t.2.2.2.2)))) r) : Ev (fun k => RRq_second.j1 k from_ n b ((q + 1 : Nat) : Int) d 0 B) r := by
 refine Ev.step (fun k => ?_) hr;rw [RRq_second.j1, if_pos rfl, w64n hq]
theorem second_some (hb : Bs b) {q q' : Nat} {n v from_ : Int} (hn : 0xD800 ≤ n ∧ n ≤ 0xDBFF) (h : sec b n q = some (v, q')) : Ev (fun k => RRq_second.f k b q d 0 B from_ n) (v, (q' : Int), d, 0, B) := by
 have hl := hb.2;unfold sec at h
 split at h
 ·rename_i hx
  have hx' : b[q]? = some 92 := by simpa [Js.next] using hx
  have := lt_of hx'
  cases hy : b[q + 1]? with
  | none => rw [hy] at h; cases h
  | some c =>
   rw [hy] at h;simp only at h
   split at h
   ·rename_i hc
    obtain rfl : c = 117 := by simpa using hc
    have := lt_of hy;have hh := hex_ends (d := d) (B := B) hb (p := q + 2) (by omega)
    cases ho : Js.hex b (q + 2) with
    | no x e => rw [ho] at h; cases h
    | ok low q2 =>
     rw [ho] at h hh;simp only at h hh
     split at h
     ·cases h
     ·rename_i hlo
      cases h;unfold RRq_second.f;refine evB (see_ok hb hx') ?_;refine evT rfl ?_
      show Ev (fun k => (RRq_peek.f b (wrap64 ((q : Int) + 1)) d 0 B).bind _) _
      rw [w64n (by omega)];refine evB (peek_ok hb hy) ?_;refine evT rfl ?_;refine Ev.step (f := fun k => RRq_second.j1 k from_ n b ((q + 1 : Nat) : Int) d 0 B) (fun k => rfl) ?_;refine second_1 (by omega) ?_;refine Ev.bind hh.1 ?_;refine evT rfl (evF (by show ¬ (low < 56320); omega) (evF (by show ¬ (low > 57343); omega) (evC ?_)))
      have e : wrap64 (wrap64 (wrap64 (65536 + wrap64 (wrap64 (n - 55296) * 1024)) + low) - 56320) = 0x10000 + (n - 0xD800) * 1024 + low - 0xDC00 := by
       have := hh.2;rw [w64 (z := n - 55296) (by omega) (by omega), w64 (z := (n - 55296) * 1024) (by omega) (by omega), w64 (z := 65536 + (n - 55296) * 1024) (by omega) (by omega), w64 (z := 65536 + (n - 55296) * 1024 + low) (by omega) (by omega), w64 (by omega) (by omega)]
      exact congrArg some (Prod.ext e rfl)
   ·cases h
 ·cases h
theorem second_none (hb : Bs b) {q : Nat} {n from_ : Int} (h : sec b n q = none) : ∃ u a e B', e ≠ 0 ∧ Ev (fun k => RRq_second.f k b q d 0 B from_ n) (u, a, d, e, B') := by
 have hl := hb.2;unfold RRq_second.f;unfold sec at h;by_cases hx : Js.next b q 92 = true
 ·rw [if_pos hx] at h
  have hx' : b[q]? = some 92 := by simpa [Js.next] using hx
  have := lt_of hx'
  have go : ∀ {r}, Ev (fun k => (RRq_peek.f b ((q + 1 : Nat) : Int) d 0 B).bind fun t => if t.2.2.2.1 = 0 then RRq_second.j0 k from_ n (t.1 != 117) b t.2.1 t.2.2.1 t.2.2.2.1 t.2.2.2.2 else RRq_second.j0 k from_ n false b t.2.1 t.2.2.1 t.2.2.2.1 t.2.2.2.2) r → Ev (fun k => (RRq_see.f b q d 0 B).bind fun t => if t.1 = 92 then (RRq_peek.f b (wrap64 (t.2.1 + 1)) t.2.2.1 t.2.2.2.1 t.2.2.2.2).bind fun t => if t.2.2.2.1 = 0 then RRq_second.j0 k from_ n (t.1 != 117) b t.2.1 t.2.2.1 t.2.2.2.1 t.2.2.2.2 else RRq_second.j0 k from_ n false b t.2.1 t.2.2.1 t.2.2.2.1 t.2.2.2.2 else (RRq_fail.f b t.2.1 t.2.2.1 t.2.2.2.1 t.2.2.2.2 6 from_).bind fun u => some (0, u.1, u.2.1, u.2.2.1, u.2.2.2)) r := by
   intro r hr;refine evB (see_ok hb hx') ?_;refine evT rfl ?_
   show Ev (fun k => (RRq_peek.f b (wrap64 ((q : Int) + 1)) d 0 B).bind _) _
   rw [w64n (by omega)];exact hr
  cases hy : b[q + 1]? with
  | none =>
   refine ⟨0, ((q + 1 : Nat) : Int), 11, (b.length : Int), n11, go (evB (peek_end hy) ?_)⟩;refine Ev.step (f := fun k => RRq_second.j1 k from_ n b ((q + 1 : Nat) : Int) d 11 (b.length : Int)) (fun k => rfl) ?_;exact Ev.step (f := fun k => some (0, ((q + 1 : Nat) : Int), d, 11, (b.length : Int))) (fun k => rfl) (Ev.now _)
  | some c =>
   rw [hy] at h;simp only at h;have := lt_of hy;by_cases hc : c = 117
   ·subst hc
    rw [if_pos (by simp)] at h;have hh := hex_ends (d := d) (B := B) hb (p := q + 2) (by omega)
    have go2 : ∀ {r}, Ev (fun k => (RRq_hex.f k b ((q + 1 + 1 : Nat) : Int) d 0 B).bind fun t => (if t.2.2.2.1 = 0 then (if t.1 < 56320 then ((RRq_fail.f b t.2.1 t.2.2.1 t.2.2.2.1 t.2.2.2.2 6 from_).bind fun u => (some (wrap64 ((wrap64 ((wrap64 (65536 + (wrap64 ((wrap64 (n - 55296)) * 1024)))) + t.1)) - 56320), u.1, u.2.1, u.2.2.1, u.2.2.2))) else (if t.1 > 57343 then ((RRq_fail.f b t.2.1 t.2.2.1 t.2.2.2.1 t.2.2.2.2 6 from_).bind fun u => (some (wrap64 ((wrap64 ((wrap64 (65536 + (wrap64 ((wrap64 (n - 55296)) * 1024)))) + t.1)) - 56320), u.1, u.2.1, u.2.2.1, u.2.2.2))) else (some (wrap64 ((wrap64 ((wrap64 (65536 + (wrap64 ((wrap64 (n - 55296)) * 1024)))) + t.1)) - 56320), t.2.1, t.2.2.1, t.2.2.2.1, t.2.2.2.2)))) else (some (wrap64 ((wrap64 ((wrap64 (65536 + (wrap64 ((wrap64 (n - 55296)) * 1024)))) + t.1)) - 56320), t.2.1, t.2.2.1, t.2.2.2.1, t.2.2.2.2)))) r → Ev (fun k => (RRq_peek.f b ((q + 1 : Nat) : Int) d 0 B).bind fun t => if t.2.2.2.1 = 0 then RRq_second.j0 k from_ n (t.1 != 117) b t.2.1 t.2.2.1 t.2.2.2.1 t.2.2.2.2 else RRq_second.j0 k from_ n false b t.2.1 t.2.2.1 t.2.2.2.1 t.2.2.2.2) r := by
     intro r hr;refine evB (peek_ok hb hy) ?_;refine evT rfl ?_;refine Ev.step (f := fun k => RRq_second.j1 k from_ n b ((q + 1 : Nat) : Int) d 0 B) (fun k => rfl) ?_;exact second_1 (by omega) hr
    cases ho : Js.hex b (q + 2) with
    | no x e =>
     rw [ho] at hh;obtain ⟨a, e, B', he, hh⟩ := hh;exact ⟨_, a, e, B', he, go (go2 (Ev.bind hh (evF he (Ev.now _))))⟩
    | ok low q2 =>
     rw [ho] at h hh;simp only at h hh
     have hlo : low < 0xDC00 ∨ low > 0xDFFF := by
      by_cases hz : low < 0xDC00 ∨ low > 0xDFFF
      ·exact hz
      ·rw [if_neg hz] at h; cases h
     refine ⟨wrap64 ((wrap64 ((wrap64 (65536 + (wrap64 ((wrap64 (n - 55296)) * 1024)))) + low)) - 56320), (q2 : Int), 6, from_, n6, go (go2 (Ev.bind hh.1 (evT rfl ?_)))⟩;by_cases hz : low < 56320
     ·exact evT hz (evB (fail_0 _ _ _) (Ev.now _))
     ·exact evF hz (evT (by show low > 57343; omega) (evB (fail_0 _ _ _) (Ev.now _)))
   ·refine ⟨0, ((q + 1 : Nat) : Int), 6, from_, n6, go (evB (peek_ok hb hy) (evT rfl ?_))⟩
    show Ev (fun k => RRq_second.j0 k from_ n (c != 117) b ((q + 1 : Nat) : Int) d 0 B) _
    rw [show (c != 117) = true by simpa using hc];refine Ev.step (f := fun k => (RRq_fail.f b ((q + 1 : Nat) : Int) d 0 B 6 from_).bind fun t => RRq_second.j1 k from_ n b t.1 t.2.1 t.2.2.1 t.2.2.2) (fun k => rfl) ?_;refine evB (fail_0 _ _ _) ?_;exact Ev.step (f := fun k => some (0, ((q + 1 : Nat) : Int), d, 6, from_)) (fun k => rfl) (Ev.now _)
 ·refine ⟨0, (q : Int), 6, from_, n6, ?_⟩
  cases hy : b[q]? with
  | none => exact evB (see_end hy) (evF (by show ¬ ((-1 : Int) = 92); decide) (evB (fail_0 _ _ _) (Ev.now _)))
  | some c => exact evB (see_ok hb hy) (evF (by show ¬ (c = 92); intro e; exact hx (by simp [Js.next, hy, e])) (evB (fail_0 _ _ _) (Ev.now _)))
theorem esc_2 (from_ v : Int) (q : Nat) : (match Js.encode v with
  | some l => Ev (fun k => RRq_escape.j2 k from_ v b q d 0 B) (l, (q : Int), d, 0, B)
  | none => ∃ a e B', e ≠ 0 ∧ Ev (fun k => RRq_escape.j2 k from_ v b q d 0 B) ([], a, d, e, B')) := by
 have go : ∀ {r}, Ev (fun k => (R3q_Encode.f k v).bind fun t => if t.2 = 0 then some (t.1, (q : Int), d, 0, B) else (RRq_fail.f b q d 0 B 6 from_).bind fun u => some (t.1, u.1, u.2.1, u.2.2.1, u.2.2.2)) r → Ev (fun k => RRq_escape.j2 k from_ v b q d 0 B) r := by
  intro r hr;refine Ev.step (fun k => ?_) hr;rw [RRq_escape.j2, if_pos rfl]
 cases h : Js.encode v with
 | some l => exact go (Ev.bind (enc_ok h) (evT rfl (Ev.now _)))
 | none => exact ⟨(q : Int), 6, from_, n6, go (Ev.bind (enc_no h) (evF n10 (evB (fail_0 _ _ _) (Ev.now _))))⟩
theorem esc_2bad {from_ v a e : Int} (he : e ≠ 0) : Ev (fun k => RRq_escape.j2 k from_ v b a d e B) ([], a, d, e, B) := by
 refine Ev.step (fun k => rfl) (evF he (Ev.now _))
def unio (b : List Int) (p : Nat) : Option (List Int × Nat) := match Js.hex b p with
 | .no _ _ => none
 | .ok n q => (uni b n q).bind fun v => (Js.encode v.1).map fun l => (l, v.2)
theorem unio_eq (b : List Int) (p : Nat) : unio b p = (match Js.unit b p with
  | .ok l q => some (l, q)
  | .no _ _ => none) := by
 unfold unio Js.unit
 cases Js.hex b p with
 | no x e => rfl
 | ok n q =>
  simp only [uni];by_cases h1 : 0xD800 ≤ n ∧ n ≤ 0xDBFF
  ·rw [if_pos h1, if_pos h1]
   unfold sec;by_cases h2 : Js.next b q 92 = true
   ·rw [if_pos h2, if_pos h2]
    cases b[q + 1]? with
    | none => rfl
    | some c =>
     simp only;by_cases h3 : (c == 117) = true
     ·rw [if_pos h3, if_pos h3]
      cases Js.hex b (q + 2) with
      | no x e => rfl
      | ok low q2 =>
       simp only;by_cases h4 : low < 0xDC00 ∨ low > 0xDFFF
       ·rw [if_pos h4, if_pos h4]; rfl
       ·rw [if_neg h4, if_neg h4]
        simp only [Option.bind_some]
        cases Js.encode (0x10000 + (n - 0xD800) * 1024 + low - 0xDC00) <;> rfl
     ·rw [if_neg h3, if_neg h3]; rfl
   ·rw [if_neg h2, if_neg h2]; rfl
  ·rw [if_neg h1, if_neg h1]
   simp only [Option.bind_some]
   cases Js.encode n <;> rfl
theorem esc_u (hb : Bs b) (from_ : Int) (hp : p ≤ b.length) : (match unio b p with
  | some (l, q) => Ev (fun k => (RRq_hex.f k b p d 0 B).bind fun t => if t.2.2.2.1 = 0 then (if t.1 ≥ 55296 then RRq_escape.j1 k from_ t.1 (decide (t.1 ≤ 56319)) b t.2.1 t.2.2.1 t.2.2.2.1 t.2.2.2.2 else RRq_escape.j1 k from_ t.1 false b t.2.1 t.2.2.1 t.2.2.2.1 t.2.2.2.2) else RRq_escape.j1 k from_ t.1 false b t.2.1 t.2.2.1 t.2.2.2.1 t.2.2.2.2) (l, (q : Int), d, 0, B)
  | none => ∃ a e B', e ≠ 0 ∧ Ev (fun k => (RRq_hex.f k b p d 0 B).bind fun t => if t.2.2.2.1 = 0 then (if t.1 ≥ 55296 then RRq_escape.j1 k from_ t.1 (decide (t.1 ≤ 56319)) b t.2.1 t.2.2.1 t.2.2.2.1 t.2.2.2.2 else RRq_escape.j1 k from_ t.1 false b t.2.1 t.2.2.1 t.2.2.2.1 t.2.2.2.2) else RRq_escape.j1 k from_ t.1 false b t.2.1 t.2.2.1 t.2.2.2.1 t.2.2.2.2) ([], a, d, e, B')) := by
 have hh := hex_ends (d := d) (B := B) hb hp;unfold unio
 cases ho : Js.hex b p with
 | no x e =>
  rw [ho] at hh;obtain ⟨a, e, B', he, hh⟩ := hh;exact ⟨a, e, B', he, Ev.bind hh (evF he (Ev.step (f := fun k => RRq_escape.j2 k from_ 0 b a d e B') (fun k => rfl) (esc_2bad he)))⟩
 | ok n q =>
  rw [ho] at hh;simp only at hh ⊢
  have low : ∀ {r}, ¬ (0xD800 ≤ n ∧ n ≤ 0xDBFF) → Ev (fun k => RRq_escape.j2 k from_ n b q d 0 B) r → Ev (fun k => if n ≥ 55296 then RRq_escape.j1 k from_ n (decide (n ≤ 56319)) b q d 0 B else RRq_escape.j1 k from_ n false b q d 0 B) r := by
   intro r hn hr;have h1 : Ev (fun k => RRq_escape.j1 k from_ n false b q d 0 B) r := Ev.step (f := fun k => RRq_escape.j2 k from_ n b q d 0 B) (fun k => rfl) hr;by_cases h : n ≥ 55296
   ·refine evT h ?_
    rw [decide_eq_false (by omega : ¬ n ≤ 56319)];exact h1
   ·exact evF h h1
  have high : ∀ {r}, (0xD800 ≤ n ∧ n ≤ 0xDBFF) → Ev (fun k => (RRq_second.f k b q d 0 B from_ n).bind fun t => RRq_escape.j2 k from_ t.1 b t.2.1 t.2.2.1 t.2.2.2.1 t.2.2.2.2) r → Ev (fun k => if n ≥ 55296 then RRq_escape.j1 k from_ n (decide (n ≤ 56319)) b q d 0 B else RRq_escape.j1 k from_ n false b q d 0 B) r := by
   intro r hn hr;refine evT hn.1 ?_;rw [decide_eq_true hn.2];exact Ev.step (fun k => rfl) hr
  unfold uni;by_cases hn : 0xD800 ≤ n ∧ n ≤ 0xDBFF
  ·rw [if_pos hn]
   cases hs : sec b n q with
   | none =>
    obtain ⟨u, a, e, B', he, h2⟩ := second_none (d := d) (B := B) (from_ := from_) hb hs;exact ⟨a, e, B', he, Ev.bind hh.1 (evT rfl (high hn (Ev.bind h2 (esc_2bad he))))⟩
   | some vq =>
    obtain ⟨v, q'⟩ := vq;have h2 := second_some (d := d) (B := B) (from_ := from_) hb hn hs;have h3 := esc_2 (b := b) (d := d) (B := B) from_ v q';simp only [Option.bind_some]
    cases he : Js.encode v with
    | none => rw [he] at h3; obtain ⟨a, e, B', hee, h3⟩ := h3; exact ⟨a, e, B', hee, Ev.bind hh.1 (evT rfl (high hn (Ev.bind h2 h3)))⟩
    | some l => rw [he] at h3; exact Ev.bind hh.1 (evT rfl (high hn (Ev.bind h2 h3)))
  ·rw [if_neg hn]
   have h3 := esc_2 (b := b) (d := d) (B := B) from_ n q;simp only [Option.bind_some]
   cases he : Js.encode n with
   | none => rw [he] at h3; obtain ⟨a, e, B', hee, h3⟩ := h3; exact ⟨a, e, B', hee, Ev.bind hh.1 (evT rfl (low hn h3))⟩
   | some l => rw [he] at h3; exact Ev.bind hh.1 (evT rfl (low hn h3))
end Go.Proofs.YteighppcdpaekaaDoor.Rf
end
section
namespace Go.Proofs.YteighppcdpaekaaDoor.Rf
open Go.RowKit Go.Proofs.YteighppcdpaekaaDoorW.PrintWords Go.Proofs.YteighppcdpaekaaDoor Go.Proofs.YteighppcdpaekaaDoor.P
variable {b : List Int} {p : Nat} {d B : Int}
def NM : ByteArray := ⟨#[34, 92, 47, 98, 102, 110, 114, 116]⟩
def NL : List Int := [34, 92, 47, 98, 102, 110, 114, 116]
def VL : List Int := [34, 92, 47, 8, 12, 10, 13, 9]
theorem NM_at : ∀ i : Nat, (h : i < 8) → bt NM (i : Int) = NL[i]'h := by decide
theorem VL_at : ∀ i : Nat, (h : i < 8) → rd VL (i : Int) = VL[i]'h := by decide
theorem NL_byte : ∀ i : Nat, (h : i < 8) → 0 ≤ NL[i]'h ∧ NL[i]'h ≤ 255 := by decide
def escTail (b : List Int) (from_ c a d B : Int) (k : Nat) : Option (List Int × Int × Int × Int × Int) :=
 if c = 117 then ((RRq_hex.f k b (wrap64 (a + 1)) d 0 B).bind fun t => if t.2.2.2.1 = 0 then (if t.1 ≥ 55296 then RRq_escape.j1 k from_ t.1 (decide (t.1 ≤ 56319)) b t.2.1 t.2.2.1 t.2.2.2.1 t.2.2.2.2 else RRq_escape.j1 k from_ t.1 false b t.2.1 t.2.2.1 t.2.2.2.1 t.2.2.2.2) else RRq_escape.j1 k from_ t.1 false b t.2.1 t.2.2.1 t.2.2.2.1 t.2.2.2.2) else ((RRq_fail.f b a d 0 B 6 a).bind fun u => some (([] : List Int), u.1, u.2.1, u.2.2.1, u.2.2.2))
theorem esc_loop (from_ c a : Int) : ∀ (j i : Nat), i + j = 8 → (∀ i' : Nat, (h : i' < 8) → i' < i → c ≠ NL[i']'h) →
  (∀ i' : Nat, (h : i' < 8) → i ≤ i' → c = NL[i']'h → Ev (fun k => RRq_escape.l0 k from_ c NM VL i b a d 0 B) ([VL[i']'h], wrap64 (a + 1), d, 0, B)) ∧
  ((∀ i' : Nat, (h : i' < 8) → c ≠ NL[i']'h) → ∀ r, Ev (escTail b from_ c a d B) r → Ev (fun k => RRq_escape.l0 k from_ c NM VL i b a d 0 B) r)
 | 0, i, h, _ => by
  obtain rfl : i = 8 := by omega
  refine ⟨fun i' h' h2 => absurd h2 (by omega), fun _ r hr => ?_⟩;exact Ev.step (f := escTail b from_ c a d B) (fun k => rfl) hr
 | j + 1, i, h, hne => by
  have hi : i < 8 := by omega
  have step : ∀ r, (c = NL[i]'hi → r = ([VL[i]'hi], wrap64 (a + 1), d, 0, B)) → (c ≠ NL[i]'hi → Ev (fun k => RRq_escape.l0 k from_ c NM VL ((i + 1 : Nat) : Int) b a d 0 B) r) → Ev (fun k => RRq_escape.l0 k from_ c NM VL i b a d 0 B) r := by
   intro r h1 h2;refine Ev.step (fun k => rfl) (evT (by show (i : Int) < 8; omega) (evT (by omega) ?_));rw [NM_at i hi, w64 (by have := NL_byte i hi; omega) (by have := NL_byte i hi; omega)];by_cases hc : c = NL[i]'hi
   ·refine evT hc (evT (by show (i : Int) < 8; omega) ?_)
    rw [VL_at i hi, h1 hc];exact Ev.now _
   ·refine evF hc ?_
    rw [w64n (by omega)];exact h2 hc
  have ih : c ≠ NL[i]'hi → _ := fun hc => esc_loop from_ c a j (i + 1) (by omega) (fun i' h' h2 => by
   by_cases e : i' = i
   ·subst e; exact hc
   ·exact hne i' h' (by omega))
  refine ⟨fun i' h' h2 h3 => ?_, fun hall r hr => step r (fun e => absurd e (hall i hi)) (fun hc => (ih hc).2 hall r hr)⟩;by_cases e : i' = i
  ·subst e; exact step _ (fun _ => rfl) (fun hc => absurd h3 hc)
  ·have hc : c ≠ NL[i]'hi := by
    intro hc;rw [h3] at hc
    revert hc
    have : ∀ x : Nat, (hx : x < 8) → ∀ y : Nat, (hy : y < 8) → x ≠ y → NL[x]'hx ≠ NL[y]'hy := by decide
    exact this i' h' i hi e
   exact step _ (fun e2 => absurd e2 hc) (fun _ => (ih hc).1 i' h' (by omega) h3)
theorem escape_ends (hb : Bs b) (hp : p < b.length) : (match Js.escape b (p + 1) with
  | .ok l q => Ev (fun k => RRq_escape.f k b p d 0 B) (l, (q : Int), d, 0, B)
  | .no _ _ => ∃ a e B', e ≠ 0 ∧ Ev (fun k => RRq_escape.f k b p d 0 B) ([], a, d, e, B')) := by
 have hl := hb.2;unfold RRq_escape.f Js.escape;rw [w64n (by omega)]
 cases hn : b[p + 1]? with
 | none => exact ⟨((p + 1 : Nat) : Int), 11, (b.length : Int), n11, evB (peek_end hn) (evF n11 (Ev.now _))⟩
 | some c =>
  have hlt := lt_of hn;have hL := esc_loop (b := b) (d := d) (B := B) (p : Int) c ((p + 1 : Nat) : Int) 8 0 rfl (fun _ _ h => absurd h (by omega))
  have go : ∀ {r}, Ev (fun k => RRq_escape.l0 k (p : Int) c NM VL ((0 : Nat) : Int) b ((p + 1 : Nat) : Int) d 0 B) r → Ev (fun k => (RRq_peek.f b ((p + 1 : Nat) : Int) d 0 B).bind fun t => if t.2.2.2.1 = 0 then RRq_escape.l0 k (p : Int) t.1 (⟨#[34, 92, 47, 98, 102, 110, 114, 116]⟩ : ByteArray) ([34, 92, 47, 8, 12, 10, 13, 9] : List Int) 0 b t.2.1 t.2.2.1 t.2.2.2.1 t.2.2.2.2 else some (([] : List Int), t.2.1, t.2.2.1, t.2.2.2.1, t.2.2.2.2)) r := fun hr => evB (peek_ok hb hn) (evT rfl hr)
  have hit : ∀ (i : Nat) (h : i < 8), c = NL[i]'h → Ev (fun k => (RRq_peek.f b ((p + 1 : Nat) : Int) d 0 B).bind fun t => if t.2.2.2.1 = 0 then RRq_escape.l0 k (p : Int) t.1 (⟨#[34, 92, 47, 98, 102, 110, 114, 116]⟩ : ByteArray) ([34, 92, 47, 8, 12, 10, 13, 9] : List Int) 0 b t.2.1 t.2.2.1 t.2.2.2.1 t.2.2.2.2 else some (([] : List Int), t.2.1, t.2.2.1, t.2.2.2.1, t.2.2.2.2)) ([VL[i]'h], ((p + 1 + 1 : Nat) : Int), d, 0, B) := fun i h e => by
   have := hL.1 i h (by omega) e;rw [w64n (by omega)] at this;exact go this
  simp only;by_cases h1 : (c == 34 || c == 92 || c == 47) = true
  ·rw [if_pos h1]
   have h1' : c = 34 ∨ c = 92 ∨ c = 47 := by simpa [or_assoc] using h1
   rcases h1' with rfl | rfl | rfl
   ·exact hit 0 (by decide) rfl
   ·exact hit 1 (by decide) rfl
   ·exact hit 2 (by decide) rfl
  rw [if_neg h1];by_cases h2 : (c == 98) = true
  ·rw [if_pos h2]; exact hit 3 (by decide) (eq_of_beq h2)
  rw [if_neg h2];by_cases h3 : (c == 102) = true
  ·rw [if_pos h3]; exact hit 4 (by decide) (eq_of_beq h3)
  rw [if_neg h3];by_cases h4 : (c == 110) = true
  ·rw [if_pos h4]; exact hit 5 (by decide) (eq_of_beq h4)
  rw [if_neg h4];by_cases h5 : (c == 114) = true
  ·rw [if_pos h5]; exact hit 6 (by decide) (eq_of_beq h5)
  rw [if_neg h5];by_cases h6 : (c == 116) = true
  ·rw [if_pos h6]; exact hit 7 (by decide) (eq_of_beq h6)
  rw [if_neg h6]
  have hall : ∀ i' : Nat, (h : i' < 8) → c ≠ NL[i']'h := by
   have h1' : c ≠ 34 ∧ c ≠ 92 ∧ c ≠ 47 := by simpa [and_assoc] using h1
   have h2' : c ≠ 98 := by simpa using h2
   have h3' : c ≠ 102 := by simpa using h3
   have h4' : c ≠ 110 := by simpa using h4
   have h5' : c ≠ 114 := by simpa using h5
   have h6' : c ≠ 116 := by simpa using h6
   intro i h
   have : i = 0 ∨ i = 1 ∨ i = 2 ∨ i = 3 ∨ i = 4 ∨ i = 5 ∨ i = 6 ∨ i = 7 := by omega
   rcases this with rfl | rfl | rfl | rfl | rfl | rfl | rfl | rfl
   ·exact h1'.1
   ·exact h1'.2.1
   ·exact h1'.2.2
   ·exact h2'
   ·exact h3'
   ·exact h4'
   ·exact h5'
   ·exact h6'
  by_cases h7 : (c == 117) = true
  ·rw [if_pos h7]
   obtain rfl : c = 117 := by simpa using h7
   have hu := esc_u (d := d) (B := B) hb (p : Int) (p := p + 1 + 1) (by omega)
   have tail : ∀ {r}, Ev (fun k => (RRq_hex.f k b ((p + 1 + 1 : Nat) : Int) d 0 B).bind fun t => if t.2.2.2.1 = 0 then (if t.1 ≥ 55296 then RRq_escape.j1 k (p : Int) t.1 (decide (t.1 ≤ 56319)) b t.2.1 t.2.2.1 t.2.2.2.1 t.2.2.2.2 else RRq_escape.j1 k (p : Int) t.1 false b t.2.1 t.2.2.1 t.2.2.2.1 t.2.2.2.2) else RRq_escape.j1 k (p : Int) t.1 false b t.2.1 t.2.2.1 t.2.2.2.1 t.2.2.2.2) r → Ev (escTail b (p : Int) 117 ((p + 1 : Nat) : Int) d B) r := by
    intro r hr;unfold escTail;refine evT rfl ?_;rw [w64n (by omega)];exact hr
   rw [unio_eq] at hu
   cases ho : Js.unit b (p + 1 + 1) with
   | ok l q => rw [ho] at hu; exact go (hL.2 hall _ (tail hu))
   | no x e => rw [ho] at hu; obtain ⟨a, e, B', he, hu⟩ := hu; exact ⟨a, e, B', he, go (hL.2 hall _ (tail hu))⟩
  ·rw [if_neg h7]
   have h7' : c ≠ 117 := by simpa using h7
   refine ⟨((p + 1 : Nat) : Int), 6, ((p + 1 : Nat) : Int), n6, go (hL.2 hall _ ?_)⟩;unfold escTail;exact evF h7' (evB (fail_0 _ _ _) (Ev.now _))
theorem text_bad (out : List Int) {a e : Int} (he : e ≠ 0) : Ev (fun k => RRq_text.l0 k out b a d e B) ((⟨#[]⟩ : ByteArray), a, d, e, B) := by
 exact Ev.step (fun k => rfl) (evF he (Ev.now _))
theorem text_loop (hb : Bs b) : ∀ (j : Nat) (out : List Int) (p : Nat) (o : Js.Out (List Int)), p ≤ b.length → out.length ≤ p → (∀ x ∈ out, 0 ≤ x ∧ x ≤ 255) → Js.textTo b j out p = some o →
  (match o with
   | .ok l q => Ev (fun k => RRq_text.l0 k out b p d 0 B) (strOfNums l, (q : Int), d, 0, B)
   | .no _ _ => ∃ u a e B', e ≠ 0 ∧ Ev (fun k => RRq_text.l0 k out b p d 0 B) (u, a, d, e, B'))
 | 0, out, p, o, _, _, _, h => by simp [Js.textTo] at h
 | j + 1, out, p, o, hp, ho, hob, h => by
  have hl := hb.2;simp only [Js.textTo] at h
  have go : ∀ {t r}, RRq_peek.f b p d 0 B = some t → Ev (fun k => (if t.2.2.2.1 = 0 then (if t.1 = 34 then (some (strOfNums out, wrap64 (t.2.1 + 1), t.2.2.1, t.2.2.2.1, t.2.2.2.2)) else (if t.1 < 32 then ((RRq_fail.f b t.2.1 t.2.2.1 t.2.2.2.1 t.2.2.2.2 6 t.2.1).bind fun u => (RRq_text.l0 k out b u.1 u.2.1 u.2.2.1 u.2.2.2)) else (if t.1 = 92 then ((RRq_escape.f k b t.2.1 t.2.2.1 t.2.2.2.1 t.2.2.2.2).bind fun u => (if out.length + u.1.length < 140737488355328 then (RRq_text.l0 k (out ++ u.1) b u.2.1 u.2.2.1 u.2.2.2.1 u.2.2.2.2) else (none))) else (if out.length < 140737488355328 then (RRq_text.l0 k (out ++ [(t.1) % 256]) b (wrap64 (t.2.1 + 1)) t.2.2.1 t.2.2.2.1 t.2.2.2.2) else (none))))) else (some ((⟨#[]⟩ : ByteArray), t.2.1, t.2.2.1, t.2.2.2.1, t.2.2.2.2)))) r → Ev (fun k => RRq_text.l0 k out b p d 0 B) r := by
   intro t r ht hr;exact Ev.step (fun k => rfl) (evT rfl (evB ht hr))
  cases hn : b[p]? with
  | none =>
   rw [hn] at h;obtain rfl : Js.Out.no p 11 = o := Option.some.inj h;exact ⟨_, (p : Int), 11, (b.length : Int), n11, go (peek_end hn) (evF n11 (Ev.now _))⟩
  | some c =>
   rw [hn] at h;simp only at h;have hlt := lt_of hn;have hc := byte_of hb hn;by_cases h1 : (c == 34) = true
   ·rw [if_pos h1] at h
    obtain rfl := Option.some.inj h;refine go (peek_ok hb hn) (evT rfl (evT (eq_of_beq h1) (evC ?_)))
    show some (strOfNums out, wrap64 ((p : Int) + 1), d, (0 : Int), B) = _
    rw [w64n (by omega)]
   rw [if_neg h1] at h
   have h1' : c ≠ 34 := by simpa using h1
   by_cases h2 : (c == 92) = true
   ·rw [if_pos h2] at h
    have h2' : c = 92 := eq_of_beq h2;have hE := escape_ends (d := d) (B := B) hb hlt
    cases hx : Js.escape b (p + 1) with
    | no x e =>
     rw [hx] at h hE;obtain rfl := Option.some.inj h;obtain ⟨a, e, B', he, hE⟩ := hE;exact ⟨_, a, e, B', he, go (peek_ok hb hn) (evT rfl (evF h1' (evF (by show ¬ (c < 32); omega) (evT h2' (Ev.bind hE (evT (by show out.length + ([] : List Int).length < 140737488355328; simp; omega) (text_bad _ he)))))))⟩
    | ok l q =>
     rw [hx] at h hE;simp only at h hE;have hle := Js.escape_le hx;have hby := Js.escape_bytes hb.1 hx;have ih := text_loop hb j (out ++ l) q o hle.2 (by rw [List.length_append]; omega) (fun x hx2 => (List.mem_append.1 hx2).elim (hob x) (hby.1 x)) h
     have fin : ∀ {r}, Ev (fun k => RRq_text.l0 k (out ++ l) b q d 0 B) r → Ev (fun k => RRq_text.l0 k out b p d 0 B) r := by
      intro r hr;exact go (peek_ok hb hn) (evT rfl (evF h1' (evF (by show ¬ (c < 32); omega) (evT h2' (Ev.bind hE (evT (by show out.length + l.length < 140737488355328; omega) hr))))))
     cases o with
     | ok l2 q2 => exact fin ih
     | no x e => obtain ⟨u, a, e, B', he, ih⟩ := ih; exact ⟨u, a, e, B', he, fin ih⟩
   rw [if_neg h2] at h
   have h2' : c ≠ 92 := by simpa using h2
   by_cases h3 : c < 32
   ·rw [if_pos h3] at h
    obtain rfl := Option.some.inj h;exact ⟨_, (p : Int), 6, (p : Int), n6, go (peek_ok hb hn) (evT rfl (evF h1' (evT h3 (evB (fail_0 _ _ _) (text_bad _ n6)))))⟩
   rw [if_neg h3] at h;have ih := text_loop hb j (out ++ [c]) (p + 1) o (by omega) (by rw [List.length_append]; simp; omega) (fun x hx2 => (List.mem_append.1 hx2).elim (hob x) (fun h => by simp at h; rw [h]; exact hc)) h
   have fin : ∀ {r}, Ev (fun k => RRq_text.l0 k (out ++ [c]) b ((p + 1 : Nat) : Int) d 0 B) r → Ev (fun k => RRq_text.l0 k out b p d 0 B) r := by
    intro r hr;refine go (peek_ok hb hn) (evT rfl (evF h1' (evF h3 (evF h2' (evT (by omega) ?_)))))
    show Ev (fun k => RRq_text.l0 k (out ++ [c % 256]) b (wrap64 ((p : Int) + 1)) d 0 B) r
    rw [w64n (by omega), Int.emod_eq_of_lt hc.1 (by omega)];exact hr
   cases o with
   | ok l2 q2 => exact fin ih
   | no x e => obtain ⟨u, a, e, B', he, ih⟩ := ih; exact ⟨u, a, e, B', he, fin ih⟩
theorem text_ends (hb : Bs b) {j : Nat} {o : Js.Out (List Int)} (h : Js.text b j p = some o) : (match o with
      | .ok l q => Ev (fun k => RRq_text.f k b p d 0 B) (strOfNums l, (q : Int), d, 0, B)
      | .no _ _ => ∃ u a e B', e ≠ 0 ∧ Ev (fun k => RRq_text.f k b p d 0 B) (u, a, d, e, B')) := by
  unfold RRq_text.f;unfold Js.text at h
  cases hn : b[p]? with
  | none =>
    rw [hn] at h;obtain rfl : Js.Out.no p 11 = o := Option.some.inj h;exact ⟨_, _, _, _, n11, Ev.bind (must_end hn) (text_bad _ n11)⟩
  | some c =>
    rw [hn] at h;simp only at h;have hlt := lt_of hn;by_cases hc : (c == 34) = true
    · rw [if_pos hc] at h
      obtain rfl : c = 34 := eq_of_beq hc;have ih := text_loop (d := d) (B := B) hb j [] (p + 1) o (by omega) (by simp) (fun x hx => by cases hx) h
      cases o with
      | ok l q => exact Ev.bind (must_ok hb hn) ih
      | no x e => obtain ⟨u, a, e, B', he, ih⟩ := ih; exact ⟨u, a, e, B', he, Ev.bind (must_ok hb hn) ih⟩
    · rw [if_neg hc] at h
      obtain rfl := Option.some.inj h;exact ⟨_, _, _, _, n6, Ev.bind (must_no hb hn (by simpa using hc)) (text_bad _ n6)⟩
theorem enter_deep {cl a : Int} (hd : ¬ d + 1 ≤ 64) (h0 : d ≤ 1000) : RRq_enter.f 0 b a d 0 B cl = some (true, a, d + 1, 13, a) ∧ ∀ k, RRq_enter.f k b a d 0 B cl = some (true, a, d + 1, 13, a) := by
 have : ∀ k, RRq_enter.f k b a d 0 B cl = some (true, a, d + 1, 13, a) := by
  intro k;unfold RRq_enter.f;rw [w64 (z := d + 1) (by omega) (by omega), if_pos (by omega), fail_0]
  rfl
 exact ⟨this 0, this⟩
theorem enter_ends (hb : Bs b) (hp : p < b.length) {cl : Int} (h0 : 0 ≤ d) (hd : d + 1 ≤ 64) : (match b[Js.blank b (p + 1)]? with
  | none => ∃ a e B', e ≠ 0 ∧ Ev (fun k => RRq_enter.f k b p d 0 B cl) (true, a, d + 1, e, B')
  | some c => if c = cl then Ev (fun k => RRq_enter.f k b p d 0 B cl) (true, ((Js.blank b (p + 1) + 1 : Nat) : Int), d, 0, B)
    else Ev (fun k => RRq_enter.f k b p d 0 B cl) (false, ((Js.blank b (p + 1) : Nat) : Int), d + 1, 0, B)) := by
 have hl := hb.2;have hbl := Js.blank_le (b := b) (p := p + 1) (by omega)
 have go : ∀ {t r}, RRq_peek.f b ((Js.blank b (p + 1) : Nat) : Int) (d + 1) 0 B = some t → Ev (fun _ => if t.2.2.2.1 = 0 then (if t.1 = cl then some (true, wrap64 (t.2.1 + 1), wrap64 (t.2.2.1 - 1), t.2.2.2.1, t.2.2.2.2) else some (false, t.2.1, t.2.2.1, t.2.2.2.1, t.2.2.2.2)) else some (true, t.2.1, t.2.2.1, t.2.2.2.1, t.2.2.2.2)) r → Ev (fun k => RRq_enter.f k b p d 0 B cl) r := by
  intro t r ht hr;unfold RRq_enter.f;rw [w64 (z := d + 1) (by omega) (by omega), w64n (by omega)];refine evF (by omega) (Ev.bind (blank_ok hb (by omega)) ?_);exact evB ht hr
 cases hn : b[Js.blank b (p + 1)]? with
 | none => exact ⟨_, 11, _, n11, go (peek_end hn) (evF n11 (Ev.now _))⟩
 | some c =>
  have hlt := lt_of hn;simp only;by_cases hc : c = cl
  ·rw [if_pos hc]
   refine go (peek_ok hb hn) (evT rfl (evT hc (evC ?_)))
   show some (true, wrap64 (((Js.blank b (p + 1) : Nat) : Int) + 1), wrap64 (d + 1 - 1), (0 : Int), B) = _
   rw [w64n (by omega), w64 (by omega) (by omega), show d + 1 - 1 = d by omega]
  ·rw [if_neg hc]
   exact go (peek_ok hb hn) (evT rfl (evF hc (Ev.now _)))
theorem more_bad {cl a e : Int} (he : e ≠ 0) : Ev (fun k => RRq_more.f k b a d e B cl) (false, a, d, e, B) := by
 unfold RRq_more.f;exact Ev.bind (blank_bad he) (evB (peek_bad he) (evF he (Ev.now _)))
theorem more_ends (hb : Bs b) (hp : p ≤ b.length) {cl : Int} (h1 : 1 ≤ d) (hd : d ≤ 64) : (match Js.comma b cl p with
  | .ok t q => Ev (fun k => RRq_more.f k b p d 0 B cl) (t, (q : Int), (if t = true then d else d - 1), 0, B)
  | .no _ _ => ∃ a e B', e ≠ 0 ∧ Ev (fun k => RRq_more.f k b p d 0 B cl) (false, a, d, e, B')) := by
 have hl := hb.2;have hbl := Js.blank_le (b := b) (p := p) hp;unfold Js.comma;unfold RRq_more.f;simp only
 cases hn : b[Js.blank b p]? with
 | none => exact ⟨_, 11, _, n11, Ev.bind (blank_ok hb hp) (evB (peek_end hn) (evF n11 (Ev.now _)))⟩
 | some c =>
  have hlt := lt_of hn;simp only;by_cases hc : (c == cl) = true
  ·rw [if_pos hc]
   refine Ev.bind (blank_ok hb hp) (evB (peek_ok hb hn) (evT rfl (evT (eq_of_beq hc) (evC ?_))))
   show some (false, wrap64 (((Js.blank b p : Nat) : Int) + 1), wrap64 (d - 1), (0 : Int), B) = _
   rw [w64n (by omega), w64 (by omega) (by omega)]
   rfl
  ·rw [if_neg hc]
   have hc' : ¬ (c = cl) := by simpa using hc
   by_cases h2 : (c == 44) = true
   ·rw [if_pos h2]
    refine Ev.bind (blank_ok hb hp) (evB (peek_ok hb hn) (evT rfl (evF hc' (evT (eq_of_beq h2) ?_))))
    show Ev (fun k => (RRq_blank.f k b (wrap64 (((Js.blank b p : Nat) : Int) + 1)) d 0 B).bind fun t => some (true, t.1, t.2.1, t.2.2.1, t.2.2.2)) _
    rw [w64n (by omega)];exact Ev.bind (blank_ok hb (by omega)) (Ev.now _)
   ·rw [if_neg h2]
    exact ⟨_, 6, _, n6, Ev.bind (blank_ok hb hp) (evB (peek_ok hb hn) (evT rfl (evF hc' (evF (by simpa using h2) (evB (fail_0 _ _ _) (Ev.now _))))))⟩
end Go.Proofs.YteighppcdpaekaaDoor.Rf
end
section
namespace Go.Proofs.YteighppcdpaekaaDoor.Rf
open Go.RowKit Go.Proofs.YteighppcdpaekaaDoorW.PrintWords Go.Proofs.YteighppcdpaekaaDoor Go.Proofs.YteighppcdpaekaaDoor.P
abbrev NumOut := Int × ByteArray × List ByteArray × List S44 × Int × Int × Int × Int
def numE (b : List Int) (fr : Int) (a d e B : Int) : Option NumOut := if e != 0 then some (0, ⟨#[]⟩, [], [], a, d, e, B) else if 0 ≤ fr ∧ fr ≤ a ∧ a ≤ b.length then some (3, strOfNums ((b.take a.toNat).drop fr.toNat), [], [], a, d, e, B) else none
def numX (k : Nat) (b : List Int) (fr : Int) (a d e B : Int) : Option NumOut :=
 (RRq_see.f b a d e B).bind fun t => if (t.1 == 101 || t.1 == 69) = true then
   (RRq_see.f b (wrap64 (t.2.1 + 1)) t.2.2.1 t.2.2.2.1 t.2.2.2.2).bind fun u =>
    (RRq_digits.f k b (if (u.1 == 43 || u.1 == 45) = true then wrap64 (u.2.1 + 1) else u.2.1) u.2.2.1 u.2.2.2.1 u.2.2.2.2).bind fun v => numE b fr v.1 v.2.1 v.2.2.1 v.2.2.2
  else numE b fr t.2.1 t.2.2.1 t.2.2.2.1 t.2.2.2.2
def numD (k : Nat) (b : List Int) (fr : Int) (a d e B : Int) : Option NumOut :=
 (RRq_see.f b a d e B).bind fun t =>
  (if (t.1 == 46) = true then RRq_digits.f k b (wrap64 (t.2.1 + 1)) t.2.2.1 t.2.2.2.1 t.2.2.2.2 else some (t.2.1, t.2.2.1, t.2.2.2.1, t.2.2.2.2)).bind fun v => numX k b fr v.1 v.2.1 v.2.2.1 v.2.2.2
def numI (k : Nat) (b : List Int) (fr : Int) (a d e B : Int) : Option NumOut :=
 (RRq_peek.f b a d e B).bind fun t =>
  (if (t.1 == 48) = true then some (wrap64 (t.2.1 + 1), t.2.2.1, t.2.2.2.1, t.2.2.2.2) else RRq_digits.f k b t.2.1 t.2.2.1 t.2.2.2.1 t.2.2.2.2).bind fun v => numD k b fr v.1 v.2.1 v.2.2.1 v.2.2.2
def numF (k : Nat) (b : List Int) (a d e B : Int) : Option NumOut :=
 (RRq_see.f b a d e B).bind fun t => numI k b a (if (t.1 == 45) = true then wrap64 (t.2.1 + 1) else t.2.1) t.2.2.1 t.2.2.2.1 t.2.2.2.2
set_option maxRecDepth 100000 in
set_option maxHeartbeats 3200000 in
theorem number_calls (k g : Nat) (b : List Int) (a d e B : Int) (r : NumOut) (w0 w : World) (hI : IsS96 w0 w g b a d e B) (hB : Below w0.heap.size w0 w) (hlt : g < w.heap.size) (h : numF k b a d e B = some r) :
  Calls Tryd.prog 70 #[.pointer (some ⟨g, 0, none⟩)] w fun en w' => en = .returned (.agg #[.int .i64 r.1, .string r.2.1, .slice none 0 0, .slice none 0 0]) ∧ r.2.2.1 = [] ∧ r.2.2.2.1 = [] ∧ IsS96 w0 w' g b r.2.2.2.2.1 r.2.2.2.2.2.1 r.2.2.2.2.2.2.1 r.2.2.2.2.2.2.2 ∧ Below w0.heap.size w0 w' ∧ Kbt w w' g none := by
 have N0 := Sdq.mk (show NS w0 w g b (w.alloc Z44) a d e B from ⟨hI.alloc _, bal hB _, kal (Kbt.refl _ _ _) _, blk_new _ _, hlt⟩);have H := Sdq.mk h;clear hI hB h;obtain ⟨⟨c1, a1, d1, e1, B1⟩, hs, h⟩ := Option.bind_eq_some_iff.mp H.out;clear H;have H := Sdq.mk h;have hse := Sdq.mk hs;clear h hs;go_enter Tryd.func70, Tryd.ntmps70
 go_upto_region 1 with fail
 refine absP (fun W => NS w0 w g b W a d e B) N0.out ?_;clear N0;intro w1 N1';have N1 := Sdq.mk N1';clear N1';obtain ⟨A, c, x0, x1, x3, x4, x5, x6⟩ := N1.out.cells
 go_wp2_with fail
 refine (RRq_see.calls g b a d e B c1 a1 d1 e1 B1 w0 _ N1.out.i N1.out.bl hse.out).mono ?_;rintro en w2 ⟨rfl, hi, hb, hk⟩;have N2 := Sdq.mk (N1.out.call hi hb hk);clear N1 hi hb hk hse x0 x1 x3 x4 x5 x6;obtain ⟨A2, c2, x0, x1, x3, x4, x5, x6⟩ := N2.out.cells;have N := N2;clear N2
 go_upto_if 11 with fail
 go_cut [] (fun wc => ∃ xa xd xe xB : Int, NS w0 w g b wc xa xd xe xB ∧ Sdq (numI k b a xa xd xe xB = some r))
 case first =>
  rcases Bool.eq_false_or_eq_true (c1 == 45) with q1 | q1
  ·have h := H.out
   clear H;rw [if_pos q1] at h;have H := Sdq.mk h;clear h
   go_wp2_with fail
   go_meet
   case rel => exact ⟨_, _, _, _, N.out.set1 _, H⟩
  ·have h := H.out
   clear H;rw [if_neg (by rw [q1]; decide)] at h;have H := Sdq.mk h;clear h
   go_wp2_with fail
   go_meet
   case rel => exact ⟨_, _, _, _, N.out, H⟩
 case rest =>
  clear N H x0 x1 x3 x4 x5 x6;obtain ⟨a2, d2, e2, B2, Nn, H⟩ := hcut;have N := Sdq.mk Nn;clear Nn;obtain ⟨A41, z41, x0, x1, x3, x4, x5, x6⟩ := N.out.cells;have h := H.out;clear H;unfold numI at h;replace h := Option.bind_eq_some_iff.mp h;obtain ⟨⟨c2, a3, d3, e3, B3⟩, hs, h⟩ := h;have H := Sdq.mk h;have hse := Sdq.mk hs;clear h hs
  go_wp2_with fail
  refine (RRq_peek.calls g b a2 d2 e2 B2 c2 a3 d3 e3 B3 w0 _ N.out.i N.out.bl hse.out).mono ?_;rintro en w41 ⟨rfl, hi, hb, hk⟩;have Nn := Sdq.mk (N.out.call hi hb hk);clear x0 x1 x3 x4 x5 x6 N hi hb hk hse;have N := Nn;clear Nn;obtain ⟨A42, z42, x0, x1, x3, x4, x5, x6⟩ := N.out.cells
  go_upto_if 22 with fail
  go_cut [] (fun wc => ∃ xa xd xe xB : Int, NS w0 w g b wc xa xd xe xB ∧ Sdq (numD k b a xa xd xe xB = some r))
  case first =>
   rcases Bool.eq_false_or_eq_true (c2 == 48) with q1 | q1
   ·have h := H.out
    clear H;rw [if_pos q1] at h;have H := Sdq.mk (show numD k b a (wrap64 (a3 + 1)) d3 e3 B3 = some r from h);clear h
    go_wp2_with fail
    go_meet
    case rel => exact ⟨_, _, _, _, N.out.set1 _, H⟩
   ·have h := H.out
    clear H;rw [if_neg (by rw [q1]; decide)] at h;have H := Sdq.mk h;clear h;have h := H.out;clear H;replace h := Option.bind_eq_some_iff.mp h;obtain ⟨⟨u1, u2, u3, u4⟩, hs, h⟩ := h;have hse := Sdq.mk hs;have H := Sdq.mk h;clear h hs
    go_wp2_with fail
    refine (RRq_digits.calls k g b a3 d3 e3 B3 u1 u2 u3 u4 w0 _ N.out.i N.out.bl hse.out).mono ?_;rintro en w42 ⟨rfl, hi, hb, hk⟩;have Nn := Sdq.mk (N.out.call hi hb hk);clear x0 x1 x3 x4 x5 x6 N hi hb hk hse;have N := Nn;clear Nn;obtain ⟨A43, z43, x0, x1, x3, x4, x5, x6⟩ := N.out.cells
    go_wp2_with fail
    go_meet
    case rel => exact ⟨_, _, _, _, N.out, H⟩
  case rest =>
   clear N H x0 x1 x3 x4 x5 x6;obtain ⟨a4, d4, e4, B4, Nn, H⟩ := hcut;have N := Sdq.mk Nn;clear Nn;obtain ⟨A44, z44, x0, x1, x3, x4, x5, x6⟩ := N.out.cells;have h := H.out;clear H;unfold numD at h;replace h := Option.bind_eq_some_iff.mp h;obtain ⟨⟨c4, a5, d5, e5, B5⟩, hs, h⟩ := h;have H := Sdq.mk h;have hse := Sdq.mk hs;clear h hs
   go_wp2_with fail
   refine (RRq_see.calls g b a4 d4 e4 B4 c4 a5 d5 e5 B5 w0 _ N.out.i N.out.bl hse.out).mono ?_;rintro en w44 ⟨rfl, hi, hb, hk⟩;have Nn := Sdq.mk (N.out.call hi hb hk);clear x0 x1 x3 x4 x5 x6 N hi hb hk hse;have N := Nn;clear Nn;obtain ⟨A45, z45, x0, x1, x3, x4, x5, x6⟩ := N.out.cells
   go_upto_if 34 with fail
   go_cut [] (fun wc => ∃ xa xd xe xB : Int, NS w0 w g b wc xa xd xe xB ∧ Sdq (numX k b a xa xd xe xB = some r))
   case first =>
    rcases Bool.eq_false_or_eq_true (c4 == 46) with q1 | q1
    ·have h := H.out
     clear H;rw [if_pos q1] at h;have H := Sdq.mk h;clear h
     go_upto_region 10 with fail
     refine absP (fun W => NS w0 w g b W (wrap64 (a5 + 1)) d5 e5 B5) (N.out.set1 _) ?_;clear x0 x1 x3 x4 x5 x6;clear N;intro wn45 Nn;have N := Sdq.mk Nn;clear Nn;obtain ⟨A46, z46, x0, x1, x3, x4, x5, x6⟩ := N.out.cells;have h := H.out;clear H;replace h := Option.bind_eq_some_iff.mp h;obtain ⟨⟨u1, u2, u3, u4⟩, hs, h⟩ := h;have hse := Sdq.mk hs;have H := Sdq.mk h;clear h hs
     go_wp2_with fail
     refine (RRq_digits.calls k g b (wrap64 (a5 + 1)) d5 e5 B5 u1 u2 u3 u4 w0 _ N.out.i N.out.bl hse.out).mono ?_;rintro en w46 ⟨rfl, hi, hb, hk⟩;have Nn := Sdq.mk (N.out.call hi hb hk);clear x0 x1 x3 x4 x5 x6 N hi hb hk hse;have N := Nn;clear Nn;obtain ⟨A47, z47, x0, x1, x3, x4, x5, x6⟩ := N.out.cells
     go_wp2_with fail
     go_meet
     case rel => exact ⟨_, _, _, _, N.out, H⟩
    ·have h := H.out
     clear H;rw [if_neg (by rw [q1]; decide)] at h;have H := Sdq.mk (show numX k b a a5 d5 e5 B5 = some r from h);clear h
     go_wp2_with fail
     go_meet
     case rel => exact ⟨_, _, _, _, N.out, H⟩
   case rest =>
    clear N H x0 x1 x3 x4 x5 x6;obtain ⟨a6, d6, e6, B6, Nn, H⟩ := hcut;have N := Sdq.mk Nn;clear Nn;obtain ⟨A48, z48, x0, x1, x3, x4, x5, x6⟩ := N.out.cells;have h := H.out;clear H;unfold numX at h;replace h := Option.bind_eq_some_iff.mp h;obtain ⟨⟨c6, a7, d7, e7, B7⟩, hs, h⟩ := h;have H := Sdq.mk h;have hse := Sdq.mk hs;clear h hs
    go_wp2_with fail
    refine (RRq_see.calls g b a6 d6 e6 B6 c6 a7 d7 e7 B7 w0 _ N.out.i N.out.bl hse.out).mono ?_;rintro en w48 ⟨rfl, hi, hb, hk⟩;have Nn := Sdq.mk (N.out.call hi hb hk);clear x0 x1 x3 x4 x5 x6 N hi hb hk hse;have N := Nn;clear Nn;obtain ⟨A49, z49, x0, x1, x3, x4, x5, x6⟩ := N.out.cells
    go_upto_region 12 with fail
    go_cut [51] (fun sv wc => sv = .bool (c6 == 101 || c6 == 69) ∧ NS w0 w g b wc a7 d7 e7 B7)
    case first =>
     rcases (show ((c6 == 101) = true ∧ (c6 == 101 || c6 == 69) = true) ∨ ((c6 == 101) = false ∧ (c6 == 69) = true ∧ (c6 == 101 || c6 == 69) = true) ∨ ((c6 == 101) = false ∧ (c6 == 69) = false ∧ (c6 == 101 || c6 == 69) = false) from by cases (c6 == 101) <;> cases (c6 == 69) <;> simp) with ⟨q4, q5⟩ | ⟨q4, q4b, q5⟩ | ⟨q4, q4b, q5⟩
     ·go_wp2_with fail
      go_meet
      case rel => exact ⟨by rw [q5], N.out⟩
     ·go_wp2_with fail
      go_meet
      case rel => exact ⟨by rw [q5], N.out⟩
     ·go_wp2_with fail
      go_meet
      case rel => exact ⟨by rw [q5], N.out⟩
    case rest =>
     clear x0 x1 x3 x4 x5 x6 N;obtain ⟨rfl, Nn⟩ := hcut;have N := Sdq.mk Nn;clear Nn;obtain ⟨A50, z50, x0, x1, x3, x4, x5, x6⟩ := N.out.cells
     go_upto_if 51 with fail
     go_cut [] (fun wc => ∃ xa xd xe xB : Int, NS w0 w g b wc xa xd xe xB ∧ Sdq (numE b a xa xd xe xB = some r))
     case first =>
      rcases Bool.eq_false_or_eq_true (c6 == 101 || c6 == 69) with q1 | q1
      ·have h := H.out
       clear H;rw [if_pos q1] at h;replace h := Option.bind_eq_some_iff.mp h;obtain ⟨⟨c8, a9, d9, e9, B9⟩, hs, h⟩ := h;have H := Sdq.mk h;have hse := Sdq.mk hs;clear h hs;rw [q1]
       go_upto_region 14 with fail
       refine absP (fun W => NS w0 w g b W (wrap64 (a7 + 1)) d7 e7 B7) (N.out.set1 _) ?_;clear x0 x1 x3 x4 x5 x6;clear N;intro wn50 Nn;have N := Sdq.mk Nn;clear Nn;obtain ⟨A51, z51, x0, x1, x3, x4, x5, x6⟩ := N.out.cells
       go_wp2_with fail
       refine (RRq_see.calls g b (wrap64 (a7 + 1)) d7 e7 B7 c8 a9 d9 e9 B9 w0 _ N.out.i N.out.bl hse.out).mono ?_;rintro en w51 ⟨rfl, hi, hb, hk⟩;have Nn := Sdq.mk (N.out.call hi hb hk);clear x0 x1 x3 x4 x5 x6 N hi hb hk hse;have N := Nn;clear Nn;obtain ⟨A52, z52, x0, x1, x3, x4, x5, x6⟩ := N.out.cells
       go_upto_region 15 with fail
       go_cut [66] (fun sv wc => sv = .bool (c8 == 43 || c8 == 45) ∧ NS w0 w g b wc a9 d9 e9 B9)
       case first =>
        rcases (show ((c8 == 43) = true ∧ (c8 == 43 || c8 == 45) = true) ∨ ((c8 == 43) = false ∧ (c8 == 45) = true ∧ (c8 == 43 || c8 == 45) = true) ∨ ((c8 == 43) = false ∧ (c8 == 45) = false ∧ (c8 == 43 || c8 == 45) = false) from by cases (c8 == 43) <;> cases (c8 == 45) <;> simp) with ⟨q4, q5⟩ | ⟨q4, q4b, q5⟩ | ⟨q4, q4b, q5⟩
        ·go_wp2_with fail
         go_meet
         case rel => exact ⟨by rw [q5], N.out⟩
        ·go_wp2_with fail
         go_meet
         case rel => exact ⟨by rw [q5], N.out⟩
        ·go_wp2_with fail
         go_meet
         case rel => exact ⟨by rw [q5], N.out⟩
       case rest =>
        clear x0 x1 x3 x4 x5 x6 N;obtain ⟨rfl, Nn⟩ := hcut;have N := Sdq.mk Nn;clear Nn;obtain ⟨A53, z53, x0, x1, x3, x4, x5, x6⟩ := N.out.cells
        go_upto_if 66 with fail
        go_cut [] (fun wc => ∃ xa xd xe xB : Int, NS w0 w g b wc xa xd xe xB ∧ Sdq (((RRq_digits.f k b xa xd xe xB).bind fun v => numE b a v.1 v.2.1 v.2.2.1 v.2.2.2) = some r))
        case first =>
         rcases Bool.eq_false_or_eq_true (c8 == 43 || c8 == 45) with q2 | q2
         ·rw [q2]
          have h := H.out;clear H;rw [if_pos q2] at h;have H := Sdq.mk h;clear h
          go_wp2_with fail
          go_meet
          case rel => exact ⟨_, _, _, _, N.out.set1 _, H⟩
         ·rw [q2]
          have h := H.out;clear H;rw [if_neg (by rw [q2]; decide)] at h;have H := Sdq.mk h;clear h
          go_wp2_with fail
          go_meet
          case rel => exact ⟨_, _, _, _, N.out, H⟩
        case rest =>
         clear N H x0 x1 x3 x4 x5 x6;obtain ⟨a10, d10, e10, B10, Nn, H⟩ := hcut;have N := Sdq.mk Nn;clear Nn;obtain ⟨A54, z54, x0, x1, x3, x4, x5, x6⟩ := N.out.cells
         go_upto_region 17 with fail
         have h := H.out;clear H;replace h := Option.bind_eq_some_iff.mp h;obtain ⟨⟨u1, u2, u3, u4⟩, hs, h⟩ := h;have hse := Sdq.mk hs;have H := Sdq.mk h;clear h hs
         go_wp2_with fail
         refine (RRq_digits.calls k g b a10 d10 e10 B10 u1 u2 u3 u4 w0 _ N.out.i N.out.bl hse.out).mono ?_;rintro en w54 ⟨rfl, hi, hb, hk⟩;have Nn := Sdq.mk (N.out.call hi hb hk);clear x0 x1 x3 x4 x5 x6 N hi hb hk hse;have N := Nn;clear Nn;obtain ⟨A55, z55, x0, x1, x3, x4, x5, x6⟩ := N.out.cells
         go_wp2_with fail
         go_meet
         case rel => exact ⟨_, _, _, _, N.out, H⟩
      ·have h := H.out
       clear H;rw [if_neg (by rw [q1]; decide)] at h;have H := Sdq.mk (show numE b a a7 d7 e7 B7 = some r from h);clear h;rw [q1]
       go_wp2_with fail
       go_meet
       case rel => exact ⟨_, _, _, _, N.out, H⟩
     case rest =>
      clear N H x0 x1 x3 x4 x5 x6;obtain ⟨a8, d8, e8, B8, Nn, H⟩ := hcut;have N := Sdq.mk Nn;clear Nn;obtain ⟨A56, z56, x0, x1, x3, x4, x5, x6⟩ := N.out.cells;have h := H.out;clear H;unfold numE at h;obtain ⟨hz0, hz1, hz2, hz3, hzf0, hzf1, hzf2, hzf3⟩ := N.out.z
      rcases Bool.eq_false_or_eq_true (e8 != 0) with q8 | q8
      ·rw [if_pos q8] at h
       obtain rfl := Option.some.inj h
       go_wp2_with fail
       have F := N.out.fin 0 ⟨#[]⟩ _ rfl;clear N x0 x1 x3 x4 x5 x6 hz0 hz1 hz2 hz3 hzf0 hzf1 hzf2 hzf3;generalize World.setCell _ _ _ = wf at F ⊢;obtain ⟨fi, fb, fk, c0, c1, c2, c3⟩ := F;refine bodyPost_ret (v := .agg #[.int .i64 0, .string (⟨#[]⟩), .slice none 0 0, .slice none 0 0]) (by simp [results, Tryd.results70, go_sem, c0, c1, c2, c3]) rfl ?_;exact ⟨rfl, fi, fb, fk⟩
      ·rw [if_neg (by rw [q8]; decide)] at h
       obtain ⟨hab, h⟩ : (0 ≤ a ∧ a ≤ a8 ∧ a8 ≤ b.length) ∧ (3, strOfNums ((b.take a8.toNat).drop a.toNat), [], [], a8, d8, e8, B8) = r := by
        by_cases hc : 0 ≤ a ∧ a ≤ a8 ∧ a8 ≤ b.length
        ·rw [if_pos hc] at h
         exact ⟨hc, Option.some.inj h⟩
        ·rw [if_neg hc] at h
         simp at h
       obtain rfl := h;obtain ⟨p, rfl⟩ := Int.eq_ofNat_of_zero_le hab.1;obtain ⟨q, rfl⟩ := Int.eq_ofNat_of_zero_le (Int.le_trans hab.1 hab.2.1)
       have hpq : p ≤ q := by omega
       have hqb : q ≤ b.length := by omega
       clear hab;obtain ⟨A', hr1, hr2⟩ := Rd.cut_runs (A := A56) (c := z56) hpq hqb x5;have hr3 := hr2 wc.drew (Kd.C_below x6 (below_drew (Below.refl _ _)));clear hr2;have hr1' := hr1 wc.drew;clear hr1
       go_wp2_with fail
       refine wp_region_still_tail 12 (by kernel_rfl) (by kernel_rfl) ?_;simp only [List.take_succ_cons, List.take_zero, List.drop_succ_cons, List.drop_zero];rw [show ({ heap := wc.heap, tape := wc.tape, drawn := wc.drawn + 1, os := wc.os, output := wc.output } : World) = wc.drew from rfl]
       repeat still_step
       refine wpStill_nil ?_;go_wp2;clear hr1' hr3;have F := N.out.fin 3 (strOfNums ((b.take q).drop p)) _ rfl;clear N x0 x1 x3 x4 x5 x6 hz0 hz1 hz2 hz3 hzf0 hzf1 hzf2 hzf3;generalize World.setCell _ _ _ = wf at F ⊢;obtain ⟨fi, fb, fk, c0, c1, c2, c3⟩ := F;replace fi := fi.drew;replace fb := bdr1 fb;replace fk := keep_drew fk;have c0 : wf.drew.cell? ⟨w.heap.size, 0, none⟩ = _ := c0;have c1 : wf.drew.cell? ⟨w.heap.size, 1, none⟩ = _ := c1;have c2 : wf.drew.cell? ⟨w.heap.size, 2, none⟩ = _ := c2;have c3 : wf.drew.cell? ⟨w.heap.size, 3, none⟩ = _ := c3;refine bodyPost_ret (v := .agg #[.int .i64 3, .string ((strOfNums ((b.take q).drop p))), .slice none 0 0, .slice none 0 0]) (by simp [results, Tryd.results70, go_sem, c0, c1, c2, c3]) rfl ?_;exact ⟨rfl, fi, fb, fk⟩
end Go.Proofs.YteighppcdpaekaaDoor.Rf
end
section
namespace Go.Proofs.YteighppcdpaekaaDoor.Rf
open Go.RowKit Go.Proofs.YteighppcdpaekaaDoorW.PrintWords Go.Proofs.YteighppcdpaekaaDoor Go.Proofs.YteighppcdpaekaaDoor.P
abbrev St4 := Int × Int × Int × Int
abbrev RVal := S44 × Int × Int × Int × Int
def dupF (ks : List ByteArray) (key : ByteArray) (fr : Int) : Int → Int → Int → Int → Option St4 := match ks with
 | [] => fun a d e B => some (a, d, e, B)
 | x :: r => fun a d e B => if x = key then (if e = 0 then dupF r key fr a d 23 fr else dupF r key fr a d e B) else dupF r key fr a d e B
section
variable (V : Int → Int → Int → Int → Option RVal) (k : Nat) (b : List Int)
def itemsF : Nat → List S44 → Bool → Int → Int → Int → Int → Option RVal
 | 0, _, _, _, _, _, _ => none
 | j + 1, l, m, a, d, e, B => if (m && e == 0) = true then
   (V a d e B).bind fun t => if l.length < 1000000 then
    (RRq_more.f k b t.2.1 t.2.2.1 t.2.2.2.1 t.2.2.2.2 93).bind fun u => itemsF j (l ++ [t.1]) u.1 u.2.1 u.2.2.1 u.2.2.2.1 u.2.2.2.2 else none
  else some (⟨5, ⟨#[]⟩, [], l⟩, a, d, e, B)
def arrF (a d e B : Int) : Option RVal :=
 (RRq_enter.f k b a d e B 93).bind fun t => if t.1 = true then some (⟨5, ⟨#[]⟩, [], []⟩, t.2.1, t.2.2.1, t.2.2.2.1, t.2.2.2.2) else itemsF V k b k [] true t.2.1 t.2.2.1 t.2.2.2.1 t.2.2.2.2
def pairF (ks : List ByteArray) (a d e B : Int) : Option (ByteArray × RVal) :=
 (RRq_text.f k b a d e B).bind fun t =>
 (dupF ks t.1 a t.2.1 t.2.2.1 t.2.2.2.1 t.2.2.2.2).bind fun u =>
 (RRq_blank.f k b u.1 u.2.1 u.2.2.1 u.2.2.2).bind fun u =>
 (RRq_must.f k b u.1 u.2.1 u.2.2.1 u.2.2.2 58).bind fun u =>
 (RRq_blank.f k b u.1 u.2.1 u.2.2.1 u.2.2.2).bind fun u =>
 (V u.1 u.2.1 u.2.2.1 u.2.2.2).bind fun v => some (t.1, v)
def pairsF : Nat → List ByteArray → List S44 → Bool → Int → Int → Int → Int → Option RVal
 | 0, _, _, _, _, _, _, _ => none
 | j + 1, ks, l, m, a, d, e, B => if (m && e == 0) = true then
   (pairF V k b ks a d e B).bind fun t => if l.length < 1000000 ∧ ks.length < 1000000 then
    (RRq_more.f k b t.2.2.1 t.2.2.2.1 t.2.2.2.2.1 t.2.2.2.2.2 125).bind fun u => pairsF j (ks ++ [t.1]) (l ++ [t.2.1]) u.1 u.2.1 u.2.2.1 u.2.2.2.1 u.2.2.2.2 else none
  else some (⟨6, ⟨#[]⟩, ks, l⟩, a, d, e, B)
def objF (a d e B : Int) : Option RVal :=
 (RRq_enter.f k b a d e B 125).bind fun t => if t.1 = true then some (⟨6, ⟨#[]⟩, [], []⟩, t.2.1, t.2.2.1, t.2.2.2.1, t.2.2.2.2) else pairsF V k b k [] [] true t.2.1 t.2.2.1 t.2.2.2.1 t.2.2.2.2
end
def ofNum (t : NumOut) : RVal := (⟨t.1, t.2.1, t.2.2.1, t.2.2.2.1⟩, t.2.2.2.2)
def valF (b : List Int) : Nat → Int → Int → Int → Int → Option RVal
 | 0, _, _, _, _ => none
 | k + 1, a, d, e, B => (RRq_peek.f b a d e B).bind fun t =>
  if (t.2.2.2.1 != 0) = true then some (⟨0, ⟨#[]⟩, [], []⟩, t.2)
  else if (t.1 == 123) = true then objF (valF b k) k b t.2.1 t.2.2.1 t.2.2.2.1 t.2.2.2.2
  else if (t.1 == 91) = true then arrF (valF b k) k b t.2.1 t.2.2.1 t.2.2.2.1 t.2.2.2.2
  else if (t.1 == 34) = true then (RRq_text.f k b t.2.1 t.2.2.1 t.2.2.2.1 t.2.2.2.2).bind fun u => some (⟨4, u.1, [], []⟩, u.2)
  else if (t.1 == 116) = true then (RRq_word.f k b t.2.1 t.2.2.1 t.2.2.2.1 t.2.2.2.2 ⟨#[116, 114, 117, 101]⟩ 2).map ofNum
  else if (t.1 == 102) = true then (RRq_word.f k b t.2.1 t.2.2.1 t.2.2.2.1 t.2.2.2.2 ⟨#[102, 97, 108, 115, 101]⟩ 1).map ofNum
  else if (t.1 == 110) = true then (RRq_word.f k b t.2.1 t.2.2.1 t.2.2.2.1 t.2.2.2.2 ⟨#[110, 117, 108, 108]⟩ 0).map ofNum
  else (numF k b t.2.1 t.2.2.1 t.2.2.2.1 t.2.2.2.2).map ofNum
def VPost (w0 w : World) (g : Nat) (b : List Int) (r : RVal) (en : Ending) (w' : World) : Prop :=
 ∃ v2 v3 : Value, en = .returned (.agg #[.int .i64 r.1.f0, .string r.1.f1, v2, v3]) ∧ Kd.string.R 9 w' w.heap.size (fun _ => True) v2 r.1.f2 ∧ k44.R 44 w' w.heap.size (fun k => some k ≠ v2.ownBlock) v3 r.1.f3 ∧
  IsS96 w0 w' g b r.2.1 r.2.2.1 r.2.2.2.1 r.2.2.2.2 ∧ Below w0.heap.size w0 w' ∧ Kbt w w' g none
def VOK (b : List Int) (V : Int → Int → Int → Int → Option RVal) : Prop := ∀ (g : Nat) (a d e B : Int) (r : RVal) (w0 w : World), IsS96 w0 w g b a d e B → Below w0.heap.size w0 w → V a d e B = some r →
 Calls Tryd.prog 45 #[.pointer (some ⟨g, 0, none⟩)] w (VPost w0 w g b r)
structure VS (w0 w : World) (g : Nat) (b : List Int) (kd : Int) (W : World) (a d e B : Int) (kv lv : Value) (ks : List ByteArray) (l : List S44) : Prop where
 i : IsS96 w0 W g b a d e B
 bl : Below w0.heap.size w0 W
 k : Kbt w W g none
 zb : W.heap[w.heap.size]? = some (.cells #[.int .i64 0, .string ⟨#[]⟩, .slice none 0 0, .slice none 0 0] 44 (0, 0))
 vb : W.heap[w.heap.size + 1]? = some (.cells #[.int .i64 kd, .string ⟨#[]⟩, kv, lv] 44 (0, 0))
 own2 : Kd.string.R 9 W (w.heap.size + 2) (fun _ => True) kv ks
 own : k44.R 44 W (w.heap.size + 2) (fun k => some k ≠ kv.ownBlock) lv l
 lt : g < w.heap.size
section
variable {w0 w : World} {g : Nat} {b : List Int} {kd : Int} {W W' : World} {a d e B a' d' e' B' : Int} {kv lv v1 : Value} {ks : List ByteArray} {l : List S44}
theorem VS.step (h : VS w0 w g b kd W a d e B kv lv ks l) (hi : IsS96 w0 W' g b a' d' e' B') (hb : Below w0.heap.size w0 W') (hk : Kbt W W' g none) : VS w0 w g b kd W' a' d' e' B' kv lv ks l :=
 have := h.lt
 ⟨hi, hb, h.k.trans hk (.inl rfl), hk.blk h.zb (by omega) (by simp), hk.blk h.vb (by omega) (by simp),
  Kd.R_mono (Kd.R_keep (Kd.R_bound h.own2) hk (fun k hk => by have := hk.2.1; omega)) (fun _ _ => trivial), Kd.R_mono (Kd.R_keep (Kd.R_bound h.own) hk (fun k hk => by have := hk.2.1; omega)) (fun _ hk => hk.1), h.lt⟩
theorem VS.alloc (h : VS w0 w g b kd W a d e B kv lv ks l) (x : Obj) : VS w0 w g b kd (W.alloc x) a d e B kv lv ks l := h.step (h.i.alloc x) (bal h.bl x) (kal (Kbt.refl _ _ _) x)
theorem VS.cells (h : VS w0 w g b kd W a d e B kv lv ks l) :
  (W.cell? ⟨w.heap.size, 0, none⟩ = some (.int .i64 0) ∧ W.cell? ⟨w.heap.size, 1, none⟩ = some (.string ⟨#[]⟩) ∧ W.cell? ⟨w.heap.size, 2, none⟩ = some (.slice none 0 0) ∧ W.cell? ⟨w.heap.size, 3, none⟩ = some (.slice none 0 0)) ∧
  (W.cell? ⟨w.heap.size + 1, 0, none⟩ = some (.int .i64 kd) ∧ W.cell? ⟨w.heap.size + 1, 1, none⟩ = some (.string ⟨#[]⟩) ∧ W.cell? ⟨w.heap.size + 1, 2, none⟩ = some kv ∧ W.cell? ⟨w.heap.size + 1, 3, none⟩ = some lv) ∧
  (W.frozen? ⟨w.heap.size, 0, none⟩ = false ∧ W.frozen? ⟨w.heap.size, 1, none⟩ = false ∧ W.frozen? ⟨w.heap.size, 2, none⟩ = false ∧ W.frozen? ⟨w.heap.size, 3, none⟩ = false) ∧
  (W.frozen? ⟨w.heap.size + 1, 2, none⟩ = false ∧ W.frozen? ⟨w.heap.size + 1, 3, none⟩ = false) ∧
  (W.cell? ⟨g, 1, none⟩ = some (.int .i64 a) ∧ W.cell? ⟨g, 3, none⟩ = some (.int .i64 e)) := by
 obtain ⟨A, c, HG, hg, HC⟩ := h.i;exact ⟨Rd.blk4 h.zb, Rd.blk4 h.vb, ⟨bfz h.zb 0, bfz h.zb 1, bfz h.zb 2, bfz h.zb 3⟩, ⟨bfz h.vb 2, bfz h.vb 3⟩, cellS96_1 HG, cellS96_3 HG⟩
theorem VS.ge (h : VS w0 w g b kd W a d e B kv lv ks l) : w0.heap.size ≤ w.heap.size := Nat.le_trans h.i.ge (Nat.le_of_lt h.lt)
theorem VS.grown0 (h : VS w0 w g b kd W a d e B kv lv ks l) {row : Option Nat} (hgr : W.grownBy W' row) (hr : ∀ k, row = some k → w.heap.size + 2 ≤ k) :
  IsS96 w0 W' g b a d e B ∧ Below w0.heap.size w0 W' ∧ Kbt w W' g none ∧ W'.heap[w.heap.size]? = some (.cells #[.int .i64 0, .string ⟨#[]⟩, .slice none 0 0, .slice none 0 0] 44 (0, 0)) ∧ W'.heap[w.heap.size + 1]? = some (.cells #[.int .i64 kd, .string ⟨#[]⟩, kv, lv] 44 (0, 0)) := by
 have hge := h.ge;have hlt := h.lt
 have hne : ∀ i, i < w.heap.size + 2 → some i ≠ row := fun i hi e => by have := hr _ e.symm; omega
 refine ⟨h.i.grown hgr (hne g (by omega)), h.bl.grown hgr (Nat.le_trans hge h.k.1) (fun k hk => by have := hr k hk; omega), ?_, blk_grown h.zb hgr (hne _ (by omega)), blk_grown h.vb hgr (hne _ (by omega))⟩;refine h.k.trans (Kbt.of_grown hgr g) ?_
 cases hv : row with
 | none => exact .inl rfl
 | some k => exact .inr ⟨k, rfl, by have := hr k hv; omega⟩
theorem VS.far (h : VS w0 w g b kd W a d e B kv lv ks l) (i j : Nat) (hi : i = w.heap.size ∨ i = w.heap.size + 1) (x : Value) {kv2 lv2 : Value} {ks2 : List ByteArray} {l2 : List S44} (h2 : Kd.string.R 9 W (w.heap.size + 2) (fun _ => True) kv2 ks2) (h3 : k44.R 44 W (w.heap.size + 2) (fun k => some k ≠ kv2.ownBlock) lv2 l2) :
  IsS96 w0 (W.setCell ⟨i, j, none⟩ x) g b a d e B ∧ Below w0.heap.size w0 (W.setCell ⟨i, j, none⟩ x) ∧ Kbt w (W.setCell ⟨i, j, none⟩ x) g none ∧
  Kd.string.R 9 (W.setCell ⟨i, j, none⟩ x) (w.heap.size + 2) (fun _ => True) kv2 ks2 ∧ k44.R 44 (W.setCell ⟨i, j, none⟩ x) (w.heap.size + 2) (fun k => some k ≠ kv2.ownBlock) lv2 l2 := by
 have hge := h.ge;have hlt := h.lt
 have hi2 : g ≠ i ∧ w.heap.size ≤ i ∧ i < w.heap.size + 2 := by omega
 refine ⟨h.i.far (p := ⟨i, j, none⟩) hi2.1 x, bstq h.bl (by show w0.heap.size ≤ i; omega), keep_far (p := ⟨i, j, none⟩) h.k hi2.2.1 x, ?_, ?_⟩
 ·exact Kd.R_mono (Kd.R_far (p := ⟨i, j, none⟩) (Kd.R_bound h2) (fun k hk => by have h2 := hk.2.1; show k ≠ i; omega) x) (fun _ _ => trivial)
 ·exact Kd.R_mono (Kd.R_far (p := ⟨i, j, none⟩) (Kd.R_bound h3) (fun k hk => by have h2 := hk.2.1; show k ≠ i; omega) x) (fun _ hk => hk.1)
theorem VS.appL (h : VS w0 w g b kd W a d e B kv lv ks l) {l2 : List S44} (hR : k44.R 44 W' (w.heap.size + 2) (fun k => some k ≠ kv.ownBlock) v1 l2) (hgr : W.grownBy W' lv.ownBlock) :
  VS w0 w g b kd (W'.setCell ⟨w.heap.size + 1, 3, none⟩ v1) a d e B kv v1 ks l2 := by
 obtain ⟨h1, h2, h3, h4, h5⟩ := h.grown0 hgr (Kd.R_base h.own);have hk2 : Kd.string.R 9 W' (w.heap.size + 2) (fun _ => True) kv ks := Kd.R_grown2 h.own2 rfl hgr (fun k hk e => (h.own.1 k hk) e);have hge := h.ge;have hlt := h.lt
 refine ⟨h1.far (p := ⟨w.heap.size + 1, 3, none⟩) (by show g ≠ w.heap.size + 1; omega) _, bstq h2 (by show w0.heap.size ≤ w.heap.size + 1; omega), keep_far (p := ⟨w.heap.size + 1, 3, none⟩) h3 (by show w.heap.size ≤ w.heap.size + 1; omega) _,
  blk_far h4 (p := ⟨w.heap.size + 1, 3, none⟩) (by show w.heap.size ≠ w.heap.size + 1; omega) _, blk_set h5 3 v1, ?_, ?_, h.lt⟩
 ·exact Kd.R_mono (Kd.R_far (p := ⟨w.heap.size + 1, 3, none⟩) (Kd.R_bound hk2) (fun k hk => by have h2 := hk.2.1; show k ≠ w.heap.size + 1; omega) _) (fun _ _ => trivial)
 ·exact Kd.R_mono (Kd.R_far (p := ⟨w.heap.size + 1, 3, none⟩) (Kd.R_bound hR) (fun k hk => by have h2 := hk.2.1; show k ≠ w.heap.size + 1; omega) _) (fun _ hk => hk.1)
theorem VS.appK (h : VS w0 w g b kd W a d e B kv lv ks l) {ks2 : List ByteArray} (hR : Kd.string.R 9 W' (w.heap.size + 2) (fun _ => True) v1 ks2) (hgr : W.grownBy W' kv.ownBlock) (hat : v1.ownBlock = kv.ownBlock ∨ ∃ b, v1.ownBlock = some b ∧ W.heap.size ≤ b) :
  VS w0 w g b kd (W'.setCell ⟨w.heap.size + 1, 2, none⟩ v1) a d e B v1 lv ks2 l := by
 obtain ⟨h1, h2, h3, h4, h5⟩ := h.grown0 hgr (Kd.R_base h.own2);have hk2 : k44.R 44 W' (w.heap.size + 2) (fun k => True ∧ some k ≠ v1.ownBlock) lv l := Kd.R_after (Kd.R_mono h.own (fun _ hk => ⟨trivial, hk⟩)) hgr hat;have hge := h.ge;have hlt := h.lt
 refine ⟨h1.far (p := ⟨w.heap.size + 1, 2, none⟩) (by show g ≠ w.heap.size + 1; omega) _, bstq h2 (by show w0.heap.size ≤ w.heap.size + 1; omega), keep_far (p := ⟨w.heap.size + 1, 2, none⟩) h3 (by show w.heap.size ≤ w.heap.size + 1; omega) _,
  blk_far h4 (p := ⟨w.heap.size + 1, 2, none⟩) (by show w.heap.size ≠ w.heap.size + 1; omega) _, blk_set h5 2 v1, ?_, ?_, h.lt⟩
 ·exact Kd.R_mono (Kd.R_far (p := ⟨w.heap.size + 1, 2, none⟩) (Kd.R_bound hR) (fun k hk => by have h2 := hk.2.1; show k ≠ w.heap.size + 1; omega) _) (fun _ _ => trivial)
 ·exact Kd.R_mono (Kd.R_far (p := ⟨w.heap.size + 1, 2, none⟩) (Kd.R_bound hk2) (fun k hk => by have h2 := hk.2.1; show k ≠ w.heap.size + 1; omega) _) (fun _ hk => hk.1.2)
theorem VS.fin (h : VS w0 w g b kd W a d e B kv lv ks l) : ∀ W', (((W.setCell ⟨w.heap.size, 0, none⟩ (.int .i64 kd)).setCell ⟨w.heap.size, 1, none⟩ (.string ⟨#[]⟩)).setCell ⟨w.heap.size, 2, none⟩ kv).setCell ⟨w.heap.size, 3, none⟩ lv = W' →
  VPost w0 w g b (⟨kd, ⟨#[]⟩, ks, l⟩, a, d, e, B) (.returned (.agg #[.int .i64 kd, .string ⟨#[]⟩, kv, lv])) W' ∧
  W'.cell? ⟨w.heap.size, 0, none⟩ = some (.int .i64 kd) ∧ W'.cell? ⟨w.heap.size, 1, none⟩ = some (.string ⟨#[]⟩) ∧ W'.cell? ⟨w.heap.size, 2, none⟩ = some kv ∧ W'.cell? ⟨w.heap.size, 3, none⟩ = some lv := by
 rintro _ rfl;have hn := Nat.ne_of_lt h.lt;have hs := h.ge;have hB := blk_set (blk_set (blk_set (blk_set h.zb 0 (.int .i64 kd)) 1 (.string ⟨#[]⟩)) 2 kv) 3 lv
 have st2 : ∀ (W : World) (j : Nat) (u : Value), Kd.string.R 9 W (w.heap.size + 2) (fun _ => True) kv ks → Kd.string.R 9 (W.setCell ⟨w.heap.size, j, none⟩ u) (w.heap.size + 2) (fun _ => True) kv ks := fun W j u hR =>
  Kd.R_mono (Kd.R_far (p := ⟨w.heap.size, j, none⟩) (Kd.R_bound hR) (fun k hk => by have h2 := hk.2.1; show k ≠ w.heap.size; omega) u) (fun _ _ => trivial)
 have st3 : ∀ (W : World) (j : Nat) (u : Value), k44.R 44 W (w.heap.size + 2) (fun k => some k ≠ kv.ownBlock) lv l → k44.R 44 (W.setCell ⟨w.heap.size, j, none⟩ u) (w.heap.size + 2) (fun k => some k ≠ kv.ownBlock) lv l := fun W j u hR =>
  Kd.R_mono (Kd.R_far (p := ⟨w.heap.size, j, none⟩) (Kd.R_bound hR) (fun k hk => by have h2 := hk.2.1; show k ≠ w.heap.size; omega) u) (fun _ hk => hk.1)
 refine ⟨⟨kv, lv, rfl, Kd.R_lower (st2 _ _ _ (st2 _ _ _ (st2 _ _ _ (st2 _ _ _ h.own2)))) (Nat.le_add_right _ 2), Kd.R_lower (st3 _ _ _ (st3 _ _ _ (st3 _ _ _ (st3 _ _ _ h.own)))) (Nat.le_add_right _ 2), (((h.i.far (p := ⟨w.heap.size, 0, none⟩) hn _).far (p := ⟨w.heap.size, 1, none⟩) hn _).far (p := ⟨w.heap.size, 2, none⟩) hn _).far (p := ⟨w.heap.size, 3, none⟩) hn _, ?_, ?_⟩, (bceq hB 0).trans rfl, (bceq hB 1).trans rfl, (bceq hB 2).trans rfl, (bceq hB 3).trans rfl⟩
 ·exact bstq (bstq (bstq (bstq h.bl hs) hs) hs) hs
 ·exact keep_far (p := ⟨w.heap.size, 3, none⟩) (keep_far (p := ⟨w.heap.size, 2, none⟩) (keep_far (p := ⟨w.heap.size, 1, none⟩) (keep_far (p := ⟨w.heap.size, 0, none⟩) h.k (Nat.le_refl _) _) (Nat.le_refl _) _) (Nat.le_refl _) _) (Nat.le_refl _) _
theorem VS.start {kd : Int} (hI : IsS96 w0 w g b a d e B) (hB : Below w0.heap.size w0 w) (hlt : g < w.heap.size) : VS w0 w g b kd ((w.alloc Z44).alloc (.cells #[.int .i64 kd, .string ⟨#[]⟩, .slice none 0 0, .slice none 0 0] 44 (0, 0))) a d e B (.slice none 0 0) (.slice none 0 0) [] [] := by
 refine ⟨(hI.alloc _).alloc _, bal (bal hB _) _, kal (kal (Kbt.refl _ _ _) _) _, ?_, ?_, Kd.R_nil _ _ _ _ _, Kd.R_nil _ _ _ _ _, hlt⟩
 ·exact blk_grown (blk_new w Z44) (World.grownBy_alloc _ _ none) (by simp)
 ·have := blk_new (w.alloc Z44) (.cells #[.int .i64 kd, .string ⟨#[]⟩, .slice none 0 0, .slice none 0 0] 44 (0, 0))
  simpa using this
end
theorem info_44 : (Tryd.prog.info? 44).map (fun i => (i.zero, i.size, i.bytes)) = some (some (.agg #[(.int .i64 0), (.string ⟨#[]⟩), (.slice none 0 0), (.slice none 0 0)]), 4, 72) := by kernel_rfl
end Go.Proofs.YteighppcdpaekaaDoor.Rf
end
section
namespace Go.Proofs.YteighppcdpaekaaDoor.Rf
open Go.RowKit Go.Proofs.YteighppcdpaekaaDoorW.PrintWords Go.Proofs.YteighppcdpaekaaDoor Go.Proofs.YteighppcdpaekaaDoor.P
set_option maxRecDepth 100000 in
set_option maxHeartbeats 3200000 in
theorem array_calls {V : Int → Int → Int → Int → Option RVal} {b : List Int} (hV : VOK b V) (k g : Nat) (a d e B : Int) (r : RVal) (w0 w : World) (hI : IsS96 w0 w g b a d e B) (hB : Below w0.heap.size w0 w) (hlt : g < w.heap.size) (h : arrF V k b a d e B = some r) :
  Calls Tryd.prog 67 #[.pointer (some ⟨g, 0, none⟩)] w (VPost w0 w g b r) := by
 have N := Sdq.mk (VS.start (kd := 5) hI hB hlt);have h' := Option.bind_eq_some_iff.mp h;obtain ⟨⟨t, a1, d1, e1, B1⟩, hs, h'⟩ := h';have H := Sdq.mk h';have hse := Sdq.mk hs;clear hI hB h h' hs;go_enter Tryd.func67, Tryd.ntmps67
 go_upto_region 2 with fail
 refine absP (fun W => VS w0 w g b 5 W a d e B _ _ _ _) N.out ?_;clear N;intro w1 N1;have N := Sdq.mk N1;clear N1
 go_wp2_with fail
 refine (RRq_enter.calls k g b a d e B 93 t a1 d1 e1 B1 w0 _ N.out.i N.out.bl hse.out).mono ?_;rintro en w2 ⟨rfl, hi, hb, hk⟩;have Nn := Sdq.mk (N.out.step hi hb hk);clear N hse hi hb hk;have N := Nn;clear Nn
 cases t with
 | true =>
  have h := H.out;obtain rfl := Option.some.inj (show some _ = some r from h);clear H h;obtain ⟨⟨x0, x1, x2, x3⟩, ⟨y0, y1, y2, y3⟩, ⟨f0, f1, f2, f3⟩, ⟨f4, f5⟩, c1, c3⟩ := N.out.cells
  go_wp2_with fail
  have F := N.out.fin _ rfl;clear N x0 x1 x2 x3 y0 y1 y2 y3 f0 f1 f2 f3 f4 f5 c1 c3;generalize World.setCell _ _ _ = wf at F ⊢;obtain ⟨FP, c0, c1, c2, c3⟩ := F;exact bodyPost_ret (v := .agg #[.int .i64 5, .string ⟨#[]⟩, .slice none 0 0, .slice none 0 0]) (by simp [results, Tryd.results67, go_sem, c0, c1, c2, c3]) rfl FP
 | false =>
  have h : itemsF V k b k [] true a1 d1 e1 B1 = some r := H.out;clear H;have H := Sdq.mk h;clear h
  go_wp2_with fail
  go_loopg [4] k (fun kq s4 wc => ∃ (m : Bool) (a1 d1 e1 B1 : Int) (lv : Value) (l : List S44), s4 = .bool m ∧ Sdq (itemsF V k b kq l m a1 d1 e1 B1 = some r) ∧ VS w0 w g b 5 wc a1 d1 e1 B1 (.slice none 0 0) lv [] l)
  case atStart => exact ⟨true, _, _, _, _, _, _, rfl, H, N.out⟩
  case round =>
   clear H N;obtain ⟨m, a2, d2, e2, B2, lv, l, rfl, H, Nn⟩ := hrel;have N := Sdq.mk Nn;clear Nn
   obtain ⟨A1, n1, q1, rfl⟩ : ∃ A n c, lv = .slice A n c := by
    obtain ⟨A, c, e⟩ := Kd.R_slice N.out.own;exact ⟨_, _, _, e⟩
   cases gk with
   | zero => exact absurd H.out (by simp [itemsF])
   | succ j =>
    obtain ⟨⟨x0, x1, x2, x3⟩, ⟨y0, y1, y2, y3⟩, ⟨f0, f1, f2, f3⟩, ⟨f4, f5⟩, c1, c3⟩ := N.out.cells
    rcases (show (m = true ∧ (e2 == 0) = true) ∨ (m = true ∧ (e2 == 0) = false) ∨ m = false from by cases m <;> cases (e2 == 0) <;> simp) with ⟨rfl, q⟩ | ⟨rfl, q⟩ | rfl
    ·have h := H.out
     clear H;rw [itemsF, if_pos (by rw [q]; rfl)] at h;replace h := Option.bind_eq_some_iff.mp h;obtain ⟨⟨⟨t0, t1, t2, t3⟩, a3, d3, e3, B3⟩, hv, h⟩ := h
     have hlen : l.length < 1000000 := Classical.byContradiction fun hc => by
      rw [if_neg hc] at h
      simp at h
     rw [if_pos hlen] at h;replace h := Option.bind_eq_some_iff.mp h;obtain ⟨⟨u, a4, d4, e4, B4⟩, hm, h⟩ := h;have hme := Sdq.mk hm;clear hm;have H := Sdq.mk h;have hse := Sdq.mk hv;clear h hv
     go_wp2_with fail
     refine (hV g a2 d2 e2 B2 _ w0 _ N.out.i N.out.bl hse.out).mono ?_;rintro en w3 ⟨v2, v3, rfl, hR2, hR3, hi, hb, hk⟩
     obtain ⟨A2, n2, q2, rfl⟩ : ∃ A n c, v2 = .slice A n c := by
      obtain ⟨A, c, e⟩ := Kd.R_slice hR2;exact ⟨_, _, _, e⟩
     obtain ⟨A3, n3, q3, rfl⟩ : ∃ A n c, v3 = .slice A n c := by
      obtain ⟨A, c, e⟩ := Kd.R_slice hR3;exact ⟨_, _, _, e⟩
     have hrs := N.out.k.1
     have hlv := fun k e => Kd.R_lt N.out.own k e
     have hwr : w.heap.size + 2 ≤ wr.heap.size := by have := blk_lt N.out.vb; omega
     have hsz := hk.1;have Nn := Sdq.mk (N.out.step hi hb hk);clear N hi hb hk x0 x1 x2 x3 y0 y1 y2 y3 f0 f1 f2 f3 f4 f5 c1 c3 hse;have N := Nn;clear Nn
     go_upto_region 7 with fail
     have hx := blk_new w3 (.cells #[.int .i64 t0, .string t1, .slice A2 n2 q2, .slice A3 n3 q3] 44 (0, 0));have hR2' := Kd.R_grown hR2 (World.grownBy_alloc w3 (.cells #[.int .i64 t0, .string t1, .slice A2 n2 q2, .slice A3 n3 q3] 44 (0, 0)) none) (fun _ _ => by simp);have hR3' := Kd.R_grown hR3 (World.grownBy_alloc w3 (.cells #[.int .i64 t0, .string t1, .slice A2 n2 q2, .slice A3 n3 q3] 44 (0, 0)) none) (fun _ _ => by simp);have hM := k44_mkM _ _ (fun _ => True) ⟨t0, t1, t2, t3⟩ hR2' (Kd.R_mono hR3' (fun _ _ => trivial));replace hM := k44.M_lower (show w.heap.size + 2 ≤ wr.heap.size from hwr) (k44.M_mono (ok' := fun k => wr.heap.size ≤ k) (fun k hk => hk.2.1) (k44.M_bound hM));have Nn := Sdq.mk (N.out.alloc (.cells #[.int .i64 t0, .string t1, .slice A2 n2 q2, .slice A3 n3 q3] 44 (0, 0)));clear N hR2 hR3 hR2' hR3';have N := Nn;clear Nn;have hs4 : wr.heap.size ≤ (w3.alloc (.cells #[.int .i64 t0, .string t1, .slice A2 n2 q2, .slice A3 n3 q3] 44 (0, 0))).heap.size := Nat.le_trans hsz (by simp);generalize w3.alloc (.cells #[.int .i64 t0, .string t1, .slice A2 n2 q2, .slice A3 n3 q3] 44 (0, 0)) = w4 at hx hM N hs4 ⊢;obtain ⟨x0, x1, x2, x3⟩ := Rd.blk4 hx;clear hx;obtain ⟨_, ⟨y0, y1, y2, y3⟩, _, ⟨f4, f5⟩, _, _⟩ := N.out.cells;have hM' := Sdq.mk hM;clear hM;have hwr' := Sdq.mk hwr;have hlv' := Sdq.mk hlv;clear hlv hrs
     go_wp2_with (first
      | ((with_reducible refine gate_builtin (b := .append) (xs := #[.tmp 21, .tmp 23]) rfl ?_); at_builtin; refine Kd.R_append k44 (w0 := w4) (w.heap.size + 2) rfl (.tmp 21) (.tmp 23) 42 44 _ 72 rfl Tryd.underlying42 info_44 rfl (by decide) (by decide) (.slice A1 n1 q1) l ⟨t0, t1, t2, t3⟩ [.int .i64 t0, .string t1, .slice A2 n2 q2, .slice A3 n3 q3] (fun k => some k ≠ (Value.slice none 0 0).ownBlock) (fun k => wr.heap.size ≤ k) rfl (by first | rfl | simp) hM'.out (fun k hk => ⟨by simp [Value.ownBlock], fun e => by have := hlv'.out k e.symm; omega⟩) (fun _ _ => by simp [Value.ownBlock]) N.out.own (Below.refl _ _) (by have := hwr'.out; omega) (by omega) ?_; intro v1 w5 hR5 hB5 hg5 hat5; obtain ⟨A5, n5, q5, rfl⟩ : ∃ A n c, v1 = .slice A n c := (by obtain ⟨A, c, e⟩ := Kd.R_slice hR5; exact ⟨_, _, _, e⟩); obtain ⟨_, _, _, _, hv5⟩ := N.out.grown0 hg5 (Kd.R_base N.out.own); have y5 := (Rd.blk4 hv5).2.2.2; have f6 := bfz hv5 3; clear hv5))
     have Nn := Sdq.mk (N.out.appL hR5 hg5);clear N hR5 hB5 hg5 hat5 x0 x1 x2 x3 y0 y1 y2 y3 f4 f5 y5 f6;have N := Nn;clear Nn;refine (RRq_more.calls k g b a3 d3 e3 B3 93 u a4 d4 e4 B4 w0 _ N.out.i N.out.bl hme.out).mono ?_;rintro en w6 ⟨rfl, hi, hb, hk⟩;have Nn := Sdq.mk (N.out.step hi hb hk);clear N hi hb hk hme;have N := Nn;clear Nn
     go_wp2_with fail
     go_roundg j
     case measure => omega
     exact ⟨u, a4, d4, e4, B4, _, _, rfl, H, N.out⟩
    all_goals
     have h := H.out;clear H;rw [itemsF, if_neg (by first | (rw [q]; decide) | simp)] at h;obtain rfl := Option.some.inj h;clear h
     go_wp2_with fail
     have F := N.out.fin _ rfl;clear N x0 x1 x2 x3 y0 y1 y2 y3 f0 f1 f2 f3 f4 f5 c1 c3;generalize World.setCell _ _ _ = wf at F ⊢;obtain ⟨FP, c0, c1, c2, c3⟩ := F;exact bodyPost_ret (v := .agg #[.int .i64 5, .string ⟨#[]⟩, .slice none 0 0, .slice A1 n1 q1]) (by simp [results, Tryd.results67, go_sem, c0, c1, c2, c3]) rfl FP
end Go.Proofs.YteighppcdpaekaaDoor.Rf
end
