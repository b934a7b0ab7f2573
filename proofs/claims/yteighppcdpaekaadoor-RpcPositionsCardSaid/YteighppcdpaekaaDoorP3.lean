/- Walks and words of this session, put together by a program of this session (pack.py). Conditions: as each text says. -/
import Derived.Test.YteighppcdpaekaaDoorP2
set_option linter.unusedVariables false
set_option linter.unusedSimpArgs false
section
namespace Go.Proofs.YteighppcdpaekaaDoor.P
open Go.RowKit Go.Proofs.YteighppcdpaekaaDoorW.PrintWords Go.Proofs.YteighppcdpaekaaDoorW.PrintLast Go.Proofs.YteighppcdpaekaaDoorW.PrintMore
set_option linter.unusedVariables false
set_option linter.unusedSimpArgs false
def getT {S : Type} (key : ByteArray) : List ByteArray → List S → Option S
 | k :: ks, x :: xs => if k.toList = key.toList then some x else getT key ks xs
 | _, _ => none
theorem key_at0 {W : World} {A : Option Addr} {n : Nat} {ks : List ByteArray} (h : Kd.string.C W A n ks) {i : Nat} (hi : i < ks.length) : ∃ ad, A = some ad ∧ W.cell? (ad.add i) = some (.string ks[i]) := by
 obtain ⟨ad, c, e, _, hK, hc⟩ := Kd.C_get h ⟨#[]⟩ (i : Int) (by omega) (by have := h.1; omega)
 obtain rfl : c = [.string (ks.getD i ⟨#[]⟩)] := hK
 refine ⟨ad, e, ?_⟩
 have := hc 0 _ rfl
 rw [Int.toNat_natCast, show ks.getD i ⟨#[]⟩ = ks[i] by simp [hi]] at this
 simpa [Kd.string, Kd.scalar] using this
def json_Get.o (a0 : Int) (l2 : List ByteArray) (l3 : List S27) (key : ByteArray) : Option S27 := if a0 = 6 ∧ l2.length = l3.length then getT key l2 l3 else none
def json_Get.f (_ : Nat) (a0 : Int) (_ : ByteArray) (l2 : List ByteArray) (l3 : List S27) (key : ByteArray) : Option (Int × ByteArray × List ByteArray × List S27 × Bool) :=
 some (match json_Get.o a0 l2 l3 key with | some x => (x.f0, x.f1, x.f2, x.f3, true) | none => (0, ⟨#[]⟩, [], [], false))
theorem json_Get.fin {w W : World} {a0 a1 a2 a3 : Value} {B2 B3 : Option Addr} {m2 m3 : Nat} {t2 : List ByteArray} {t3 : List S27} {P : Nat → Prop} (h : Ctx [uBlk (w.heap.size + 1) [.int .i64 0, .string ⟨#[]⟩, .slice none 0 0, .slice none 0 0] 27, uBlk w.heap.size [a0, a1, a2, a3] 27, uB w] W) (z0 : Int) (z1 : ByteArray)
  (h2 : Kd.V Kd.string 9 W 0 (fun k => P k ∧ k < w.heap.size) (.slice B2 t2.length m2) t2) (h3 : Kd.V k27 27 W 0 (fun k => P k ∧ k < w.heap.size) (.slice B3 t3.length m3) t3) (wf : World) (hw : wf = (((W.setCell ⟨w.heap.size + 1, 0, none⟩ (.int .i64 z0)).setCell ⟨w.heap.size + 1, 1, none⟩ (.string z1)).setCell ⟨w.heap.size + 1, 2, none⟩ (.slice B2 t2.length m2)).setCell ⟨w.heap.size + 1, 3, none⟩ (.slice B3 t3.length m3)) :
  (Kd.V Kd.string 9 wf w.heap.size (fun k => P k ∨ w.heap.size ≤ k) (.slice B2 t2.length m2) t2 ∧ Kd.V k27 27 wf w.heap.size (fun k => P k ∨ w.heap.size ≤ k) (.slice B3 t3.length m3) t3 ∧ Below w.heap.size w wf) ∧
  wf.cell? ⟨w.heap.size + 1, 0, none⟩ = some (.int .i64 z0) ∧ wf.cell? ⟨w.heap.size + 1, 1, none⟩ = some (.string z1) ∧ wf.cell? ⟨w.heap.size + 1, 2, none⟩ = some (.slice B2 t2.length m2) ∧ wf.cell? ⟨w.heap.size + 1, 3, none⟩ = some (.slice B3 t3.length m3) := by
 subst hw
 obtain ⟨b2, b1, hB, _⟩ := h
 have hp := Ctx.put (Ctx.put (Ctx.put (Ctx.put b2 0 (.int .i64 z0)) 1 (.string z1)) 2 (.slice B2 t2.length m2)) 3 (.slice B3 t3.length m3)
 have hg := Nat.le_succ w.heap.size
 have hne : ∀ k, P k ∧ k < w.heap.size → k ≠ w.heap.size + 1 := fun k hk => by omega
 refine ⟨⟨?_, ?_, below_set (below_set (below_set (below_set hB hg) hg) hg) hg⟩, Ctx.blk hp 0 rfl, Ctx.blk hp 1 rfl, Ctx.blk hp 2 rfl, Ctx.blk hp 3 rfl⟩
 ·exact Kd.V_mono (Kd.V_far (p := ⟨w.heap.size + 1, 3, none⟩) (Kd.V_far (p := ⟨w.heap.size + 1, 2, none⟩) (Kd.V_far (p := ⟨w.heap.size + 1, 1, none⟩) (Kd.V_far (p := ⟨w.heap.size + 1, 0, none⟩) h2 hne _) hne _) hne _) hne _) (fun k hk => .inl hk.1)
 ·exact Kd.V_mono (Kd.V_far (p := ⟨w.heap.size + 1, 3, none⟩) (Kd.V_far (p := ⟨w.heap.size + 1, 2, none⟩) (Kd.V_far (p := ⟨w.heap.size + 1, 1, none⟩) (Kd.V_far (p := ⟨w.heap.size + 1, 0, none⟩) h3 hne _) hne _) hne _) hne _) (fun k hk => .inl hk.1)
set_option maxRecDepth 100000 in
set_option maxHeartbeats 6400000 in
theorem json_Get.calls (k : Nat) (a0 : Int) (a1 : ByteArray) (A2 : Option Addr) (c2 : Nat) (l2 : List ByteArray) (P : Nat → Prop) (A3 : Option Addr) (c3 : Nat) (l3 : List S27) (key : ByteArray) (r1 : Int) (r2 : ByteArray) (r3 : List ByteArray) (r4 : List S27) (r5 : Bool) (w : World) (h2 : Kd.C Kd.string w A2 l2.length l2) (_ : l2.length ≤ c2) (h3 : Kd.V k27 27 w w.heap.size (fun k => P k) (.slice A3 l3.length c3) l3) (h : json_Get.f k a0 a1 l2 l3 key = some (r1, r2, r3, r4, r5)) :
  Calls Tryd.prog 26 #[.agg #[.int .i64 a0, .string a1, .slice A2 l2.length c2, .slice A3 l3.length c3], .string key] w fun e w' => ∃ v2 v3 : Value, e = .returned (.tuple #[.agg #[.int .i64 r1, .string r2, v2, v3], .bool r5]) ∧ Kd.V Kd.string 9 w' w.heap.size (fun k => P k ∨ w.heap.size ≤ k) v2 r3 ∧ Kd.V k27 27 w' w.heap.size (fun k => P k ∨ w.heap.size ≤ k) v3 r4 ∧ Below w.heap.size w w' := by
 have H := Aside0.mk (Option.some.inj h)
 have H2 := Aside0.mk h2
 have H3 := Aside0.mk (show Kd.V k27 27 w 0 (fun k => P k ∧ k < w.heap.size) _ _ from Kd.V_bound h3)
 have N2 : Aside0 (l2.length ≤ 9223372036854775807) := Aside0.mk h2.2.1
 have hl3 : (l3.length : Int) ≤ 9223372036854775807 := by have := (Kd.V_reads' h3).2.2.2.1; omega
 have K := Aside0.mk (show Ctx [uBlk (w.heap.size + 1) [.int .i64 0, .string ⟨#[]⟩, .slice none 0 0, .slice none 0 0] 27, uBlk w.heap.size [.int .i64 a0, .string a1, .slice A2 l2.length c2, .slice A3 l3.length c3] 27, uB w] ((w.alloc (.cells #[.int .i64 a0, .string a1, .slice A2 l2.length c2, .slice A3 l3.length c3] 27 (0, 0))).alloc (.cells #[.int .i64 0, .string ⟨#[]⟩, .slice none 0 0, .slice none 0 0] 27 (0, 0))) from by
  have e := Ctx.new (cs := [.int .i64 0, .string ⟨#[]⟩, .slice none 0 0, .slice none 0 0]) (t := 27) (Ctx.new (cs := [.int .i64 a0, .string a1, .slice A2 l2.length c2, .slice A3 l3.length c3]) (t := 27) (Ctx.cons (uB w) (Below.refl _ _) (Ctx.nil)))
  simpa using e)
 clear h h2 h3
 go_enter Tryd.func26, Tryd.ntmps26
 go_upto_region 1 with fail
 refine absW _ K.out ?_
 clear K
 intro w1 K
 have K := Aside0.mk K
 obtain ⟨y0, y1, y2, y3⟩ : w1.cell? ⟨w.heap.size + 1, 0, none⟩ = some (.int .i64 0) ∧ w1.cell? ⟨w.heap.size + 1, 1, none⟩ = some (.string ⟨#[]⟩) ∧ w1.cell? ⟨w.heap.size + 1, 2, none⟩ = some (.slice none 0 0) ∧ w1.cell? ⟨w.heap.size + 1, 3, none⟩ = some (.slice none 0 0) := ⟨Ctx.blk K.out.1 0 rfl, Ctx.blk K.out.1 1 rfl, Ctx.blk K.out.1 2 rfl, Ctx.blk K.out.1 3 rfl⟩
 obtain ⟨x0, x2, x3⟩ : w1.cell? ⟨w.heap.size, 0, none⟩ = some (.int .i64 a0) ∧ w1.cell? ⟨w.heap.size, 2, none⟩ = some (.slice A2 l2.length c2) ∧ w1.cell? ⟨w.heap.size, 3, none⟩ = some (.slice A3 l3.length c3) := ⟨Ctx.blk K.out.2.1 0 rfl, Ctx.blk K.out.2.1 2 rfl, Ctx.blk K.out.2.1 3 rfl⟩
 have f0 := Ctx.frz K.out.1 0
 have f1 := Ctx.frz K.out.1 1
 have f2 := Ctx.frz K.out.1 2
 have f3 := Ctx.frz K.out.1 3
 have H2 := Aside0.mk (Kd.C_below H2.out K.out.2.2.1)
 have H3 := Aside0.mk (Kd.V_below H3.out K.out.2.2.1)
 have NO := json_Get.fin (t2 := []) (t3 := []) (B2 := none) (B3 := none) (m2 := 0) (m3 := 0) (P := P) K.out 0 ⟨#[]⟩ (Kd.V_nil _ _ _ _ _) (Kd.V_nil _ _ _ _ _) _ rfl
 simp only [List.length_nil] at NO
 have NO := Aside0.mk NO
 have none_ : ∀ (hg : json_Get.o a0 l2 l3 key = none), Aside0 ((0, ⟨#[]⟩, [], [], false) = (r1, r2, r3, r4, r5)) := fun hg => by
  have := H.out
  rw [hg] at this
  exact ⟨this⟩
 by_cases h6 : a0 = 6
 case neg =>
  have no := none_ (by unfold json_Get.o; rw [if_neg (fun h => h6 h.1)])
  clear none_ H
  go_wp2_with fail
  have F := NO.out
  clear NO x0 x2 x3 y0 y1 y2 y3 f0 f1 f2 f3 K H2 H3
  generalize World.setCell _ _ _ = wf at F ⊢
  obtain ⟨⟨V2, V3, fb⟩, e0, e1, e2, e3⟩ := F
  obtain ⟨rfl, rfl, rfl, rfl, rfl⟩ := (by simpa using no.out : 0 = r1 ∧ ⟨#[]⟩ = r2 ∧ [] = r3 ∧ [] = r4 ∧ false = r5)
  exact bodyPost_ret (v := .tuple #[.agg #[.int .i64 0, .string ⟨#[]⟩, .slice none 0 0, .slice none 0 0], .bool false]) (by simp [results, Tryd.results26, go_sem, e0, e1, e2, e3]) rfl ⟨_, _, rfl, V2, V3, fb⟩
 subst h6
 by_cases hll : l2.length = l3.length
 case neg =>
  have no := none_ (by unfold json_Get.o; rw [if_neg (fun h => hll h.2)])
  clear none_ H
  have hll' : ¬ (l2.length : Int) = (l3.length : Int) := by omega
  go_wp2_with fail
  have F := NO.out
  clear NO x0 x2 x3 y0 y1 y2 y3 f0 f1 f2 f3 K H2 H3
  generalize World.setCell _ _ _ = wf at F ⊢
  obtain ⟨⟨V2, V3, fb⟩, e0, e1, e2, e3⟩ := F
  obtain ⟨rfl, rfl, rfl, rfl, rfl⟩ := (by simpa using no.out : 0 = r1 ∧ ⟨#[]⟩ = r2 ∧ [] = r3 ∧ [] = r4 ∧ false = r5)
  exact bodyPost_ret (v := .tuple #[.agg #[.int .i64 0, .string ⟨#[]⟩, .slice none 0 0, .slice none 0 0], .bool false]) (by simp [results, Tryd.results26, go_sem, e0, e1, e2, e3]) rfl ⟨_, _, rfl, V2, V3, fb⟩
 have hll' : (l2.length : Int) = (l3.length : Int) := by omega
 have none_ : ∀ (hg : getT key l2 l3 = none), Aside0 ((0, ⟨#[]⟩, [], [], false) = (r1, r2, r3, r4, r5)) := fun hg => none_ (by unfold json_Get.o; rw [if_pos ⟨rfl, hll⟩]; exact hg)
 have some_ : ∀ x (hg : getT key l2 l3 = some x), Aside0 ((x.f0, x.f1, x.f2, x.f3, true) = (r1, r2, r3, r4, r5)) := fun x hg => by
  have := H.out
  rw [show json_Get.o 6 l2 l3 key = some x by unfold json_Get.o; rw [if_pos ⟨rfl, hll⟩]; exact hg] at this
  exact ⟨this⟩
 have none_ := Aside0.mk none_
 have some_ := Aside0.mk some_
 clear H
 have HL := Aside0.mk hll
 clear hll
 go_wp2_with fail
 go_loopg [23] l2.length (fun kq s4 wc => ∃ i : Nat, s4 = .int .i64 (i : Int) ∧ kq + i = l2.length ∧ Aside0 (getT key l2 l3 = getT key (l2.drop i) (l3.drop i)) ∧ wc = w1)
 case atStart => exact ⟨0, rfl, by omega, ⟨rfl⟩, rfl⟩
 case round =>
  obtain ⟨i, rfl, hi, HG, rfl⟩ := hrel
  cases gk with
  | zero =>
   have hg := HG.out
   rw [show l2.drop i = [] from List.drop_eq_nil_of_le (by omega)] at hg
   have no := none_.out hg
   clear none_ some_ hg HG
   go_wp2_with fail
   have F := NO.out
   clear NO x0 x2 x3 y0 y1 y2 y3 f0 f1 f2 f3 K H2 H3
   generalize World.setCell _ _ _ = wf at F ⊢
   obtain ⟨⟨V2, V3, fb⟩, e0, e1, e2, e3⟩ := F
   obtain ⟨rfl, rfl, rfl, rfl, rfl⟩ := (by simpa using no.out : 0 = r1 ∧ ⟨#[]⟩ = r2 ∧ [] = r3 ∧ [] = r4 ∧ false = r5)
   exact bodyPost_ret (v := .tuple #[.agg #[.int .i64 0, .string ⟨#[]⟩, .slice none 0 0, .slice none 0 0], .bool false]) (by simp [results, Tryd.results26, go_sem, e0, e1, e2, e3]) rfl ⟨_, _, rfl, V2, V3, fb⟩
  | succ gk =>
   have hlt : i < l2.length := by omega
   have hlt3 : i < l3.length := by have := HL.out; omega
   have hiz : (i : Int) < (l2.length : Int) := by omega
   have hiz3 : (i : Int) < (l3.length : Int) := by omega
   have hw1 : wrap64 ((i : Int) + 1) = ((i + 1 : Nat) : Int) := by have := N2.out; unfold wrap64; omega
   obtain ⟨ad, hA, hkey⟩ := key_at0 H2.out hlt
   subst hA
   have hg := HG.out
   clear HG
   rw [List.drop_eq_getElem_cons hlt, List.drop_eq_getElem_cons hlt3, getT] at hg
   by_cases hc : (l2[i]).toList = key.toList
   ·rw [if_pos hc] at hg
    have hcb : ((l2[i]).toList == key.toList) = true := beq_iff_eq.2 hc
    have yes := some_.out _ hg
    clear none_ some_ hg
    have q0 : (0 : Int) ≤ (i : Int) := by omega
    obtain ⟨ad3, B2, d2, B3, d3, rfl, g0, g1, g2, g3, -, -, -, -⟩ := at_T27 (Kd.V_reads' H3.out).2.2 (i : Int) q0 hiz3
    obtain ⟨ce, -, hF, hcc⟩ := Kd.V_get H3.out z27 (i : Int) q0 hiz3
    obtain ⟨C2, e2, C3, e3, rfl, k2, F2, k3, F3⟩ := k27_openF hF
    have j2 := hcc 2 _ rfl
    have j3 := hcc 3 _ rfl
    rw [add_field _ _ 2 (by omega)] at j2
    rw [add_field _ _ 3 (by omega)] at j3
    injection Option.some.inj (j2.symm.trans g2) with p1 _ p2
    injection Option.some.inj (j3.symm.trans g3) with p3 _ p4
    subst p1 p2 p3 p4
    clear hcc j2 j3 hF
    have hx : rd_T27 l3 (i : Int) = l3[i] := by simp [rd_T27, hlt3]
    rw [show l3.getD (i : Int).toNat z27 = l3[i] by simp [hlt3]] at k2 F2 k3 F3
    rw [hx, Int.toNat_natCast] at g0 g1 g2 g3
    have FIN := Aside0.mk (json_Get.fin K.out (l3[i]).f0 (l3[i]).f1 (Kd.V_mk k2 F2) (Kd.V_mk k3 F3) _ rfl)
    generalize l3[i] = x at yes k2 F2 k3 F3 g0 g1 g2 g3 FIN
    clear hx k2 F2 k3 F3 hw1 NO
    go_wp2_with fail
    have F := FIN.out
    clear FIN x0 x2 x3 y0 y1 y2 y3 f0 f1 f2 f3 g0 g1 g2 g3 K H2 H3 hkey
    generalize World.setCell _ _ _ = wf at F ⊢
    obtain ⟨⟨V2, V3, fb⟩, e0, e1, e2, e3⟩ := F
    obtain ⟨rfl, rfl, rfl, rfl, rfl⟩ := (by simpa using yes.out : x.f0 = r1 ∧ x.f1 = r2 ∧ x.f2 = r3 ∧ x.f3 = r4 ∧ true = r5)
    exact bodyPost_ret (v := .tuple #[.agg #[.int .i64 x.f0, .string x.f1, .slice _ x.f2.length _, .slice _ x.f3.length _], .bool true]) (by simp [results, Tryd.results26, go_sem, e0, e1, e2, e3]) rfl ⟨_, _, rfl, V2, V3, fb⟩
   ·rw [if_neg hc] at hg
    have hcb : ((l2[i]).toList == key.toList) = false := beq_eq_false_iff_ne.2 hc
    have HG := Aside0.mk hg
    clear hg
    go_wp2_with fail
    go_roundg gk
    case measure => omega
    exact ⟨i + 1, by simp, by omega, HG, rfl⟩
def r4_Get.o (a0 : Int) (l2 : List ByteArray) (l3 : List S44) (key : ByteArray) : Option S44 := if a0 = 6 ∧ l2.length = l3.length then getT key l2 l3 else none
def r4_Get.f (_ : Nat) (a0 : Int) (_ : ByteArray) (l2 : List ByteArray) (l3 : List S44) (key : ByteArray) : Option (Int × ByteArray × List ByteArray × List S44 × Bool) :=
 some (match r4_Get.o a0 l2 l3 key with | some x => (x.f0, x.f1, x.f2, x.f3, true) | none => (0, ⟨#[]⟩, [], [], false))
theorem r4_Get.fin {w W : World} {a0 a1 a2 a3 : Value} {B2 B3 : Option Addr} {m2 m3 : Nat} {t2 : List ByteArray} {t3 : List S44} {P : Nat → Prop} (h : Ctx [uBlk (w.heap.size + 1) [.int .i64 0, .string ⟨#[]⟩, .slice none 0 0, .slice none 0 0] 44, uBlk w.heap.size [a0, a1, a2, a3] 44, uB w] W) (z0 : Int) (z1 : ByteArray)
  (h2 : Kd.V Kd.string 9 W 0 (fun k => P k ∧ k < w.heap.size) (.slice B2 t2.length m2) t2) (h3 : Kd.V k44 44 W 0 (fun k => P k ∧ k < w.heap.size) (.slice B3 t3.length m3) t3) (wf : World) (hw : wf = (((W.setCell ⟨w.heap.size + 1, 0, none⟩ (.int .i64 z0)).setCell ⟨w.heap.size + 1, 1, none⟩ (.string z1)).setCell ⟨w.heap.size + 1, 2, none⟩ (.slice B2 t2.length m2)).setCell ⟨w.heap.size + 1, 3, none⟩ (.slice B3 t3.length m3)) :
  (Kd.V Kd.string 9 wf w.heap.size (fun k => P k ∨ w.heap.size ≤ k) (.slice B2 t2.length m2) t2 ∧ Kd.V k44 44 wf w.heap.size (fun k => P k ∨ w.heap.size ≤ k) (.slice B3 t3.length m3) t3 ∧ Below w.heap.size w wf) ∧
  wf.cell? ⟨w.heap.size + 1, 0, none⟩ = some (.int .i64 z0) ∧ wf.cell? ⟨w.heap.size + 1, 1, none⟩ = some (.string z1) ∧ wf.cell? ⟨w.heap.size + 1, 2, none⟩ = some (.slice B2 t2.length m2) ∧ wf.cell? ⟨w.heap.size + 1, 3, none⟩ = some (.slice B3 t3.length m3) := by
 subst hw
 obtain ⟨b2, b1, hB, _⟩ := h
 have hp := Ctx.put (Ctx.put (Ctx.put (Ctx.put b2 0 (.int .i64 z0)) 1 (.string z1)) 2 (.slice B2 t2.length m2)) 3 (.slice B3 t3.length m3)
 have hg := Nat.le_succ w.heap.size
 have hne : ∀ k, P k ∧ k < w.heap.size → k ≠ w.heap.size + 1 := fun k hk => by omega
 refine ⟨⟨?_, ?_, below_set (below_set (below_set (below_set hB hg) hg) hg) hg⟩, Ctx.blk hp 0 rfl, Ctx.blk hp 1 rfl, Ctx.blk hp 2 rfl, Ctx.blk hp 3 rfl⟩
 ·exact Kd.V_mono (Kd.V_far (p := ⟨w.heap.size + 1, 3, none⟩) (Kd.V_far (p := ⟨w.heap.size + 1, 2, none⟩) (Kd.V_far (p := ⟨w.heap.size + 1, 1, none⟩) (Kd.V_far (p := ⟨w.heap.size + 1, 0, none⟩) h2 hne _) hne _) hne _) hne _) (fun k hk => .inl hk.1)
 ·exact Kd.V_mono (Kd.V_far (p := ⟨w.heap.size + 1, 3, none⟩) (Kd.V_far (p := ⟨w.heap.size + 1, 2, none⟩) (Kd.V_far (p := ⟨w.heap.size + 1, 1, none⟩) (Kd.V_far (p := ⟨w.heap.size + 1, 0, none⟩) h3 hne _) hne _) hne _) hne _) (fun k hk => .inl hk.1)
set_option maxRecDepth 100000 in
set_option maxHeartbeats 6400000 in
theorem r4_Get.calls (k : Nat) (a0 : Int) (a1 : ByteArray) (A2 : Option Addr) (c2 : Nat) (l2 : List ByteArray) (P : Nat → Prop) (A3 : Option Addr) (c3 : Nat) (l3 : List S44) (key : ByteArray) (r1 : Int) (r2 : ByteArray) (r3 : List ByteArray) (r4 : List S44) (r5 : Bool) (w : World) (h2 : Kd.C Kd.string w A2 l2.length l2) (_ : l2.length ≤ c2) (h3 : Kd.V k44 44 w w.heap.size (fun k => P k) (.slice A3 l3.length c3) l3) (h : r4_Get.f k a0 a1 l2 l3 key = some (r1, r2, r3, r4, r5)) :
  Calls Tryd.prog 27 #[.agg #[.int .i64 a0, .string a1, .slice A2 l2.length c2, .slice A3 l3.length c3], .string key] w fun e w' => ∃ v2 v3 : Value, e = .returned (.tuple #[.agg #[.int .i64 r1, .string r2, v2, v3], .bool r5]) ∧ Kd.V Kd.string 9 w' w.heap.size (fun k => P k ∨ w.heap.size ≤ k) v2 r3 ∧ Kd.V k44 44 w' w.heap.size (fun k => P k ∨ w.heap.size ≤ k) v3 r4 ∧ Below w.heap.size w w' := by
 have H := Aside0.mk (Option.some.inj h)
 have H2 := Aside0.mk h2
 have H3 := Aside0.mk (show Kd.V k44 44 w 0 (fun k => P k ∧ k < w.heap.size) _ _ from Kd.V_bound h3)
 have N2 : Aside0 (l2.length ≤ 9223372036854775807) := Aside0.mk h2.2.1
 have hl3 : (l3.length : Int) ≤ 9223372036854775807 := by have := (Kd.V_reads' h3).2.2.2.1; omega
 have K := Aside0.mk (show Ctx [uBlk (w.heap.size + 1) [.int .i64 0, .string ⟨#[]⟩, .slice none 0 0, .slice none 0 0] 44, uBlk w.heap.size [.int .i64 a0, .string a1, .slice A2 l2.length c2, .slice A3 l3.length c3] 44, uB w] ((w.alloc (.cells #[.int .i64 a0, .string a1, .slice A2 l2.length c2, .slice A3 l3.length c3] 44 (0, 0))).alloc (.cells #[.int .i64 0, .string ⟨#[]⟩, .slice none 0 0, .slice none 0 0] 44 (0, 0))) from by
  have e := Ctx.new (cs := [.int .i64 0, .string ⟨#[]⟩, .slice none 0 0, .slice none 0 0]) (t := 44) (Ctx.new (cs := [.int .i64 a0, .string a1, .slice A2 l2.length c2, .slice A3 l3.length c3]) (t := 44) (Ctx.cons (uB w) (Below.refl _ _) (Ctx.nil)))
  simpa using e)
 clear h h2 h3
 go_enter Tryd.func27, Tryd.ntmps27
 go_upto_region 1 with fail
 refine absW _ K.out ?_
 clear K
 intro w1 K
 have K := Aside0.mk K
 obtain ⟨y0, y1, y2, y3⟩ : w1.cell? ⟨w.heap.size + 1, 0, none⟩ = some (.int .i64 0) ∧ w1.cell? ⟨w.heap.size + 1, 1, none⟩ = some (.string ⟨#[]⟩) ∧ w1.cell? ⟨w.heap.size + 1, 2, none⟩ = some (.slice none 0 0) ∧ w1.cell? ⟨w.heap.size + 1, 3, none⟩ = some (.slice none 0 0) := ⟨Ctx.blk K.out.1 0 rfl, Ctx.blk K.out.1 1 rfl, Ctx.blk K.out.1 2 rfl, Ctx.blk K.out.1 3 rfl⟩
 obtain ⟨x0, x2, x3⟩ : w1.cell? ⟨w.heap.size, 0, none⟩ = some (.int .i64 a0) ∧ w1.cell? ⟨w.heap.size, 2, none⟩ = some (.slice A2 l2.length c2) ∧ w1.cell? ⟨w.heap.size, 3, none⟩ = some (.slice A3 l3.length c3) := ⟨Ctx.blk K.out.2.1 0 rfl, Ctx.blk K.out.2.1 2 rfl, Ctx.blk K.out.2.1 3 rfl⟩
 have f0 := Ctx.frz K.out.1 0
 have f1 := Ctx.frz K.out.1 1
 have f2 := Ctx.frz K.out.1 2
 have f3 := Ctx.frz K.out.1 3
 have H2 := Aside0.mk (Kd.C_below H2.out K.out.2.2.1)
 have H3 := Aside0.mk (Kd.V_below H3.out K.out.2.2.1)
 have NO := r4_Get.fin (t2 := []) (t3 := []) (B2 := none) (B3 := none) (m2 := 0) (m3 := 0) (P := P) K.out 0 ⟨#[]⟩ (Kd.V_nil _ _ _ _ _) (Kd.V_nil _ _ _ _ _) _ rfl
 simp only [List.length_nil] at NO
 have NO := Aside0.mk NO
 have none_ : ∀ (hg : r4_Get.o a0 l2 l3 key = none), Aside0 ((0, ⟨#[]⟩, [], [], false) = (r1, r2, r3, r4, r5)) := fun hg => by
  have := H.out
  rw [hg] at this
  exact ⟨this⟩
 by_cases h6 : a0 = 6
 case neg =>
  have no := none_ (by unfold r4_Get.o; rw [if_neg (fun h => h6 h.1)])
  clear none_ H
  go_wp2_with fail
  have F := NO.out
  clear NO x0 x2 x3 y0 y1 y2 y3 f0 f1 f2 f3 K H2 H3
  generalize World.setCell _ _ _ = wf at F ⊢
  obtain ⟨⟨V2, V3, fb⟩, e0, e1, e2, e3⟩ := F
  obtain ⟨rfl, rfl, rfl, rfl, rfl⟩ := (by simpa using no.out : 0 = r1 ∧ ⟨#[]⟩ = r2 ∧ [] = r3 ∧ [] = r4 ∧ false = r5)
  exact bodyPost_ret (v := .tuple #[.agg #[.int .i64 0, .string ⟨#[]⟩, .slice none 0 0, .slice none 0 0], .bool false]) (by simp [results, Tryd.results27, go_sem, e0, e1, e2, e3]) rfl ⟨_, _, rfl, V2, V3, fb⟩
 subst h6
 by_cases hll : l2.length = l3.length
 case neg =>
  have no := none_ (by unfold r4_Get.o; rw [if_neg (fun h => hll h.2)])
  clear none_ H
  have hll' : ¬ (l2.length : Int) = (l3.length : Int) := by omega
  go_wp2_with fail
  have F := NO.out
  clear NO x0 x2 x3 y0 y1 y2 y3 f0 f1 f2 f3 K H2 H3
  generalize World.setCell _ _ _ = wf at F ⊢
  obtain ⟨⟨V2, V3, fb⟩, e0, e1, e2, e3⟩ := F
  obtain ⟨rfl, rfl, rfl, rfl, rfl⟩ := (by simpa using no.out : 0 = r1 ∧ ⟨#[]⟩ = r2 ∧ [] = r3 ∧ [] = r4 ∧ false = r5)
  exact bodyPost_ret (v := .tuple #[.agg #[.int .i64 0, .string ⟨#[]⟩, .slice none 0 0, .slice none 0 0], .bool false]) (by simp [results, Tryd.results27, go_sem, e0, e1, e2, e3]) rfl ⟨_, _, rfl, V2, V3, fb⟩
 have hll' : (l2.length : Int) = (l3.length : Int) := by omega
 have none_ : ∀ (hg : getT key l2 l3 = none), Aside0 ((0, ⟨#[]⟩, [], [], false) = (r1, r2, r3, r4, r5)) := fun hg => none_ (by unfold r4_Get.o; rw [if_pos ⟨rfl, hll⟩]; exact hg)
 have some_ : ∀ x (hg : getT key l2 l3 = some x), Aside0 ((x.f0, x.f1, x.f2, x.f3, true) = (r1, r2, r3, r4, r5)) := fun x hg => by
  have := H.out
  rw [show r4_Get.o 6 l2 l3 key = some x by unfold r4_Get.o; rw [if_pos ⟨rfl, hll⟩]; exact hg] at this
  exact ⟨this⟩
 have none_ := Aside0.mk none_
 have some_ := Aside0.mk some_
 clear H
 have HL := Aside0.mk hll
 clear hll
 go_wp2_with fail
 go_loopg [6] l2.length (fun kq s4 wc => ∃ i : Nat, s4 = .int .i64 (i : Int) ∧ kq + i = l2.length ∧ Aside0 (getT key l2 l3 = getT key (l2.drop i) (l3.drop i)) ∧ wc = w1)
 case atStart => exact ⟨0, rfl, by omega, ⟨rfl⟩, rfl⟩
 case round =>
  obtain ⟨i, rfl, hi, HG, rfl⟩ := hrel
  cases gk with
  | zero =>
   have hg := HG.out
   rw [show l2.drop i = [] from List.drop_eq_nil_of_le (by omega)] at hg
   have no := none_.out hg
   clear none_ some_ hg HG
   go_wp2_with fail
   have F := NO.out
   clear NO x0 x2 x3 y0 y1 y2 y3 f0 f1 f2 f3 K H2 H3
   generalize World.setCell _ _ _ = wf at F ⊢
   obtain ⟨⟨V2, V3, fb⟩, e0, e1, e2, e3⟩ := F
   obtain ⟨rfl, rfl, rfl, rfl, rfl⟩ := (by simpa using no.out : 0 = r1 ∧ ⟨#[]⟩ = r2 ∧ [] = r3 ∧ [] = r4 ∧ false = r5)
   exact bodyPost_ret (v := .tuple #[.agg #[.int .i64 0, .string ⟨#[]⟩, .slice none 0 0, .slice none 0 0], .bool false]) (by simp [results, Tryd.results27, go_sem, e0, e1, e2, e3]) rfl ⟨_, _, rfl, V2, V3, fb⟩
  | succ gk =>
   have hlt : i < l2.length := by omega
   have hlt3 : i < l3.length := by have := HL.out; omega
   have hiz : (i : Int) < (l2.length : Int) := by omega
   have hiz3 : (i : Int) < (l3.length : Int) := by omega
   have hw1 : wrap64 ((i : Int) + 1) = ((i + 1 : Nat) : Int) := by have := N2.out; unfold wrap64; omega
   obtain ⟨ad, hA, hkey⟩ := key_at0 H2.out hlt
   subst hA
   have hg := HG.out
   clear HG
   rw [List.drop_eq_getElem_cons hlt, List.drop_eq_getElem_cons hlt3, getT] at hg
   by_cases hc : (l2[i]).toList = key.toList
   ·rw [if_pos hc] at hg
    have hcb : ((l2[i]).toList == key.toList) = true := beq_iff_eq.2 hc
    have yes := some_.out _ hg
    clear none_ some_ hg
    have q0 : (0 : Int) ≤ (i : Int) := by omega
    obtain ⟨ad3, B2, d2, B3, d3, rfl, g0, g1, g2, g3, -, -, -, -⟩ := at_T44 (Kd.V_reads' H3.out).2.2 (i : Int) q0 hiz3
    obtain ⟨ce, -, hF, hcc⟩ := Kd.V_get H3.out z44 (i : Int) q0 hiz3
    obtain ⟨C2, e2, C3, e3, rfl, k2, F2, k3, F3⟩ := k44_openF hF
    have j2 := hcc 2 _ rfl
    have j3 := hcc 3 _ rfl
    rw [add_field _ _ 2 (by omega)] at j2
    rw [add_field _ _ 3 (by omega)] at j3
    injection Option.some.inj (j2.symm.trans g2) with p1 _ p2
    injection Option.some.inj (j3.symm.trans g3) with p3 _ p4
    subst p1 p2 p3 p4
    clear hcc j2 j3 hF
    have hx : rd_T44 l3 (i : Int) = l3[i] := by simp [rd_T44, hlt3]
    rw [show l3.getD (i : Int).toNat z44 = l3[i] by simp [hlt3]] at k2 F2 k3 F3
    rw [hx, Int.toNat_natCast] at g0 g1 g2 g3
    have FIN := Aside0.mk (r4_Get.fin K.out (l3[i]).f0 (l3[i]).f1 (Kd.V_mk k2 F2) (Kd.V_mk k3 F3) _ rfl)
    generalize l3[i] = x at yes k2 F2 k3 F3 g0 g1 g2 g3 FIN
    clear hx k2 F2 k3 F3 hw1 NO
    go_wp2_with fail
    have F := FIN.out
    clear FIN x0 x2 x3 y0 y1 y2 y3 f0 f1 f2 f3 g0 g1 g2 g3 K H2 H3 hkey
    generalize World.setCell _ _ _ = wf at F ⊢
    obtain ⟨⟨V2, V3, fb⟩, e0, e1, e2, e3⟩ := F
    obtain ⟨rfl, rfl, rfl, rfl, rfl⟩ := (by simpa using yes.out : x.f0 = r1 ∧ x.f1 = r2 ∧ x.f2 = r3 ∧ x.f3 = r4 ∧ true = r5)
    exact bodyPost_ret (v := .tuple #[.agg #[.int .i64 x.f0, .string x.f1, .slice _ x.f2.length _, .slice _ x.f3.length _], .bool true]) (by simp [results, Tryd.results27, go_sem, e0, e1, e2, e3]) rfl ⟨_, _, rfl, V2, V3, fb⟩
   ·rw [if_neg hc] at hg
    have hcb : ((l2[i]).toList == key.toList) = false := beq_eq_false_iff_ne.2 hc
    have HG := Aside0.mk hg
    clear hg
    go_wp2_with fail
    go_roundg gk
    case measure => omega
    exact ⟨i + 1, by simp, by omega, HG, rfl⟩
end Go.Proofs.YteighppcdpaekaaDoor.P
end
section
namespace Go.Proofs.YteighppcdpaekaaDoor.P
open Go.RowKit Go.Proofs.YteighppcdpaekaaDoorW.PrintWords Go.Proofs.YteighppcdpaekaaDoorW.PrintLast Go.Proofs.YteighppcdpaekaaDoorW.PrintMore
attribute [local go_sem] max2_int min2_int max_two min_two max_three min_three max_four min_four
set_option linter.unusedVariables false
set_option linter.unusedSimpArgs false
mutual
def r4_Int.j0 : Nat → ByteArray → Bool → Option (Int × Bool)
 | 0, _, _ => none
 | k + 1, x4, x5 => if x5 = true then (if 1 ≤ (x4.size : Int) then (r4_Int.j1 k (x4.extract 1 x4.size) x5) else (none)) else (r4_Int.j1 k x4 x5)
def r4_Int.j1 : Nat → ByteArray → Bool → Option (Int × Bool)
 | 0, _, _ => none
 | k + 1, x4, x5 => if (x4.size : Int) < 1 then (r4_Int.j2 k x4 x5 true) else (if (x4.size : Int) > 9 then (r4_Int.j2 k x4 x5 true) else (if 0 < (x4.size : Int) then (if (bt x4 0) = 48 then (if (x4.size : Int) > 1 then (r4_Int.j2 k x4 x5 true) else (r4_Int.j2 k x4 x5 x5)) else (r4_Int.j2 k x4 x5 false)) else (none)))
def r4_Int.j2 : Nat → ByteArray → Bool → Bool → Option (Int × Bool)
 | 0, _, _, _ => none
 | k + 1, x4, x5, x44 => if x44 = true then (some (0, false)) else (r4_Int.l0 k x4 x5 0 0)
def r4_Int.l0 : Nat → ByteArray → Bool → Int → Int → Option (Int × Bool)
 | 0, _, _, _, _ => none
 | k + 1, x4, x5, x6, x7 => if x7 < (x4.size : Int) then (if 0 ≤ x7 then (if (bt x4 x7) < 48 then (some (0, false)) else (if (bt x4 x7) > 57 then (some (0, false)) else (r4_Int.l0 k x4 x5 (wrap64 ((wrap64 (x6 * 10)) + (((bt x4 x7) - 48) % 256))) (wrap64 (x7 + 1))))) else (none)) else (if x5 = true then (some (wrap64 (-x6), true)) else (some (x6, true)))
end
def r4_Int.f (k : Nat) (a0_0 : Int) (a0_1 : ByteArray) (l0_2 : List ByteArray) (l0_3 : List (S44)) : Option (Int × Bool) := if a0_0 = 3 then (if (a0_1.size : Int) > 0 then (if 0 < (a0_1.size : Int) then (r4_Int.j0 k a0_1 ((bt a0_1 0) == 45)) else (none)) else (r4_Int.j0 k a0_1 false)) else (some (0, false))
set_option maxHeartbeats 8000000 in
set_option maxRecDepth 100000 in
theorem r4_Int.calls (k : Nat) (a0_0 : Int) (a0_1 : ByteArray) (A0_2 : Option Addr) (c0_2 : Nat) (l0_2 : List ByteArray) (A0_3 : Option Addr) (c0_3 : Nat) (l0_3 : List (S44)) (r1 : Int) (r2 : Bool) (w : World) (hr0_2 : Kd.C Kd.string w A0_2 l0_2.length l0_2) (hc0_2 : l0_2.length ≤ c0_2) (hr0_3 : Kd.C k44 w A0_3 l0_3.length l0_3) (hc0_3 : l0_3.length ≤ c0_3) (h : r4_Int.f k a0_0 a0_1 l0_2 l0_3 = some (r1, r2)) :
  Calls Tryd.prog 30 #[.agg #[.int .i64 a0_0, .string a0_1, .slice A0_2 l0_2.length c0_2, .slice A0_3 l0_3.length c0_3]] w fun e w' => e = .returned (.tuple #[.int .i64 r1, .bool r2]) ∧ Below w.heap.size w w' := by
 have hu44 := Tryd.underlying44
 have HR0_2 := Aside0.mk hr0_2
 have HC0_2 := Aside0.mk hc0_2
 clear hr0_2 hc0_2
 have HR0_3 := Aside0.mk hr0_3
 have HC0_3 := Aside0.mk hc0_3
 clear hr0_3 hc0_3
 have HB := Aside0.mk (Below.refl w.heap.size w)
 have H : (if a0_0 = 3 then (if (a0_1.size : Int) > 0 then (if 0 < (a0_1.size : Int) then (r4_Int.j0 k a0_1 ((bt a0_1 0) == 45)) else (none)) else (r4_Int.j0 k a0_1 false)) else (some (0, false))) = some (r1, r2) := h
 clear h
 by_cases c2 : a0_0 = 3
 ·rw [if_pos c2] at H
  have c2b0 : (a0_0 == 3) = true := beq_iff_eq.mpr c2
  have c2b1 : (a0_0 != 3) = false := bne_eq_false_iff_eq.mpr c2
  clear c2
  have HC3 := Aside0.mk H
  clear H
  go_enter Tryd.func30, Tryd.ntmps30
  go_upto_region 4 with (first | ((with_reducible refine gate_dst (N := 1) rfl ?_); (try (refine gate_guard (by rfl) ?_; dsimp only)); refine box_event ?hg (N := 1) ?hd (cs := #[.int .i64 a0_0, .string a0_1, .slice A0_2 l0_2.length c0_2, .slice A0_3 l0_3.length c0_3]) (t := 44) ?hr ?_; (case hd => rfl); (case hg => rfl); (case hr => first | (go_simp; done) | (go_simp; rfl)); intro gb270 hg w4 hbox hb; have n0_ := Aside0.mk (below_step (by repeat (first | (with_reducible first | exact HB.out | apply bal | apply pbdN | apply bdr1) | exact HB.out)) hb); have n1_ := Aside0.mk (hbox); have n2_ := Aside0.mk ((by rw [hg]; exact (below_size (by repeat (first | (with_reducible first | exact HB.out | apply bal | apply pbdN | apply bdr1) | exact HB.out))) : w.heap.size ≤ gb270)); have n3_ := Aside0.mk ((by rw [hg]; exact (below_size (by repeat (first | (with_reducible first | exact HB.out | apply bal | apply pbdN | apply bdr1) | exact HB.out))) : w.heap.size ≤ gb270)); clear HB; have HB := n0_; have BK270 := n1_; have GW270 := n2_; have GE270 := n3_; clear n0_ n1_ n2_ n3_; clear hb hbox hg; have hcz5_0 : w4.cell? ⟨gb270, 0, none⟩ = some (.int .i64 a0_0) := (blk_cell BK270.out 0).trans rfl; have hcz5_1 : w4.cell? ⟨gb270, 1, none⟩ = some (.string a0_1) := (blk_cell BK270.out 1).trans rfl; have hcz5_2 : w4.cell? ⟨gb270, 2, none⟩ = some (.slice A0_2 l0_2.length c0_2) := (blk_cell BK270.out 2).trans rfl; have hcz5_3 : w4.cell? ⟨gb270, 3, none⟩ = some (.slice A0_3 l0_3.length c0_3) := (blk_cell BK270.out 3).trans rfl; have hfz5_0 := bfz BK270.out 0; have hfz5_1 := bfz BK270.out 1; have hfz5_2 := bfz BK270.out 2; have hfz5_3 := bfz BK270.out 3))
  (try simp only [Act.put, List.setIfInBounds_toArray, List.set_cons_zero, List.set_cons_succ])
  go_cut [5] (fun v5 wc => ∃ (kq : Nat) (x5_2 : Bool), v5 = .bool x5_2 ∧ Aside0 (r4_Int.j0 kq a0_1 x5_2 = some (r1, r2)) ∧ Aside0 (kq ≤ k) ∧ Aside0 (wc.heap[gb270]? = some (.cells #[.int .i64 a0_0, .string a0_1, (.slice A0_2 l0_2.length c0_2), (.slice A0_3 l0_3.length c0_3)] 44 (0, 0))) ∧ Aside0 (Below w.heap.size w wc))
  case first =>
   have H := HC3.out
   clear HC3
   by_cases c6 : (a0_1.size : Int) > 0
   ·rw [if_pos c6] at H
    have c6b0 : decide (0 < (a0_1.size : Int)) = true := decide_eq_true c6
    have c6b1 : decide (0 < a0_1.size) = true := decide_eq_true (by omega)
    clear c6
    (first | rw [c6b0] | (simp only [i64_w, i32_w]; rw [c6b0]) | skip)
    by_cases c7 : 0 < (a0_1.size : Int)
    ·rw [if_pos c7] at H
     have c7b0 : decide (0 < (a0_1.size : Int)) = true := decide_eq_true c7
     have c7b1 : decide (0 < a0_1.size) = true := decide_eq_true (by omega)
     clear c7
     have H' := Aside0.mk H
     clear H
     have p8 : 0 ≤ (0 : Int) := (by omega)
     have q8 : 0 < a0_1.size := (by have : (0 : Int) < (a0_1.size : Int) := of_decide_eq_true (by first | (with_reducible assumption) | assumption); omega)
     have hx8 : ∀ h : 0 < a0_1.size, ((a0_1[0]'h).toNat : Int) = bt a0_1 0 := bt_at a0_1 0
     clear p8
     have qi8 : (0 < (a0_1.size : Int)) = True := eq_true (of_decide_eq_true (by first | (with_reducible assumption) | assumption))
     replace q8 := eq_true q8
     go_wp2
     go_meet
     case rel => exact ⟨_, (((bt a0_1 0) == 45)), (by first | rfl | (simp; done) | (simp [*]; done)), H', ⟨by first | omega | exact Nat.le_refl _⟩, ⟨by (with_reducible repeat (first | refine blk_drewN ?_ _ | refine blk_drew ?_ | refine blk_alloc ?_ _)); exact BK270.out⟩, ⟨by repeat (first | (with_reducible first | exact HB.out | apply bal | apply pbdN | apply bdr1 | refine below_set ?_ GE270.out) | exact HB.out)⟩⟩
    ·rw [if_neg c7] at H
     exact absurd H (by simp)
   ·rw [if_neg c6] at H
    have c6b0 : decide (0 < (a0_1.size : Int)) = false := decide_eq_false c6
    have c6b1 : decide (0 < a0_1.size) = false := decide_eq_false (by omega)
    clear c6
    (first | rw [c6b0] | (simp only [i64_w, i32_w]; rw [c6b0]) | skip)
    have H' := Aside0.mk H
    clear H
    go_wp2
    go_meet
    case rel => exact ⟨_, (false), (by first | rfl | (simp; done) | (simp [*]; done)), H', ⟨by first | omega | exact Nat.le_refl _⟩, ⟨by (with_reducible repeat (first | refine blk_drewN ?_ _ | refine blk_drew ?_ | refine blk_alloc ?_ _)); exact BK270.out⟩, ⟨by repeat (first | (with_reducible first | exact HB.out | apply bal | apply pbdN | apply bdr1 | refine below_set ?_ GE270.out) | exact HB.out)⟩⟩
  case rest =>
   clear HC3
   try clear c2; try clear c2b0; try clear c2b1; try clear p2; try clear c3; try clear c6; try clear c6b0; try clear c6b1; try clear c7; try clear c7b0; try clear c7b1; try clear p8; try clear q8; try clear hx8; try clear qi8; try clear hcz5_0; try clear hcz5_1; try clear hcz5_2; try clear hcz5_3; try clear hfz5_0; try clear hfz5_1; try clear hfz5_2; try clear hfz5_3; try clear p8; try clear q8
   obtain ⟨kq, x5_2, rfl, HA, HJ2, BK270, HB⟩ := hcut
   cases kq with
   | zero => exact absurd HA.out (by simp [r4_Int.j0])
   | succ kj2 =>
    have H := HA.out
    clear HA
    simp only [r4_Int.j0] at H
    have HC9 := Aside0.mk H
    clear H
    go_upto_if 21 with (fail)
    go_cut [4] (fun v4 wc => ∃ (kq : Nat) (x4_8 : ByteArray), v4 = .string x4_8 ∧ Aside0 (r4_Int.j1 kq x4_8 x5_2 = some (r1, r2)) ∧ Aside0 (kq ≤ kj2) ∧ Aside0 (wc.heap[gb270]? = some (.cells #[.int .i64 a0_0, .string a0_1, (.slice A0_2 l0_2.length c0_2), (.slice A0_3 l0_3.length c0_3)] 44 (0, 0))) ∧ Aside0 (Below w.heap.size w wc))
    case first =>
     have H := HC9.out
     clear HC9
     by_cases c10 : x5_2 = true
     ·subst c10
      have H1 : (if 1 ≤ (a0_1.size : Int) then (r4_Int.j1 kj2 (a0_1.extract 1 a0_1.size) true) else (none)) = some (r1, r2) := by rw [if_pos rfl] at H; exact H
      clear H
      have H := H1
      clear H1
      by_cases c11 : 1 ≤ (a0_1.size : Int)
      ·rw [if_pos c11] at H
       have c11b0 := eq_true c11
       have c11b1 : decide (1 ≤ (a0_1.size : Int)) = true := decide_eq_true c11
       clear c11
       have H' := Aside0.mk H
       clear H
       go_wp2
       go_meet
       case rel => exact ⟨_, (a0_1.extract 1 a0_1.size), (by first | rfl | (simp; done) | (simp [*]; done)), H', ⟨by have := HJ2.out; first | omega | exact Nat.le_refl _⟩, ⟨by (with_reducible repeat (first | refine blk_drewN ?_ _ | refine blk_drew ?_ | refine blk_alloc ?_ _)); exact BK270.out⟩, ⟨by repeat (first | (with_reducible first | exact HB.out | apply bal | apply pbdN | apply bdr1 | refine below_set ?_ GE270.out) | exact HB.out)⟩⟩
      ·rw [if_neg c11] at H
       exact absurd H (by simp)
     ·replace c10 := Bool.eq_false_iff.mpr c10
      subst c10
      have H1 : (r4_Int.j1 kj2 a0_1 false) = some (r1, r2) := by rw [if_neg (show ¬ (false = true) by decide)] at H; exact H
      clear H
      have H := H1
      clear H1
      have H' := Aside0.mk H
      clear H
      go_wp2
      go_meet
      case rel => exact ⟨_, (a0_1), (by first | rfl | (simp; done) | (simp [*]; done)), H', ⟨by have := HJ2.out; first | omega | exact Nat.le_refl _⟩, ⟨by (with_reducible repeat (first | refine blk_drewN ?_ _ | refine blk_drew ?_ | refine blk_alloc ?_ _)); exact BK270.out⟩, ⟨by repeat (first | (with_reducible first | exact HB.out | apply bal | apply pbdN | apply bdr1 | refine below_set ?_ GE270.out) | exact HB.out)⟩⟩
    case rest =>
     clear HC9
     try clear c1; try clear c2; try clear c2b0; try clear c2b1; try clear p2; try clear c3; try clear c6; try clear c6b0; try clear c6b1; try clear c7; try clear c7b0; try clear c7b1; try clear p8; try clear q8; try clear hx8; try clear qi8; try clear c10; try clear c11; try clear c11b0; try clear c11b1; try clear hcz5_0; try clear hcz5_1; try clear hcz5_2; try clear hcz5_3; try clear hfz5_0; try clear hfz5_1; try clear hfz5_2; try clear hfz5_3; try clear p2; try clear p8; try clear q8
     obtain ⟨kq, x4_8, rfl, HA, HJ8, BK270, HB⟩ := hcut
     cases kq with
     | zero => exact absurd HA.out (by simp [r4_Int.j1])
     | succ kj8 =>
      have H := HA.out
      clear HA
      simp only [r4_Int.j1] at H
      have HC12 := Aside0.mk H
      clear H
      go_upto_region 7 with (fail)
      go_cut [44] (fun v44 wc => ∃ (kq : Nat) (x44_11 : Bool), v44 = .bool x44_11 ∧ Aside0 (r4_Int.j2 kq x4_8 x5_2 x44_11 = some (r1, r2)) ∧ Aside0 (kq ≤ kj8) ∧ Aside0 (wc.heap[gb270]? = some (.cells #[.int .i64 a0_0, .string a0_1, (.slice A0_2 l0_2.length c0_2), (.slice A0_3 l0_3.length c0_3)] 44 (0, 0))) ∧ Aside0 (Below w.heap.size w wc))
      case first =>
       have H := HC12.out
       clear HC12
       by_cases c13 : (x4_8.size : Int) < 1
       ·rw [if_pos c13] at H
        have c13b0 : decide ((x4_8.size : Int) < 1) = true := decide_eq_true c13
        have c13b1 : decide (x4_8.size < 1) = true := decide_eq_true (by omega)
        clear c13
        (first | rw [c13b0] | (simp only [i64_w, i32_w]; rw [c13b0]) | skip)
        have H' := Aside0.mk H
        clear H
        go_wp2
        go_meet
        case rel => exact ⟨_, (true), (by first | rfl | (simp; done) | (simp [*]; done)), H', ⟨by have := HJ2.out; have := HJ8.out; first | omega | exact Nat.le_refl _⟩, ⟨by (with_reducible repeat (first | refine blk_drewN ?_ _ | refine blk_drew ?_ | refine blk_alloc ?_ _)); exact BK270.out⟩, ⟨by repeat (first | (with_reducible first | exact HB.out | apply bal | apply pbdN | apply bdr1 | refine below_set ?_ GE270.out) | exact HB.out)⟩⟩
       ·rw [if_neg c13] at H
        have c13b0 : decide ((x4_8.size : Int) < 1) = false := decide_eq_false c13
        have c13b1 : decide (x4_8.size < 1) = false := decide_eq_false (by omega)
        clear c13
        (first | rw [c13b0] | (simp only [i64_w, i32_w]; rw [c13b0]) | skip)
        by_cases c14 : (x4_8.size : Int) > 9
        ·rw [if_pos c14] at H
         have c14b0 : decide (9 < (x4_8.size : Int)) = true := decide_eq_true c14
         have c14b1 : decide (9 < x4_8.size) = true := decide_eq_true (by omega)
         clear c14
         have H' := Aside0.mk H
         clear H
         go_wp2
         go_meet
         case rel => exact ⟨_, (true), (by first | rfl | (simp; done) | (simp [*]; done)), H', ⟨by have := HJ2.out; have := HJ8.out; first | omega | exact Nat.le_refl _⟩, ⟨by (with_reducible repeat (first | refine blk_drewN ?_ _ | refine blk_drew ?_ | refine blk_alloc ?_ _)); exact BK270.out⟩, ⟨by repeat (first | (with_reducible first | exact HB.out | apply bal | apply pbdN | apply bdr1 | refine below_set ?_ GE270.out) | exact HB.out)⟩⟩
        ·rw [if_neg c14] at H
         have c14b0 : decide (9 < (x4_8.size : Int)) = false := decide_eq_false c14
         have c14b1 : decide (9 < x4_8.size) = false := decide_eq_false (by omega)
         clear c14
         by_cases c15 : 0 < (x4_8.size : Int)
         ·rw [if_pos c15] at H
          have c15b0 : decide (0 < (x4_8.size : Int)) = true := decide_eq_true c15
          have c15b1 : decide (0 < x4_8.size) = true := decide_eq_true (by omega)
          clear c15
          by_cases c17 : (bt x4_8 0) = 48
          ·rw [if_pos c17] at H
           have c17b0 : ((bt x4_8 0) == 48) = true := beq_iff_eq.mpr c17
           have c17b1 : ((bt x4_8 0) != 48) = false := bne_eq_false_iff_eq.mpr c17
           clear c17
           by_cases c18 : (x4_8.size : Int) > 1
           ·rw [if_pos c18] at H
            have c18b0 : decide (1 < (x4_8.size : Int)) = true := decide_eq_true c18
            have c18b1 : decide (1 < x4_8.size) = true := decide_eq_true (by omega)
            clear c18
            have H' := Aside0.mk H
            clear H
            have p16 : 0 ≤ (0 : Int) := (by omega)
            have q16 : 0 < x4_8.size := (by have : (0 : Int) < (x4_8.size : Int) := of_decide_eq_true (by first | (with_reducible assumption) | assumption); omega)
            have hx16 : ∀ h : 0 < x4_8.size, ((x4_8[0]'h).toNat : Int) = bt x4_8 0 := bt_at x4_8 0
            clear p16
            have qi16 : (0 < (x4_8.size : Int)) = True := eq_true (of_decide_eq_true (by first | (with_reducible assumption) | assumption))
            replace q16 := eq_true q16
            go_wp2
            go_meet
            case rel => exact ⟨_, (true), (by first | rfl | (simp; done) | (simp [*]; done)), H', ⟨by have := HJ2.out; have := HJ8.out; first | omega | exact Nat.le_refl _⟩, ⟨by (with_reducible repeat (first | refine blk_drewN ?_ _ | refine blk_drew ?_ | refine blk_alloc ?_ _)); exact BK270.out⟩, ⟨by repeat (first | (with_reducible first | exact HB.out | apply bal | apply pbdN | apply bdr1 | refine below_set ?_ GE270.out) | exact HB.out)⟩⟩
           ·rw [if_neg c18] at H
            have c18b0 : decide (1 < (x4_8.size : Int)) = false := decide_eq_false c18
            have c18b1 : decide (1 < x4_8.size) = false := decide_eq_false (by omega)
            clear c18
            have H' := Aside0.mk H
            clear H
            have p16 : 0 ≤ (0 : Int) := (by omega)
            have q16 : 0 < x4_8.size := (by have : (0 : Int) < (x4_8.size : Int) := of_decide_eq_true (by first | (with_reducible assumption) | assumption); omega)
            have hx16 : ∀ h : 0 < x4_8.size, ((x4_8[0]'h).toNat : Int) = bt x4_8 0 := bt_at x4_8 0
            clear p16
            have qi16 : (0 < (x4_8.size : Int)) = True := eq_true (of_decide_eq_true (by first | (with_reducible assumption) | assumption))
            replace q16 := eq_true q16
            go_wp2
            go_meet
            case rel => exact ⟨_, (x5_2), (by first | rfl | (simp; done) | (simp [*]; done)), H', ⟨by have := HJ2.out; have := HJ8.out; first | omega | exact Nat.le_refl _⟩, ⟨by (with_reducible repeat (first | refine blk_drewN ?_ _ | refine blk_drew ?_ | refine blk_alloc ?_ _)); exact BK270.out⟩, ⟨by repeat (first | (with_reducible first | exact HB.out | apply bal | apply pbdN | apply bdr1 | refine below_set ?_ GE270.out) | exact HB.out)⟩⟩
          ·rw [if_neg c17] at H
           have c17b0 : ((bt x4_8 0) == 48) = false := beq_eq_false_iff_ne.mpr c17
           have c17b1 : ((bt x4_8 0) != 48) = true := bne_iff_ne.mpr c17
           have H' := Aside0.mk H
           clear H
           have p16 : 0 ≤ (0 : Int) := (by omega)
           have q16 : 0 < x4_8.size := (by have : (0 : Int) < (x4_8.size : Int) := of_decide_eq_true (by first | (with_reducible assumption) | assumption); omega)
           have hx16 : ∀ h : 0 < x4_8.size, ((x4_8[0]'h).toNat : Int) = bt x4_8 0 := bt_at x4_8 0
           clear p16
           have qi16 : (0 < (x4_8.size : Int)) = True := eq_true (of_decide_eq_true (by first | (with_reducible assumption) | assumption))
           replace q16 := eq_true q16
           go_wp2
           go_meet
           case rel => exact ⟨_, (false), (by first | rfl | (simp; done) | (simp [*]; done)), H', ⟨by have := HJ2.out; have := HJ8.out; first | omega | exact Nat.le_refl _⟩, ⟨by (with_reducible repeat (first | refine blk_drewN ?_ _ | refine blk_drew ?_ | refine blk_alloc ?_ _)); exact BK270.out⟩, ⟨by repeat (first | (with_reducible first | exact HB.out | apply bal | apply pbdN | apply bdr1 | refine below_set ?_ GE270.out) | exact HB.out)⟩⟩
         ·rw [if_neg c15] at H
          exact absurd H (by simp)
      case rest =>
       clear HC12
       try clear c1; try clear p1; try clear q1; try clear hx1; try clear qi1; try clear c2; try clear c2b0; try clear c2b1; try clear p2; try clear c3; try clear c6; try clear c6b0; try clear c6b1; try clear c7; try clear c7b0; try clear c7b1; try clear p8; try clear q8; try clear hx8; try clear qi8; try clear c10; try clear c11; try clear c11b0; try clear c11b1; try clear c13; try clear c13b0; try clear c13b1; try clear c14; try clear c14b0; try clear c14b1; try clear c15; try clear c15b0; try clear c15b1; try clear p16; try clear q16; try clear hx16; try clear qi16; try clear c17; try clear c17b0; try clear c17b1; try clear c18; try clear c18b0; try clear c18b1; try clear hcz5_0; try clear hcz5_1; try clear hcz5_2; try clear hcz5_3; try clear hfz5_0; try clear hfz5_1; try clear hfz5_2; try clear hfz5_3; try clear p16; try clear p2; try clear p8; try clear q16; try clear q8
       obtain ⟨kq, x44_11, rfl, HA, HJ11, BK270, HB⟩ := hcut
       cases kq with
       | zero => exact absurd HA.out (by simp [r4_Int.j2])
       | succ kj11 =>
        have H := HA.out
        clear HA
        simp only [r4_Int.j2] at H
        by_cases c19 : x44_11 = true
        ·subst c19
         have H1 : (some (0, false)) = some (r1, r2) := by rw [if_pos rfl] at H; exact H
         clear H
         have H := H1
         clear H1
         simp only [Option.some.injEq, Prod.mk.injEq] at H
         obtain ⟨rfl, rfl⟩ := H
         go_wp2
         go_ret2
         exact ⟨by first | rfl | (simp [errW_none, errW_some] <;> rfl) | (simp [*, errW_none, errW_some] <;> rfl), by repeat (first | (with_reducible first | exact HB.out | apply bal | apply pbdN | apply bdr1 | refine below_set ?_ GE270.out) | exact HB.out)⟩
        ·replace c19 := Bool.eq_false_iff.mpr c19
         subst c19
         have H1 : (r4_Int.l0 kj11 x4_8 x5_2 0 0) = some (r1, r2) := by rw [if_neg (show ¬ (false = true) by decide)] at H; exact H
         clear H
         have H := H1
         clear H1
         have H' := Aside0.mk H
         clear H
         go_wp2
         go_loopg [6, 7] kj11 (fun kq v6 v7 w' => ∃ (x6_4 : Int) (x7_4 : Int), v6 = .int .i64 x6_4 ∧ v7 = .int .i64 x7_4 ∧ Aside0 (r4_Int.l0 kq x4_8 x5_2 x6_4 x7_4 = some (r1, r2)) ∧ Aside0 (kq ≤ kj11) ∧ Aside0 (w'.heap[gb270]? = some (.cells #[.int .i64 a0_0, .string a0_1, (.slice A0_2 l0_2.length c0_2), (.slice A0_3 l0_3.length c0_3)] 44 (0, 0))) ∧ Aside0 (Below w.heap.size w w'))
         case atStart => exact ⟨(0), (0), (by first | rfl | (simp; done) | (simp [*]; done)), (by first | rfl | (simp; done) | (simp [*]; done)), H', ⟨Nat.le_refl _⟩, ⟨by (with_reducible repeat (first | refine blk_drewN ?_ _ | refine blk_drew ?_ | refine blk_alloc ?_ _)); exact BK270.out⟩, ⟨by repeat (first | (with_reducible first | exact HB.out | apply bal | apply pbdN | apply bdr1 | refine below_set ?_ GE270.out) | exact HB.out)⟩⟩
         case round =>
          clear H'
          try clear c1; try clear p1; try clear q1; try clear hx1; try clear qi1; try clear c2; try clear c2b0; try clear c2b1; try clear p2; try clear c3; try clear c6; try clear c6b0; try clear c6b1; try clear c7; try clear c7b0; try clear c7b1; try clear p8; try clear q8; try clear hx8; try clear qi8; try clear c10; try clear c11; try clear c11b0; try clear c11b1; try clear c13; try clear c13b0; try clear c13b1; try clear c14; try clear c14b0; try clear c14b1; try clear c15; try clear c15b0; try clear c15b1; try clear p16; try clear q16; try clear hx16; try clear qi16; try clear c17; try clear c17b0; try clear c17b1; try clear c18; try clear c18b0; try clear c18b1; try clear c19; try clear hcz5_0; try clear hcz5_1; try clear hcz5_2; try clear hcz5_3; try clear hfz5_0; try clear hfz5_1; try clear hfz5_2; try clear hfz5_3; try clear p1; try clear p16; try clear p2; try clear p8; try clear q1; try clear q16; try clear q8
          obtain ⟨x6_4, x7_4, rfl, rfl, HA, HK4, BK270, HB⟩ := hrel
          cases gk with
          | zero => exact absurd HA.out (by simp [r4_Int.l0])
          | succ k4 =>
           have H := HA.out
           clear HA
           simp only [r4_Int.l0] at H
           by_cases c20 : x7_4 < (x4_8.size : Int)
           ·rw [if_pos c20] at H
            have c20b0 : decide (x7_4 < (x4_8.size : Int)) = true := decide_eq_true c20
            clear c20
            by_cases c21 : 0 ≤ x7_4
            ·rw [if_pos c21] at H
             have c21b0 : decide (0 ≤ x7_4) = true := decide_eq_true c21
             clear c21
             by_cases c23 : (bt x4_8 x7_4) < 48
             ·rw [if_pos c23] at H
              have c23b0 : decide ((bt x4_8 x7_4) < 48) = true := decide_eq_true c23
              clear c23
              simp only [Option.some.injEq, Prod.mk.injEq] at H
              obtain ⟨rfl, rfl⟩ := H
              have p22 : 0 ≤ (x7_4 : Int) := of_decide_eq_true (by first | (with_reducible assumption) | assumption)
              have q22 : x7_4 < (x4_8.size : Int) := of_decide_eq_true (by first | (with_reducible assumption) | assumption)
              have hx22 := bt_at x4_8 x7_4
              replace p22 := eq_true p22
              replace q22 := eq_true q22
              go_wp2
              go_ret2
              exact ⟨by first | rfl | (simp [errW_none, errW_some] <;> rfl) | (simp [*, errW_none, errW_some] <;> rfl), by repeat (first | (with_reducible first | exact HB.out | apply bal | apply pbdN | apply bdr1 | refine below_set ?_ GE270.out) | exact HB.out)⟩
             ·rw [if_neg c23] at H
              have c23b0 : decide ((bt x4_8 x7_4) < 48) = false := decide_eq_false c23
              clear c23
              by_cases c25 : (bt x4_8 x7_4) > 57
              ·rw [if_pos c25] at H
               have c25b0 : decide (57 < (bt x4_8 x7_4)) = true := decide_eq_true c25
               clear c25
               simp only [Option.some.injEq, Prod.mk.injEq] at H
               obtain ⟨rfl, rfl⟩ := H
               have p22 : 0 ≤ (x7_4 : Int) := of_decide_eq_true (by first | (with_reducible assumption) | assumption)
               have q22 : x7_4 < (x4_8.size : Int) := of_decide_eq_true (by first | (with_reducible assumption) | assumption)
               have hx22 := bt_at x4_8 x7_4
               replace p22 := eq_true p22
               replace q22 := eq_true q22
               have p24 : 0 ≤ (x7_4 : Int) := of_decide_eq_true (by first | (with_reducible assumption) | assumption)
               have q24 : x7_4 < (x4_8.size : Int) := of_decide_eq_true (by first | (with_reducible assumption) | assumption)
               have hx24 := bt_at x4_8 x7_4
               replace p24 := eq_true p24
               replace q24 := eq_true q24
               go_wp2
               go_ret2
               exact ⟨by first | rfl | (simp [errW_none, errW_some] <;> rfl) | (simp [*, errW_none, errW_some] <;> rfl), by repeat (first | (with_reducible first | exact HB.out | apply bal | apply pbdN | apply bdr1 | refine below_set ?_ GE270.out) | exact HB.out)⟩
              ·rw [if_neg c25] at H
               have c25b0 : decide (57 < (bt x4_8 x7_4)) = false := decide_eq_false c25
               clear c25
               have H' := Aside0.mk H
               clear H
               have p22 : 0 ≤ (x7_4 : Int) := of_decide_eq_true (by first | (with_reducible assumption) | assumption)
               have q22 : x7_4 < (x4_8.size : Int) := of_decide_eq_true (by first | (with_reducible assumption) | assumption)
               have hx22 := bt_at x4_8 x7_4
               replace p22 := eq_true p22
               replace q22 := eq_true q22
               have p24 : 0 ≤ (x7_4 : Int) := of_decide_eq_true (by first | (with_reducible assumption) | assumption)
               have q24 : x7_4 < (x4_8.size : Int) := of_decide_eq_true (by first | (with_reducible assumption) | assumption)
               have hx24 := bt_at x4_8 x7_4
               replace p24 := eq_true p24
               replace q24 := eq_true q24
               have p26 : 0 ≤ (x7_4 : Int) := of_decide_eq_true (by first | (with_reducible assumption) | assumption)
               have q26 : x7_4 < (x4_8.size : Int) := of_decide_eq_true (by first | (with_reducible assumption) | assumption)
               have hx26 := bt_at x4_8 x7_4
               replace p26 := eq_true p26
               replace q26 := eq_true q26
               go_wp2
               go_roundg k4
               case measure => have := HJ2.out; have := HJ8.out; have := HJ11.out; have := HK4.out; omega
               case rel => exact ⟨(wrap64 ((wrap64 (x6_4 * 10)) + (((bt x4_8 x7_4) - 48) % 256))), (wrap64 (x7_4 + 1)), (by first | rfl | (simp; done) | (simp [*]; done)), (by first | rfl | (simp; done) | (simp [*]; done)), H', ⟨by have := HJ2.out; have := HJ8.out; have := HJ11.out; have := HK4.out; omega⟩, ⟨by (with_reducible repeat (first | refine blk_drewN ?_ _ | refine blk_drew ?_ | refine blk_alloc ?_ _)); exact BK270.out⟩, ⟨by repeat (first | (with_reducible first | exact HB.out | apply bal | apply pbdN | apply bdr1 | refine below_set ?_ GE270.out) | exact HB.out)⟩⟩
            ·rw [if_neg c21] at H
             exact absurd H (by simp)
           ·rw [if_neg c20] at H
            have c20b0 : decide (x7_4 < (x4_8.size : Int)) = false := decide_eq_false c20
            clear c20
            by_cases c27 : x5_2 = true
            ·subst c27
             have H1 : (some (wrap64 (-x6_4), true)) = some (r1, r2) := by rw [if_pos rfl] at H; exact H
             clear H
             have H := H1
             clear H1
             simp only [Option.some.injEq, Prod.mk.injEq] at H
             obtain ⟨rfl, rfl⟩ := H
             go_wp2
             go_ret2
             exact ⟨by first | rfl | (simp [errW_none, errW_some] <;> rfl) | (simp [*, errW_none, errW_some] <;> rfl), by repeat (first | (with_reducible first | exact HB.out | apply bal | apply pbdN | apply bdr1 | refine below_set ?_ GE270.out) | exact HB.out)⟩
            ·replace c27 := Bool.eq_false_iff.mpr c27
             subst c27
             have H1 : (some (x6_4, true)) = some (r1, r2) := by rw [if_neg (show ¬ (false = true) by decide)] at H; exact H
             clear H
             have H := H1
             clear H1
             simp only [Option.some.injEq, Prod.mk.injEq] at H
             obtain ⟨rfl, rfl⟩ := H
             go_wp2
             go_ret2
             exact ⟨by first | rfl | (simp [errW_none, errW_some] <;> rfl) | (simp [*, errW_none, errW_some] <;> rfl), by repeat (first | (with_reducible first | exact HB.out | apply bal | apply pbdN | apply bdr1 | refine below_set ?_ GE270.out) | exact HB.out)⟩
 ·rw [if_neg c2] at H
  have c2b0 : (a0_0 == 3) = false := beq_eq_false_iff_ne.mpr c2
  have c2b1 : (a0_0 != 3) = true := bne_iff_ne.mpr c2
  simp only [Option.some.injEq, Prod.mk.injEq] at H
  obtain ⟨rfl, rfl⟩ := H
  go_enter Tryd.func30, Tryd.ntmps30
  go_wp2_with (first | ((with_reducible refine gate_dst (N := 1) rfl ?_); (try (refine gate_guard (by rfl) ?_; dsimp only)); refine box_event ?hg (N := 1) ?hd (cs := #[.int .i64 a0_0, .string a0_1, .slice A0_2 l0_2.length c0_2, .slice A0_3 l0_3.length c0_3]) (t := 44) ?hr ?_; (case hd => rfl); (case hg => rfl); (case hr => first | (go_simp; done) | (go_simp; rfl)); intro gb270 hg w28 hbox hb; have n0_ := Aside0.mk (below_step (by repeat (first | (with_reducible first | exact HB.out | apply bal | apply pbdN | apply bdr1) | exact HB.out)) hb); have n1_ := Aside0.mk (hbox); have n2_ := Aside0.mk ((by rw [hg]; exact (below_size (by repeat (first | (with_reducible first | exact HB.out | apply bal | apply pbdN | apply bdr1) | exact HB.out))) : w.heap.size ≤ gb270)); have n3_ := Aside0.mk ((by rw [hg]; exact (below_size (by repeat (first | (with_reducible first | exact HB.out | apply bal | apply pbdN | apply bdr1) | exact HB.out))) : w.heap.size ≤ gb270)); clear HB; have HB := n0_; have BK270 := n1_; have GW270 := n2_; have GE270 := n3_; clear n0_ n1_ n2_ n3_; clear hb hbox hg; have hcz29_0 : w28.cell? ⟨gb270, 0, none⟩ = some (.int .i64 a0_0) := (blk_cell BK270.out 0).trans rfl; have hcz29_1 : w28.cell? ⟨gb270, 1, none⟩ = some (.string a0_1) := (blk_cell BK270.out 1).trans rfl; have hcz29_2 : w28.cell? ⟨gb270, 2, none⟩ = some (.slice A0_2 l0_2.length c0_2) := (blk_cell BK270.out 2).trans rfl; have hcz29_3 : w28.cell? ⟨gb270, 3, none⟩ = some (.slice A0_3 l0_3.length c0_3) := (blk_cell BK270.out 3).trans rfl; have hfz29_0 := bfz BK270.out 0; have hfz29_1 := bfz BK270.out 1; have hfz29_2 := bfz BK270.out 2; have hfz29_3 := bfz BK270.out 3))
  go_ret2
  exact ⟨by first | rfl | (simp [errW_none, errW_some] <;> rfl) | (simp [*, errW_none, errW_some] <;> rfl), by repeat (first | (with_reducible first | exact HB.out | apply bal | apply pbdN | apply bdr1 | refine below_set ?_ GE270.out) | exact HB.out)⟩
end Go.Proofs.YteighppcdpaekaaDoor.P
end
section
namespace Go.Proofs.YteighppcdpaekaaDoor.P
open Go.RowKit Go.Proofs.YteighppcdpaekaaDoorW.PrintWords Go.Proofs.YteighppcdpaekaaDoorW.PrintLast Go.Proofs.YteighppcdpaekaaDoorW.PrintMore
def sLine : ByteArray := ⟨#[108, 105, 110, 101]⟩
def sChar : ByteArray := ⟨#[99, 104, 97, 114, 97, 99, 116, 101, 114]⟩
def pos6F (k : Nat) (a0 : Int) (a1 : ByteArray) (l2 : List ByteArray) (l3 : List S44) : Option (Int × Int × Bool) :=
 (r4_Get.f k a0 a1 l2 l3 sLine).bind fun l => (r4_Get.f k a0 a1 l2 l3 sChar).bind fun u =>
  (r4_Int.f k l.1 l.2.1 l.2.2.1 l.2.2.2.1).bind fun n => (r4_Int.f k u.1 u.2.1 u.2.2.1 u.2.2.2.1).bind fun m =>
   some (if (l.2.2.2.2 && u.2.2.2.2 && n.2 && m.2) = true then (n.1, m.1, true) else (0, 0, false))
set_option maxRecDepth 100000 in
set_option maxHeartbeats 3200000 in
theorem pos6_calls (k : Nat) (a0 : Int) (a1 : ByteArray) (A2 : Option Addr) (c2 : Nat) (l2 : List ByteArray) (A3 : Option Addr) (c3 : Nat) (l3 : List S44) (r : Int × Int × Bool) (w : World) (h2 : Kd.V Kd.string 9 w 0 (fun k => 0 ≤ k) (.slice A2 l2.length c2) l2) (h3 : Kd.V k44 44 w 0 (fun k => 0 ≤ k) (.slice A3 l3.length c3) l3) (h : pos6F k a0 a1 l2 l3 = some r) :
  Calls Tryd.prog 22 #[.agg #[.int .i64 a0, .string a1, .slice A2 l2.length c2, .slice A3 l3.length c3]] w fun e w' => e = .returned (.tuple #[.agg #[.int .i64 r.1, .int .i64 r.2.1], .bool r.2.2]) ∧ Below w.heap.size w w' := by
 obtain ⟨⟨i0, i1, i2, i3, ib⟩, g1, h⟩ := Option.bind_eq_some_iff.mp h
 obtain ⟨⟨j0, j1, j2, j3, jb⟩, g2, h⟩ := Option.bind_eq_some_iff.mp h
 obtain ⟨⟨n, nb⟩, g3, h⟩ := Option.bind_eq_some_iff.mp h
 obtain ⟨⟨m, mb⟩, g4, h⟩ := Option.bind_eq_some_iff.mp h
 have H := Aside0.mk h
 have G1 := Aside0.mk g1
 have G2 := Aside0.mk g2
 have G3 := Aside0.mk g3
 have G4 := Aside0.mk g4
 clear h g1 g2 g3 g4
 have C0 : Ctx [uBlk (w.heap.size + 1) [.int .i64 0, .int .i64 0] 57, uBlk w.heap.size [.int .i64 a0, .string a1, .slice A2 l2.length c2, .slice A3 l3.length c3] 44, uV Kd.string 9 0 (.slice A2 l2.length c2) l2, uV k44 44 0 (.slice A3 l3.length c3) l3, uB w] ((w.alloc (.cells #[.int .i64 a0, .string a1, .slice A2 l2.length c2, .slice A3 l3.length c3] 44 (0, 0))).alloc (.cells #[.int .i64 0, .int .i64 0] 57 (0, 0))) := by
  have e := Ctx.new (cs := [.int .i64 0, .int .i64 0]) (t := 57) (Ctx.new (cs := [.int .i64 a0, .string a1, .slice A2 l2.length c2, .slice A3 l3.length c3]) (t := 44) (Ctx.cons (uV Kd.string 9 0 (.slice A2 l2.length c2) l2) h2 (Ctx.cons (uV k44 44 0 (.slice A3 l3.length c3) l3) h3 (Ctx.cons (uB w) (Below.refl _ _) (Ctx.nil)))))
  simpa using e
 clear h2 h3
 go_enter Tryd.func22, Tryd.ntmps22
 go_upto_region 1 with fail
 refine absW _ C0 ?_
 clear C0
 intro w1 C
 have K := Aside0.mk C
 obtain ⟨b0, b1, v2, v3, _⟩ := C
 obtain ⟨x0, x1, x2, x3⟩ : w1.cell? ⟨w.heap.size, 0, none⟩ = some (.int .i64 a0) ∧ w1.cell? ⟨w.heap.size, 1, none⟩ = some (.string a1) ∧ w1.cell? ⟨w.heap.size, 2, none⟩ = some (.slice A2 l2.length c2) ∧ w1.cell? ⟨w.heap.size, 3, none⟩ = some (.slice A3 l3.length c3) := ⟨Ctx.blk b1 0 rfl, Ctx.blk b1 1 rfl, Ctx.blk b1 2 rfl, Ctx.blk b1 3 rfl⟩
 have V2 := Aside0.mk v2
 have V3 := Aside0.mk v3
 clear b0 b1 v2 v3
 go_wp2_with fail
 refine (r4_Get.calls k a0 a1 A2 c2 l2 (fun k => 0 ≤ k) A3 c3 l3 sLine _ _ _ _ _ _ (vC V2.out) (vle V2.out) V3.out G1.out).mono ?_
 rintro en W1 ⟨u2, u3, rfl, e2, e3, hb⟩
 obtain ⟨E1, p1, q1, rfl⟩ : ∃ A n c, u2 = .slice A n c := by
  obtain ⟨A, c, e⟩ := Kd.V_slice e2
  exact ⟨_, _, _, e⟩
 obtain ⟨F1, s1, t1, rfl⟩ : ∃ A n c, u3 = .slice A n c := by
  obtain ⟨A, c, e⟩ := Kd.V_slice e3
  exact ⟨_, _, _, e⟩
 have C := Ctx.new (cs := [.int .i64 i0, .string i1, .slice E1 p1 q1, .slice F1 s1 t1]) (t := 44) (Ctx.cons (uV Kd.string 9 0 (.slice E1 p1 q1) i2) (Kd.V_mono (show Kd.V Kd.string 9 W1 0 _ _ _ from e2) (fun _ _ => Nat.zero_le _)) (Ctx.cons (uV k44 44 0 (.slice F1 s1 t1) i3) (Kd.V_mono (show Kd.V k44 44 W1 0 _ _ _ from e3) (fun _ _ => Nat.zero_le _)) (K.out.below hb)))
 clear K V2 V3 G1 e2 e3 hb x0 x1 x2 x3
 go_upto_region 2 with fail
 refine absW _ C ?_
 clear C
 intro w2 C
 have K := Aside0.mk C
 obtain ⟨b2, y2, y3, b0, b1, v2, v3, _⟩ := C
 obtain ⟨x0, x1, x2, x3⟩ : w2.cell? ⟨w.heap.size, 0, none⟩ = some (.int .i64 a0) ∧ w2.cell? ⟨w.heap.size, 1, none⟩ = some (.string a1) ∧ w2.cell? ⟨w.heap.size, 2, none⟩ = some (.slice A2 l2.length c2) ∧ w2.cell? ⟨w.heap.size, 3, none⟩ = some (.slice A3 l3.length c3) := ⟨Ctx.blk b1 0 rfl, Ctx.blk b1 1 rfl, Ctx.blk b1 2 rfl, Ctx.blk b1 3 rfl⟩
 have V2 := Aside0.mk v2
 have V3 := Aside0.mk v3
 clear b0 b1 v2 v3 b2 y2 y3
 go_wp2_with fail
 refine (r4_Get.calls k a0 a1 A2 c2 l2 (fun k => 0 ≤ k) A3 c3 l3 sChar _ _ _ _ _ _ (vC V2.out) (vle V2.out) V3.out G2.out).mono ?_
 rintro en W2 ⟨u2, u3, rfl, e2, e3, hb⟩
 obtain ⟨E2, p2, q2, rfl⟩ : ∃ A n c, u2 = .slice A n c := by
  obtain ⟨A, c, e⟩ := Kd.V_slice e2
  exact ⟨_, _, _, e⟩
 obtain ⟨F2, s2, t2, rfl⟩ : ∃ A n c, u3 = .slice A n c := by
  obtain ⟨A, c, e⟩ := Kd.V_slice e3
  exact ⟨_, _, _, e⟩
 have C := Ctx.new (cs := [.int .i64 j0, .string j1, .slice E2 p2 q2, .slice F2 s2 t2]) (t := 44) (Ctx.cons (uV Kd.string 9 0 (.slice E2 p2 q2) j2) (Kd.V_mono (show Kd.V Kd.string 9 W2 0 _ _ _ from e2) (fun _ _ => Nat.zero_le _)) (Ctx.cons (uV k44 44 0 (.slice F2 s2 t2) j3) (Kd.V_mono (show Kd.V k44 44 W2 0 _ _ _ from e3) (fun _ _ => Nat.zero_le _)) (K.out.below hb)))
 clear K V2 V3 G2 e2 e3 hb x0 x1 x2 x3
 go_upto_region 3 with fail
 refine absW _ C ?_
 clear C
 intro w3 C
 have K := Aside0.mk C
 obtain ⟨b3, z2, z3, b2, y2, y3, b0, b1, v2, v3, _⟩ := C
 obtain ⟨x0, x1, x2, x3⟩ : w3.cell? ⟨W1.heap.size, 0, none⟩ = some (.int .i64 i0) ∧ w3.cell? ⟨W1.heap.size, 1, none⟩ = some (.string i1) ∧ w3.cell? ⟨W1.heap.size, 2, none⟩ = some (.slice E1 p1 q1) ∧ w3.cell? ⟨W1.heap.size, 3, none⟩ = some (.slice F1 s1 t1) := ⟨Ctx.blk b2 0 rfl, Ctx.blk b2 1 rfl, Ctx.blk b2 2 rfl, Ctx.blk b2 3 rfl⟩
 obtain ⟨rfl, hq1, hC1⟩ := Kd.V_reads' (show Kd.V Kd.string 9 w3 0 _ _ _ from y2)
 obtain ⟨rfl, ht1, hC2⟩ := Kd.V_reads' (show Kd.V k44 44 w3 0 _ _ _ from y3)
 have hC1 := Aside0.mk hC1
 have hC2 := Aside0.mk hC2
 clear b0 b1 v2 v3 b2 y2 y3 b3 z2 z3
 go_wp2_with fail
 refine (r4_Int.calls k i0 i1 E1 q1 i2 F1 t1 i3 n nb _ hC1.out hq1 hC2.out ht1 G3.out).mono ?_
 rintro en W3 ⟨rfl, hb⟩
 have C := K.out.below hb
 clear K G3 hb hC1 hC2 x0 x1 x2 x3
 go_upto_region 4 with fail
 refine absW _ C ?_
 clear C
 intro w4 C
 have K := Aside0.mk C
 obtain ⟨b3, z2, z3, _⟩ := C
 obtain ⟨x0, x1, x2, x3⟩ : w4.cell? ⟨W2.heap.size, 0, none⟩ = some (.int .i64 j0) ∧ w4.cell? ⟨W2.heap.size, 1, none⟩ = some (.string j1) ∧ w4.cell? ⟨W2.heap.size, 2, none⟩ = some (.slice E2 p2 q2) ∧ w4.cell? ⟨W2.heap.size, 3, none⟩ = some (.slice F2 s2 t2) := ⟨Ctx.blk b3 0 rfl, Ctx.blk b3 1 rfl, Ctx.blk b3 2 rfl, Ctx.blk b3 3 rfl⟩
 obtain ⟨rfl, hq2, hC1⟩ := Kd.V_reads' (show Kd.V Kd.string 9 w4 0 _ _ _ from z2)
 obtain ⟨rfl, ht2, hC2⟩ := Kd.V_reads' (show Kd.V k44 44 w4 0 _ _ _ from z3)
 have hC1 := Aside0.mk hC1
 have hC2 := Aside0.mk hC2
 clear b3 z2 z3
 go_wp2_with fail
 refine (r4_Int.calls k j0 j1 E2 q2 j2 F2 t2 j3 m mb _ hC1.out hq2 hC2.out ht2 G4.out).mono ?_
 rintro en W4 ⟨rfl, hb⟩
 have C := K.out.below hb
 clear K G4 hb hC1 hC2 x0 x1 x2 x3
 obtain ⟨_, _, _, _, _, _, b0, _, _, _, hB, _⟩ := C
 obtain ⟨x0, x1⟩ : W4.cell? ⟨w.heap.size + 1, 0, none⟩ = some (.int .i64 0) ∧ W4.cell? ⟨w.heap.size + 1, 1, none⟩ = some (.int .i64 0) := ⟨Ctx.blk b0 0 rfl, Ctx.blk b0 1 rfl⟩
 have f0 := Ctx.frz b0 0
 have f1 := Ctx.frz b0 1
 have fb : ∀ x y, Below w.heap.size w ((W4.setCell ⟨w.heap.size + 1, 0, none⟩ x).setCell ⟨w.heap.size + 1, 1, none⟩ y) := fun x y => below_set (below_set hB (Nat.le_succ _)) (Nat.le_succ _)
 have fc : ∀ x y, ((W4.setCell ⟨w.heap.size + 1, 0, none⟩ x).setCell ⟨w.heap.size + 1, 1, none⟩ y).cell? ⟨w.heap.size + 1, 0, none⟩ = some x ∧ ((W4.setCell ⟨w.heap.size + 1, 0, none⟩ x).setCell ⟨w.heap.size + 1, 1, none⟩ y).cell? ⟨w.heap.size + 1, 1, none⟩ = some y := fun x y => by
  have h := Ctx.put (Ctx.put b0 0 x) 1 y
  exact ⟨Ctx.blk h 0 rfl, Ctx.blk h 1 rfl⟩
 have fb := Aside0.mk fb
 have fc := Aside0.mk fc
 clear b0 hB
 have h := H.out
 clear H
 have h := Aside0.mk h
 go_upto_region 5 with fail
 go_cut [45] (fun sv wc => sv = .bool (!(ib && jb && nb && mb)) ∧ wc = W4)
 case first =>
  cases ib <;> cases jb <;> cases nb <;> cases mb
  all_goals
   go_wp2_with fail
   go_meet
   exact ⟨rfl, rfl⟩
 case rest =>
  obtain ⟨rfl, rfl⟩ := hcut
  have hh := h.out
  clear h
  generalize (ib && jb && nb && mb) = bb at hh ⊢
  cases bb with
  | true =>
   obtain rfl := Option.some.inj hh
   clear hh
   go_wp2_with fail
   have FB := fb.out (.int .i64 (n)) (.int .i64 (m))
   have FC := fc.out (.int .i64 (n)) (.int .i64 (m))
   clear fb fc x0 x1 f0 f1
   generalize World.setCell _ _ _ = wf at FB FC ⊢
   obtain ⟨d0, d1⟩ := FC
   exact bodyPost_ret (v := .tuple #[.agg #[.int .i64 (n), .int .i64 (m)], .bool true]) (by simp [results, Tryd.results22, go_sem, d0, d1]) rfl ⟨rfl, FB⟩
  | false =>
   obtain rfl := Option.some.inj hh
   clear hh
   go_wp2_with fail
   have FB := fb.out (.int .i64 (0)) (.int .i64 (0))
   have FC := fc.out (.int .i64 (0)) (.int .i64 (0))
   clear fb fc x0 x1 f0 f1
   generalize World.setCell _ _ _ = wf at FB FC ⊢
   obtain ⟨d0, d1⟩ := FC
   exact bodyPost_ret (v := .tuple #[.agg #[.int .i64 (0), .int .i64 (0)], .bool false]) (by simp [results, Tryd.results22, go_sem, d0, d1]) rfl ⟨rfl, FB⟩
end Go.Proofs.YteighppcdpaekaaDoor.P
end
section
namespace Go.Proofs.YteighppcdpaekaaDoor.P
open Go.RowKit Go.Proofs.YteighppcdpaekaaDoorW.PrintWords Go.Proofs.YteighppcdpaekaaDoorW.PrintLast Go.Proofs.YteighppcdpaekaaDoorW.PrintMore
def sStart : ByteArray := ⟨#[115, 116, 97, 114, 116]⟩
def sEnd : ByteArray := ⟨#[101, 110, 100]⟩
abbrev RgOut := Int × Int × Int × Int × Bool
def rg6F (k : Nat) (a0 : Int) (a1 : ByteArray) (l2 : List ByteArray) (l3 : List S44) : Option RgOut :=
 (r4_Get.f k a0 a1 l2 l3 sStart).bind fun l => (r4_Get.f k a0 a1 l2 l3 sEnd).bind fun u =>
  (pos6F k l.1 l.2.1 l.2.2.1 l.2.2.2.1).bind fun n => (pos6F k u.1 u.2.1 u.2.2.1 u.2.2.2.1).bind fun m =>
   some (if (l.2.2.2.2 && u.2.2.2.2 && n.2.2 && m.2.2) = true then (n.1, n.2.1, m.1, m.2.1, true) else (0, 0, 0, 0, false))
set_option linter.unusedSimpArgs false in
set_option maxRecDepth 100000 in
set_option maxHeartbeats 3200000 in
theorem rg6_calls (k : Nat) (a0 : Int) (a1 : ByteArray) (A2 : Option Addr) (c2 : Nat) (l2 : List ByteArray) (A3 : Option Addr) (c3 : Nat) (l3 : List S44) (r : RgOut) (w : World) (h2 : Kd.V Kd.string 9 w 0 (fun k => 0 ≤ k) (.slice A2 l2.length c2) l2) (h3 : Kd.V k44 44 w 0 (fun k => 0 ≤ k) (.slice A3 l3.length c3) l3) (h : rg6F k a0 a1 l2 l3 = some r) :
  Calls Tryd.prog 24 #[.agg #[.int .i64 a0, .string a1, .slice A2 l2.length c2, .slice A3 l3.length c3]] w fun e w' => e = .returned (.tuple #[.agg #[.int .i64 r.1, .int .i64 r.2.1], .agg #[.int .i64 r.2.2.1, .int .i64 r.2.2.2.1], .bool r.2.2.2.2]) ∧ Below w.heap.size w w' := by
 obtain ⟨⟨i0, i1, i2, i3, ib⟩, g1, h⟩ := Option.bind_eq_some_iff.mp h
 obtain ⟨⟨j0, j1, j2, j3, jb⟩, g2, h⟩ := Option.bind_eq_some_iff.mp h
 obtain ⟨⟨n, n', nb⟩, g3, h⟩ := Option.bind_eq_some_iff.mp h
 obtain ⟨⟨m, m', mb⟩, g4, h⟩ := Option.bind_eq_some_iff.mp h
 have H := Aside0.mk h
 have G1 := Aside0.mk g1
 have G2 := Aside0.mk g2
 have G3 := Aside0.mk g3
 have G4 := Aside0.mk g4
 clear h g1 g2 g3 g4
 have C0 : Ctx [uBlk (w.heap.size + 1 + 1) [.int .i64 0, .int .i64 0] 57, uBlk (w.heap.size + 1) [.int .i64 0, .int .i64 0] 57, uBlk w.heap.size [.int .i64 a0, .string a1, .slice A2 l2.length c2, .slice A3 l3.length c3] 44, uV Kd.string 9 0 (.slice A2 l2.length c2) l2, uV k44 44 0 (.slice A3 l3.length c3) l3, uB w] (((w.alloc (.cells #[.int .i64 a0, .string a1, .slice A2 l2.length c2, .slice A3 l3.length c3] 44 (0, 0))).alloc (.cells #[.int .i64 0, .int .i64 0] 57 (0, 0))).alloc (.cells #[.int .i64 0, .int .i64 0] 57 (0, 0))) := by
  have e := Ctx.new (cs := [.int .i64 0, .int .i64 0]) (t := 57) (Ctx.new (cs := [.int .i64 0, .int .i64 0]) (t := 57) (Ctx.new (cs := [.int .i64 a0, .string a1, .slice A2 l2.length c2, .slice A3 l3.length c3]) (t := 44) (Ctx.cons (uV Kd.string 9 0 (.slice A2 l2.length c2) l2) h2 (Ctx.cons (uV k44 44 0 (.slice A3 l3.length c3) l3) h3 (Ctx.cons (uB w) (Below.refl _ _) (Ctx.nil))))))
  simpa using e
 clear h2 h3
 go_enter Tryd.func24, Tryd.ntmps24
 go_upto_region 1 with fail
 refine absW _ C0 ?_
 clear C0
 intro w1 C
 have K := Aside0.mk C
 obtain ⟨b00, b0, b1, v2, v3, _⟩ := C
 obtain ⟨x0, x1, x2, x3⟩ : w1.cell? ⟨w.heap.size, 0, none⟩ = some (.int .i64 a0) ∧ w1.cell? ⟨w.heap.size, 1, none⟩ = some (.string a1) ∧ w1.cell? ⟨w.heap.size, 2, none⟩ = some (.slice A2 l2.length c2) ∧ w1.cell? ⟨w.heap.size, 3, none⟩ = some (.slice A3 l3.length c3) := ⟨Ctx.blk b1 0 rfl, Ctx.blk b1 1 rfl, Ctx.blk b1 2 rfl, Ctx.blk b1 3 rfl⟩
 have V2 := Aside0.mk v2
 have V3 := Aside0.mk v3
 clear b00 b0 b1 v2 v3
 go_wp2_with fail
 refine (r4_Get.calls k a0 a1 A2 c2 l2 (fun k => 0 ≤ k) A3 c3 l3 sStart _ _ _ _ _ _ (vC V2.out) (vle V2.out) V3.out G1.out).mono ?_
 rintro en W1 ⟨u2, u3, rfl, e2, e3, hb⟩
 obtain ⟨E1, p1, q1, rfl⟩ : ∃ A n c, u2 = .slice A n c := by
  obtain ⟨A, c, e⟩ := Kd.V_slice e2
  exact ⟨_, _, _, e⟩
 obtain ⟨F1, s1, t1, rfl⟩ : ∃ A n c, u3 = .slice A n c := by
  obtain ⟨A, c, e⟩ := Kd.V_slice e3
  exact ⟨_, _, _, e⟩
 have C := Ctx.new (cs := [.int .i64 i0, .string i1, .slice E1 p1 q1, .slice F1 s1 t1]) (t := 44) (Ctx.cons (uV Kd.string 9 0 (.slice E1 p1 q1) i2) (Kd.V_mono (show Kd.V Kd.string 9 W1 0 _ _ _ from e2) (fun _ _ => Nat.zero_le _)) (Ctx.cons (uV k44 44 0 (.slice F1 s1 t1) i3) (Kd.V_mono (show Kd.V k44 44 W1 0 _ _ _ from e3) (fun _ _ => Nat.zero_le _)) (K.out.below hb)))
 clear K V2 V3 G1 e2 e3 hb x0 x1 x2 x3
 go_upto_region 2 with fail
 refine absW _ C ?_
 clear C
 intro w2 C
 have K := Aside0.mk C
 obtain ⟨b2, y2, y3, _, b0, b1, v2, v3, _⟩ := C
 obtain ⟨x0, x1, x2, x3⟩ : w2.cell? ⟨w.heap.size, 0, none⟩ = some (.int .i64 a0) ∧ w2.cell? ⟨w.heap.size, 1, none⟩ = some (.string a1) ∧ w2.cell? ⟨w.heap.size, 2, none⟩ = some (.slice A2 l2.length c2) ∧ w2.cell? ⟨w.heap.size, 3, none⟩ = some (.slice A3 l3.length c3) := ⟨Ctx.blk b1 0 rfl, Ctx.blk b1 1 rfl, Ctx.blk b1 2 rfl, Ctx.blk b1 3 rfl⟩
 have V2 := Aside0.mk v2
 have V3 := Aside0.mk v3
 clear b0 b1 v2 v3 b2 y2 y3
 go_wp2_with fail
 refine (r4_Get.calls k a0 a1 A2 c2 l2 (fun k => 0 ≤ k) A3 c3 l3 sEnd _ _ _ _ _ _ (vC V2.out) (vle V2.out) V3.out G2.out).mono ?_
 rintro en W2 ⟨u2, u3, rfl, e2, e3, hb⟩
 obtain ⟨E2, p2, q2, rfl⟩ : ∃ A n c, u2 = .slice A n c := by
  obtain ⟨A, c, e⟩ := Kd.V_slice e2
  exact ⟨_, _, _, e⟩
 obtain ⟨F2, s2, t2, rfl⟩ : ∃ A n c, u3 = .slice A n c := by
  obtain ⟨A, c, e⟩ := Kd.V_slice e3
  exact ⟨_, _, _, e⟩
 have C := Ctx.new (cs := [.int .i64 j0, .string j1, .slice E2 p2 q2, .slice F2 s2 t2]) (t := 44) (Ctx.cons (uV Kd.string 9 0 (.slice E2 p2 q2) j2) (Kd.V_mono (show Kd.V Kd.string 9 W2 0 _ _ _ from e2) (fun _ _ => Nat.zero_le _)) (Ctx.cons (uV k44 44 0 (.slice F2 s2 t2) j3) (Kd.V_mono (show Kd.V k44 44 W2 0 _ _ _ from e3) (fun _ _ => Nat.zero_le _)) (K.out.below hb)))
 clear K V2 V3 G2 e2 e3 hb x0 x1 x2 x3
 go_upto_region 3 with fail
 refine absW _ C ?_
 clear C
 intro w3 C
 have K := Aside0.mk C
 obtain ⟨_, _, _, b2, y2, y3, _⟩ := C
 obtain ⟨x0, x1, x2, x3⟩ : w3.cell? ⟨W1.heap.size, 0, none⟩ = some (.int .i64 i0) ∧ w3.cell? ⟨W1.heap.size, 1, none⟩ = some (.string i1) ∧ w3.cell? ⟨W1.heap.size, 2, none⟩ = some (.slice E1 p1 q1) ∧ w3.cell? ⟨W1.heap.size, 3, none⟩ = some (.slice F1 s1 t1) := ⟨Ctx.blk b2 0 rfl, Ctx.blk b2 1 rfl, Ctx.blk b2 2 rfl, Ctx.blk b2 3 rfl⟩
 obtain ⟨rfl, _, _⟩ := Kd.V_reads' (show Kd.V Kd.string 9 w3 0 _ _ _ from y2)
 obtain ⟨rfl, _, _⟩ := Kd.V_reads' (show Kd.V k44 44 w3 0 _ _ _ from y3)
 have Y2 := Aside0.mk y2
 have Y3 := Aside0.mk y3
 clear b2 y2 y3
 go_wp2_with fail
 refine (pos6_calls k i0 i1 E1 q1 i2 F1 t1 i3 (n, n', nb) _ Y2.out Y3.out G3.out).mono ?_
 rintro en W3 ⟨rfl, hb⟩
 have L3 := Aside0.mk (show w.heap.size + 1 + 1 < W3.heap.size by
  obtain ⟨_, _, _, _, _, _, c, _⟩ := K.out.below hb
  exact blk_lt (show W3.heap[w.heap.size + 1 + 1]? = _ from c))
 have C := Ctx.new (cs := [.int .i64 n, .int .i64 n']) (t := 57) (K.out.below hb)
 clear K G3 hb Y2 Y3 x0 x1 x2 x3
 go_upto_region 4 with fail
 refine absW _ C ?_
 clear C
 intro w4 C
 have K := Aside0.mk C
 obtain ⟨_, b3, z2, z3, _⟩ := C
 obtain ⟨x0, x1, x2, x3⟩ : w4.cell? ⟨W2.heap.size, 0, none⟩ = some (.int .i64 j0) ∧ w4.cell? ⟨W2.heap.size, 1, none⟩ = some (.string j1) ∧ w4.cell? ⟨W2.heap.size, 2, none⟩ = some (.slice E2 p2 q2) ∧ w4.cell? ⟨W2.heap.size, 3, none⟩ = some (.slice F2 s2 t2) := ⟨Ctx.blk b3 0 rfl, Ctx.blk b3 1 rfl, Ctx.blk b3 2 rfl, Ctx.blk b3 3 rfl⟩
 obtain ⟨rfl, _, _⟩ := Kd.V_reads' (show Kd.V Kd.string 9 w4 0 _ _ _ from z2)
 obtain ⟨rfl, _, _⟩ := Kd.V_reads' (show Kd.V k44 44 w4 0 _ _ _ from z3)
 have Y2 := Aside0.mk z2
 have Y3 := Aside0.mk z3
 clear b3 z2 z3
 go_wp2_with fail
 refine (pos6_calls k j0 j1 E2 q2 j2 F2 t2 j3 (m, m', mb) _ Y2.out Y3.out G4.out).mono ?_
 rintro en W4 ⟨rfl, hb⟩
 have L4 := Aside0.mk (show w.heap.size + 1 + 1 < W4.heap.size by
  obtain ⟨_, _, _, _, _, _, _, c, _⟩ := K.out.below hb
  exact blk_lt (show W4.heap[w.heap.size + 1 + 1]? = _ from c))
 have C := Ctx.new (cs := [.int .i64 m, .int .i64 m']) (t := 57) (K.out.below hb)
 clear K G4 hb Y2 Y3 x0 x1 x2 x3
 go_upto_region 5 with fail
 refine absW _ C ?_
 clear C
 intro w5 C
 have K := Aside0.mk C
 clear C
 have h := Aside0.mk H.out
 clear H
 go_cut [46] (fun sv wc => sv = .bool (!(ib && jb && nb && mb)) ∧ wc = w5)
 case first =>
  cases ib <;> cases jb <;> cases nb <;> cases mb
  all_goals
   go_wp2_with fail
   go_meet
   exact ⟨rfl, rfl⟩
 case rest =>
  obtain ⟨rfl, rfl⟩ := hcut
  have hh := h.out
  clear h
  obtain ⟨b5, b4, _, _, _, _, _, _, b00, b0, _, _, _, hB, _⟩ := K.out
  obtain ⟨x0, x1⟩ : wc.cell? ⟨w.heap.size + 1, 0, none⟩ = some (.int .i64 0) ∧ wc.cell? ⟨w.heap.size + 1, 1, none⟩ = some (.int .i64 0) := ⟨Ctx.blk b0 0 rfl, Ctx.blk b0 1 rfl⟩
  obtain ⟨x2, x3⟩ : wc.cell? ⟨w.heap.size + 1 + 1, 0, none⟩ = some (.int .i64 0) ∧ wc.cell? ⟨w.heap.size + 1 + 1, 1, none⟩ = some (.int .i64 0) := ⟨Ctx.blk b00 0 rfl, Ctx.blk b00 1 rfl⟩
  have f0 := Ctx.frz b0 0
  have f1 := Ctx.frz b0 1
  have f2 := Ctx.frz b00 0
  have f3 := Ctx.frz b00 1
  have hne : w.heap.size + 1 ≠ w.heap.size + 1 + 1 := by omega
  have fb : ∀ a b c d, Below w.heap.size w ((((wc.setCell ⟨w.heap.size + 1, 0, none⟩ a).setCell ⟨w.heap.size + 1, 1, none⟩ b).setCell ⟨w.heap.size + 1 + 1, 0, none⟩ c).setCell ⟨w.heap.size + 1 + 1, 1, none⟩ d) ∧
    ((((wc.setCell ⟨w.heap.size + 1, 0, none⟩ a).setCell ⟨w.heap.size + 1, 1, none⟩ b).setCell ⟨w.heap.size + 1 + 1, 0, none⟩ c).setCell ⟨w.heap.size + 1 + 1, 1, none⟩ d).cell? ⟨w.heap.size + 1, 0, none⟩ = some a ∧
    ((((wc.setCell ⟨w.heap.size + 1, 0, none⟩ a).setCell ⟨w.heap.size + 1, 1, none⟩ b).setCell ⟨w.heap.size + 1 + 1, 0, none⟩ c).setCell ⟨w.heap.size + 1 + 1, 1, none⟩ d).cell? ⟨w.heap.size + 1, 1, none⟩ = some b ∧
    ((((wc.setCell ⟨w.heap.size + 1, 0, none⟩ a).setCell ⟨w.heap.size + 1, 1, none⟩ b).setCell ⟨w.heap.size + 1 + 1, 0, none⟩ c).setCell ⟨w.heap.size + 1 + 1, 1, none⟩ d).cell? ⟨w.heap.size + 1 + 1, 0, none⟩ = some c ∧
    ((((wc.setCell ⟨w.heap.size + 1, 0, none⟩ a).setCell ⟨w.heap.size + 1, 1, none⟩ b).setCell ⟨w.heap.size + 1 + 1, 0, none⟩ c).setCell ⟨w.heap.size + 1 + 1, 1, none⟩ d).cell? ⟨w.heap.size + 1 + 1, 1, none⟩ = some d := fun a b c d => by
   have h1 := Ctx.far (Ctx.far (Ctx.put (Ctx.put b0 0 a) 1 b) 0 c hne) 1 d hne
   have h2 := Ctx.put (Ctx.put (Ctx.far (Ctx.far b00 0 a hne.symm) 1 b hne.symm) 0 c) 1 d
   exact ⟨below_set (below_set (below_set (below_set hB (by omega)) (by omega)) (by omega)) (by omega), Ctx.blk h1 0 rfl, Ctx.blk h1 1 rfl, Ctx.blk h2 0 rfl, Ctx.blk h2 1 rfl⟩
  have fb := Aside0.mk fb
  obtain ⟨y0, y1⟩ : wc.cell? ⟨W3.heap.size, 0, none⟩ = some (.int .i64 n) ∧ wc.cell? ⟨W3.heap.size, 1, none⟩ = some (.int .i64 n') := ⟨Ctx.blk b4 0 rfl, Ctx.blk b4 1 rfl⟩
  obtain ⟨z0, z1⟩ : wc.cell? ⟨W4.heap.size, 0, none⟩ = some (.int .i64 m) ∧ wc.cell? ⟨W4.heap.size, 1, none⟩ = some (.int .i64 m') := ⟨Ctx.blk b5 0 rfl, Ctx.blk b5 1 rfl⟩
  clear b5 b4 b00 b0 hB K
  generalize (ib && jb && nb && mb) = bb at hh ⊢
  cases bb with
  | false =>
   obtain rfl := Option.some.inj hh
   clear hh
   have F := Aside0.mk (fb.out (.int .i64 (0)) (.int .i64 (0)) (.int .i64 (0)) (.int .i64 (0)))
   clear fb
   go_wp2_with fail
   all_goals
    have F := F.out
    generalize World.setCell _ _ _ = wf at F ⊢
    obtain ⟨FB, d0, d1, d2, d3⟩ := F
    exact bodyPost_ret (v := .tuple #[.agg #[.int .i64 (0), .int .i64 (0)], .agg #[.int .i64 (0), .int .i64 (0)], .bool false]) (by simp [results, Tryd.results24, go_sem, Act.put, d0, d1, d2, d3]) rfl ⟨rfl, FB⟩
  | true =>
   obtain rfl := Option.some.inj hh
   clear hh
   have F := Aside0.mk (fb.out (.int .i64 (n)) (.int .i64 (n')) (.int .i64 (m)) (.int .i64 (m')))
   clear fb
   go_upto_region 7 with fail
   have hn1 : W3.heap.size ≠ w.heap.size + 1 := by have := L3.out; omega
   have hn2 : W3.heap.size ≠ w.heap.size + 1 + 1 := by have := L3.out; omega
   have hn3 : W4.heap.size ≠ w.heap.size + 1 := by have := L4.out; omega
   have hn4 : W4.heap.size ≠ w.heap.size + 1 + 1 := by have := L4.out; omega
   go_region_with (fail)
   all_goals
    go_wp2
    have F := F.out
    generalize World.setCell _ _ _ = wf at F ⊢
    obtain ⟨FB, d0, d1, d2, d3⟩ := F
    have d0 : wf.drew.cell? ⟨w.heap.size + 1, 0, none⟩ = _ := d0
    have d1 : wf.drew.cell? ⟨w.heap.size + 1, 1, none⟩ = _ := d1
    have d2 : wf.drew.cell? ⟨w.heap.size + 1 + 1, 0, none⟩ = _ := d2
    have d3 : wf.drew.cell? ⟨w.heap.size + 1 + 1, 1, none⟩ = _ := d3
    exact bodyPost_ret (v := .tuple #[.agg #[.int .i64 (n), .int .i64 (n')], .agg #[.int .i64 (m), .int .i64 (m')], .bool true]) (by simp [results, Tryd.results24, go_sem, Act.put, d0, d1, d2, d3]) rfl ⟨rfl, bdr1 FB⟩
end Go.Proofs.YteighppcdpaekaaDoor.P
end
section
namespace Go.Proofs.YteighppcdpaekaaDoor.P
open Go.RowKit Go.Proofs.YteighppcdpaekaaDoorW.PrintWords Go.Proofs.YteighppcdpaekaaDoorW.PrintLast Go.Proofs.YteighppcdpaekaaDoorW.PrintMore
def posJF (k : Nat) (a0 : Int) (a1 : ByteArray) (l2 : List ByteArray) (l3 : List S27) : Option (Int × Int × Bool) :=
 (json_Get.f k a0 a1 l2 l3 sLine).bind fun l => (json_Get.f k a0 a1 l2 l3 sChar).bind fun u =>
  if (l.2.2.2.2 && u.2.2.2.2) = true then
   (json_Int.f l.1 l.2.1 l.2.2.1 l.2.2.2.1).bind fun n => (json_Int.f u.1 u.2.1 u.2.2.1 u.2.2.2.1).bind fun m =>
    some (if (n.2 && m.2) = true then (n.1, m.1, true) else (0, 0, false))
  else some (0, 0, false)
set_option maxRecDepth 100000 in
set_option maxHeartbeats 3200000 in
theorem posJ_calls (k : Nat) (a0 : Int) (a1 : ByteArray) (A2 : Option Addr) (c2 : Nat) (l2 : List ByteArray) (A3 : Option Addr) (c3 : Nat) (l3 : List S27) (r : Int × Int × Bool) (w : World) (h2 : Kd.V Kd.string 9 w 0 (fun k => 0 ≤ k) (.slice A2 l2.length c2) l2) (h3 : Kd.V k27 27 w 0 (fun k => 0 ≤ k) (.slice A3 l3.length c3) l3) (h : posJF k a0 a1 l2 l3 = some r) (hT : TabOk w) :
  Calls Tryd.prog 20 #[.agg #[.int .i64 a0, .string a1, .slice A2 l2.length c2, .slice A3 l3.length c3]] w fun e w' => e = .returned (.tuple #[.agg #[.int .i64 r.1, .int .i64 r.2.1], .bool r.2.2]) ∧ Below w.heap.size w w' := by
 obtain ⟨⟨i0, i1, i2, i3, ib⟩, g1, h⟩ := Option.bind_eq_some_iff.mp h
 obtain ⟨⟨j0, j1, j2, j3, jb⟩, g2, h⟩ := Option.bind_eq_some_iff.mp h
 have H := Aside0.mk h
 have G1 := Aside0.mk g1
 have G2 := Aside0.mk g2
 have HT := Aside0.mk hT
 clear h g1 g2 hT
 have C0 : Ctx [uBlk (w.heap.size + 1) [.int .i64 0, .int .i64 0] 57, uBlk w.heap.size [.int .i64 a0, .string a1, .slice A2 l2.length c2, .slice A3 l3.length c3] 27, uV Kd.string 9 0 (.slice A2 l2.length c2) l2, uV k27 27 0 (.slice A3 l3.length c3) l3, uB w, uTab] ((w.alloc (.cells #[.int .i64 a0, .string a1, .slice A2 l2.length c2, .slice A3 l3.length c3] 27 (0, 0))).alloc (.cells #[.int .i64 0, .int .i64 0] 57 (0, 0))) := by
  have e := Ctx.new (cs := [.int .i64 0, .int .i64 0]) (t := 57) (Ctx.new (cs := [.int .i64 a0, .string a1, .slice A2 l2.length c2, .slice A3 l3.length c3]) (t := 27) (Ctx.cons (uV Kd.string 9 0 (.slice A2 l2.length c2) l2) h2 (Ctx.cons (uV k27 27 0 (.slice A3 l3.length c3) l3) h3 (Ctx.cons (uB w) (Below.refl _ _) (Ctx.cons uTab HT.out (Ctx.nil))))))
  simpa using e
 clear h2 h3
 go_enter Tryd.func20, Tryd.ntmps20
 go_upto_region 1 with fail
 refine absW _ C0 ?_
 clear C0
 intro w1 C
 have K := Aside0.mk C
 obtain ⟨b0, b1, v2, v3, _⟩ := C
 obtain ⟨x0, x1, x2, x3⟩ : w1.cell? ⟨w.heap.size, 0, none⟩ = some (.int .i64 a0) ∧ w1.cell? ⟨w.heap.size, 1, none⟩ = some (.string a1) ∧ w1.cell? ⟨w.heap.size, 2, none⟩ = some (.slice A2 l2.length c2) ∧ w1.cell? ⟨w.heap.size, 3, none⟩ = some (.slice A3 l3.length c3) := ⟨Ctx.blk b1 0 rfl, Ctx.blk b1 1 rfl, Ctx.blk b1 2 rfl, Ctx.blk b1 3 rfl⟩
 have V2 := Aside0.mk v2
 have V3 := Aside0.mk v3
 clear b0 b1 v2 v3
 go_wp2_with fail
 refine (json_Get.calls k a0 a1 A2 c2 l2 (fun k => 0 ≤ k) A3 c3 l3 sLine _ _ _ _ _ _ (vC V2.out) (vle V2.out) V3.out G1.out).mono ?_
 rintro en W1 ⟨u2, u3, rfl, e2, e3, hb⟩
 obtain ⟨E1, p1, q1, rfl⟩ : ∃ A n c, u2 = .slice A n c := by
  obtain ⟨A, c, e⟩ := Kd.V_slice e2
  exact ⟨_, _, _, e⟩
 obtain ⟨F1, s1, t1, rfl⟩ : ∃ A n c, u3 = .slice A n c := by
  obtain ⟨A, c, e⟩ := Kd.V_slice e3
  exact ⟨_, _, _, e⟩
 have C := Ctx.new (cs := [.int .i64 i0, .string i1, .slice E1 p1 q1, .slice F1 s1 t1]) (t := 27) (Ctx.cons (uV Kd.string 9 0 (.slice E1 p1 q1) i2) (Kd.V_mono (show Kd.V Kd.string 9 W1 0 _ _ _ from e2) (fun _ _ => Nat.zero_le _)) (Ctx.cons (uV k27 27 0 (.slice F1 s1 t1) i3) (Kd.V_mono (show Kd.V k27 27 W1 0 _ _ _ from e3) (fun _ _ => Nat.zero_le _)) (K.out.below hb)))
 clear K V2 V3 G1 e2 e3 hb x0 x1 x2 x3
 go_upto_region 2 with fail
 refine absW _ C ?_
 clear C
 intro w2 C
 have K := Aside0.mk C
 obtain ⟨b2, y2, y3, b0, b1, v2, v3, _⟩ := C
 obtain ⟨x0, x1, x2, x3⟩ : w2.cell? ⟨w.heap.size, 0, none⟩ = some (.int .i64 a0) ∧ w2.cell? ⟨w.heap.size, 1, none⟩ = some (.string a1) ∧ w2.cell? ⟨w.heap.size, 2, none⟩ = some (.slice A2 l2.length c2) ∧ w2.cell? ⟨w.heap.size, 3, none⟩ = some (.slice A3 l3.length c3) := ⟨Ctx.blk b1 0 rfl, Ctx.blk b1 1 rfl, Ctx.blk b1 2 rfl, Ctx.blk b1 3 rfl⟩
 have V2 := Aside0.mk v2
 have V3 := Aside0.mk v3
 clear b0 b1 v2 v3 b2 y2 y3
 go_wp2_with fail
 refine (json_Get.calls k a0 a1 A2 c2 l2 (fun k => 0 ≤ k) A3 c3 l3 sChar _ _ _ _ _ _ (vC V2.out) (vle V2.out) V3.out G2.out).mono ?_
 rintro en W2 ⟨u2, u3, rfl, e2, e3, hb⟩
 obtain ⟨E2, p2, q2, rfl⟩ : ∃ A n c, u2 = .slice A n c := by
  obtain ⟨A, c, e⟩ := Kd.V_slice e2
  exact ⟨_, _, _, e⟩
 obtain ⟨F2, s2, t2, rfl⟩ : ∃ A n c, u3 = .slice A n c := by
  obtain ⟨A, c, e⟩ := Kd.V_slice e3
  exact ⟨_, _, _, e⟩
 have C := Ctx.new (cs := [.int .i64 j0, .string j1, .slice E2 p2 q2, .slice F2 s2 t2]) (t := 27) (Ctx.cons (uV Kd.string 9 0 (.slice E2 p2 q2) j2) (Kd.V_mono (show Kd.V Kd.string 9 W2 0 _ _ _ from e2) (fun _ _ => Nat.zero_le _)) (Ctx.cons (uV k27 27 0 (.slice F2 s2 t2) j3) (Kd.V_mono (show Kd.V k27 27 W2 0 _ _ _ from e3) (fun _ _ => Nat.zero_le _)) (K.out.below hb)))
 clear K V2 V3 G2 e2 e3 hb x0 x1 x2 x3
 go_upto_region 3 with fail
 refine absW _ C ?_
 clear C
 intro w3 C
 have K := Aside0.mk C
 clear C HT
 have h := Aside0.mk H.out
 clear H
 go_cut [27] (fun sv wc => sv = .bool (!(ib && jb)) ∧ wc = w3)
 case first =>
  cases ib <;> cases jb
  all_goals
   go_wp2_with fail
   go_meet
   exact ⟨rfl, rfl⟩
 case rest =>
  obtain ⟨rfl, rfl⟩ := hcut
  have hh := h.out
  clear h
  generalize (ib && jb) = bb at hh ⊢
  cases bb with
  | false =>
   rw [if_neg (by decide)] at hh
   obtain rfl := Option.some.inj hh
   clear hh
   obtain ⟨_, _, _, _, _, _, b0, _, _, _, hB, _⟩ := K.out
   obtain ⟨x0, x1⟩ : wc.cell? ⟨w.heap.size + 1, 0, none⟩ = some (.int .i64 0) ∧ wc.cell? ⟨w.heap.size + 1, 1, none⟩ = some (.int .i64 0) := ⟨Ctx.blk b0 0 rfl, Ctx.blk b0 1 rfl⟩
   have f0 := Ctx.frz b0 0
   have f1 := Ctx.frz b0 1
   have fb : ∀ x y, Below w.heap.size w ((wc.setCell ⟨w.heap.size + 1, 0, none⟩ x).setCell ⟨w.heap.size + 1, 1, none⟩ y) := fun x y => below_set (below_set hB (Nat.le_succ _)) (Nat.le_succ _)
   have fc : ∀ x y, ((wc.setCell ⟨w.heap.size + 1, 0, none⟩ x).setCell ⟨w.heap.size + 1, 1, none⟩ y).cell? ⟨w.heap.size + 1, 0, none⟩ = some x ∧ ((wc.setCell ⟨w.heap.size + 1, 0, none⟩ x).setCell ⟨w.heap.size + 1, 1, none⟩ y).cell? ⟨w.heap.size + 1, 1, none⟩ = some y := fun x y => by
    have h := Ctx.put (Ctx.put b0 0 x) 1 y
    exact ⟨Ctx.blk h 0 rfl, Ctx.blk h 1 rfl⟩
   have fb := Aside0.mk fb
   have fc := Aside0.mk fc
   clear b0 hB K
   go_wp2_with fail
   have FB := fb.out (.int .i64 (0)) (.int .i64 (0))
   have FC := fc.out (.int .i64 (0)) (.int .i64 (0))
   clear fb fc x0 x1 f0 f1
   generalize World.setCell _ _ _ = wf at FB FC ⊢
   obtain ⟨d0, d1⟩ := FC
   exact bodyPost_ret (v := .tuple #[.agg #[.int .i64 (0), .int .i64 (0)], .bool false]) (by simp [results, Tryd.results20, go_sem, d0, d1]) rfl ⟨rfl, FB⟩
  | true =>
   rw [if_pos rfl] at hh
   obtain ⟨⟨n, nb⟩, g3, hh⟩ := Option.bind_eq_some_iff.mp hh
   obtain ⟨⟨m, mb⟩, g4, hh⟩ := Option.bind_eq_some_iff.mp hh
   have H := Aside0.mk hh
   have G3 := Aside0.mk g3
   have G4 := Aside0.mk g4
   clear hh g3 g4
   obtain ⟨b3, z2, z3, b2, y2, y3, _, _, _, _, _, hT, _⟩ := K.out
   have HT := Aside0.mk (show TabOk wc from hT)
   obtain ⟨x0, x1, x2, x3⟩ : wc.cell? ⟨W1.heap.size, 0, none⟩ = some (.int .i64 i0) ∧ wc.cell? ⟨W1.heap.size, 1, none⟩ = some (.string i1) ∧ wc.cell? ⟨W1.heap.size, 2, none⟩ = some (.slice E1 p1 q1) ∧ wc.cell? ⟨W1.heap.size, 3, none⟩ = some (.slice F1 s1 t1) := ⟨Ctx.blk b2 0 rfl, Ctx.blk b2 1 rfl, Ctx.blk b2 2 rfl, Ctx.blk b2 3 rfl⟩
   obtain ⟨rfl, hq1, hC1⟩ := Kd.V_reads' (show Kd.V Kd.string 9 wc 0 _ _ _ from y2)
   obtain ⟨rfl, ht1, hC2⟩ := Kd.V_reads' (show Kd.V k27 27 wc 0 _ _ _ from y3)
   have hC1 := Aside0.mk hC1
   have hC2 := Aside0.mk hC2
   clear hT b2 y2 y3 b3 z2 z3
   go_wp2_with fail
   refine (json_Int.calls i0 i1 E1 q1 i2 F1 t1 i3 n nb _ hC1.out hq1 hC2.out ht1 G3.out HT.out).mono ?_
   rintro en W3 ⟨rfl, hb⟩
   have C := K.out.below hb
   clear K G3 hb hC1 hC2 x0 x1 x2 x3 HT
   go_upto_region 6 with fail
   refine absW _ C ?_
   clear C
   intro w4 C
   have K := Aside0.mk C
   obtain ⟨b3, z2, z3, _, _, _, _, _, _, _, _, hT, _⟩ := C
   have HT := Aside0.mk (show TabOk w4 from hT)
   obtain ⟨x0, x1, x2, x3⟩ : w4.cell? ⟨W2.heap.size, 0, none⟩ = some (.int .i64 j0) ∧ w4.cell? ⟨W2.heap.size, 1, none⟩ = some (.string j1) ∧ w4.cell? ⟨W2.heap.size, 2, none⟩ = some (.slice E2 p2 q2) ∧ w4.cell? ⟨W2.heap.size, 3, none⟩ = some (.slice F2 s2 t2) := ⟨Ctx.blk b3 0 rfl, Ctx.blk b3 1 rfl, Ctx.blk b3 2 rfl, Ctx.blk b3 3 rfl⟩
   obtain ⟨rfl, hq2, hC1⟩ := Kd.V_reads' (show Kd.V Kd.string 9 w4 0 _ _ _ from z2)
   obtain ⟨rfl, ht2, hC2⟩ := Kd.V_reads' (show Kd.V k27 27 w4 0 _ _ _ from z3)
   have hC1 := Aside0.mk hC1
   have hC2 := Aside0.mk hC2
   clear hT b3 z2 z3
   go_wp2_with fail
   refine (json_Int.calls j0 j1 E2 q2 j2 F2 t2 j3 m mb _ hC1.out hq2 hC2.out ht2 G4.out HT.out).mono ?_
   rintro en W4 ⟨rfl, hb⟩
   have C := K.out.below hb
   clear K G4 hb hC1 hC2 x0 x1 x2 x3 HT
   go_upto_region 7 with fail
   refine absW _ C ?_
   clear C
   intro w5 C
   have K := Aside0.mk C
   clear C
   go_cut [44] (fun sv wc => sv = .bool (!(nb && mb)) ∧ wc = w5)
   case first =>
    cases nb <;> cases mb
    all_goals
     go_wp2_with fail
     go_meet
     exact ⟨rfl, rfl⟩
   case rest =>
    obtain ⟨rfl, rfl⟩ := hcut
    have hh := H.out
    clear H
    generalize (nb && mb) = bb at hh ⊢
    cases bb with
    | false =>
     obtain rfl := Option.some.inj hh
     clear hh
     obtain ⟨_, _, _, _, _, _, b0, _, _, _, hB, _⟩ := K.out
     obtain ⟨x0, x1⟩ : wc.cell? ⟨w.heap.size + 1, 0, none⟩ = some (.int .i64 0) ∧ wc.cell? ⟨w.heap.size + 1, 1, none⟩ = some (.int .i64 0) := ⟨Ctx.blk b0 0 rfl, Ctx.blk b0 1 rfl⟩
     have f0 := Ctx.frz b0 0
     have f1 := Ctx.frz b0 1
     have fb : ∀ x y, Below w.heap.size w ((wc.setCell ⟨w.heap.size + 1, 0, none⟩ x).setCell ⟨w.heap.size + 1, 1, none⟩ y) := fun x y => below_set (below_set hB (Nat.le_succ _)) (Nat.le_succ _)
     have fc : ∀ x y, ((wc.setCell ⟨w.heap.size + 1, 0, none⟩ x).setCell ⟨w.heap.size + 1, 1, none⟩ y).cell? ⟨w.heap.size + 1, 0, none⟩ = some x ∧ ((wc.setCell ⟨w.heap.size + 1, 0, none⟩ x).setCell ⟨w.heap.size + 1, 1, none⟩ y).cell? ⟨w.heap.size + 1, 1, none⟩ = some y := fun x y => by
      have h := Ctx.put (Ctx.put b0 0 x) 1 y
      exact ⟨Ctx.blk h 0 rfl, Ctx.blk h 1 rfl⟩
     have fb := Aside0.mk fb
     have fc := Aside0.mk fc
     clear b0 hB K
     go_wp2_with fail
     have FB := fb.out (.int .i64 (0)) (.int .i64 (0))
     have FC := fc.out (.int .i64 (0)) (.int .i64 (0))
     clear fb fc x0 x1 f0 f1
     generalize World.setCell _ _ _ = wf at FB FC ⊢
     obtain ⟨d0, d1⟩ := FC
     exact bodyPost_ret (v := .tuple #[.agg #[.int .i64 (0), .int .i64 (0)], .bool false]) (by simp [results, Tryd.results20, go_sem, d0, d1]) rfl ⟨rfl, FB⟩
    | true =>
     obtain rfl := Option.some.inj hh
     clear hh
     obtain ⟨_, _, _, _, _, _, b0, _, _, _, hB, _⟩ := K.out
     obtain ⟨x0, x1⟩ : wc.cell? ⟨w.heap.size + 1, 0, none⟩ = some (.int .i64 0) ∧ wc.cell? ⟨w.heap.size + 1, 1, none⟩ = some (.int .i64 0) := ⟨Ctx.blk b0 0 rfl, Ctx.blk b0 1 rfl⟩
     have f0 := Ctx.frz b0 0
     have f1 := Ctx.frz b0 1
     have fb : ∀ x y, Below w.heap.size w ((wc.setCell ⟨w.heap.size + 1, 0, none⟩ x).setCell ⟨w.heap.size + 1, 1, none⟩ y) := fun x y => below_set (below_set hB (Nat.le_succ _)) (Nat.le_succ _)
     have fc : ∀ x y, ((wc.setCell ⟨w.heap.size + 1, 0, none⟩ x).setCell ⟨w.heap.size + 1, 1, none⟩ y).cell? ⟨w.heap.size + 1, 0, none⟩ = some x ∧ ((wc.setCell ⟨w.heap.size + 1, 0, none⟩ x).setCell ⟨w.heap.size + 1, 1, none⟩ y).cell? ⟨w.heap.size + 1, 1, none⟩ = some y := fun x y => by
      have h := Ctx.put (Ctx.put b0 0 x) 1 y
      exact ⟨Ctx.blk h 0 rfl, Ctx.blk h 1 rfl⟩
     have fb := Aside0.mk fb
     have fc := Aside0.mk fc
     clear b0 hB K
     go_wp2_with fail
     have FB := fb.out (.int .i64 (n)) (.int .i64 (m))
     have FC := fc.out (.int .i64 (n)) (.int .i64 (m))
     clear fb fc x0 x1 f0 f1
     generalize World.setCell _ _ _ = wf at FB FC ⊢
     obtain ⟨d0, d1⟩ := FC
     exact bodyPost_ret (v := .tuple #[.agg #[.int .i64 (n), .int .i64 (m)], .bool true]) (by simp [results, Tryd.results20, go_sem, d0, d1]) rfl ⟨rfl, FB⟩
end Go.Proofs.YteighppcdpaekaaDoor.P
end
section
namespace Go.Proofs.YteighppcdpaekaaDoor.P
open Go.RowKit Go.Proofs.YteighppcdpaekaaDoorW.PrintWords Go.Proofs.YteighppcdpaekaaDoorW.PrintLast Go.Proofs.YteighppcdpaekaaDoorW.PrintMore
def rgJF (k : Nat) (a0 : Int) (a1 : ByteArray) (l2 : List ByteArray) (l3 : List S27) : Option RgOut :=
 (json_Get.f k a0 a1 l2 l3 sStart).bind fun l => (json_Get.f k a0 a1 l2 l3 sEnd).bind fun u =>
  if (l.2.2.2.2 && u.2.2.2.2) = true then
   (posJF k l.1 l.2.1 l.2.2.1 l.2.2.2.1).bind fun n => (posJF k u.1 u.2.1 u.2.2.1 u.2.2.2.1).bind fun m =>
    some (if (n.2.2 && m.2.2) = true then (n.1, n.2.1, m.1, m.2.1, true) else (0, 0, 0, 0, false))
  else some (0, 0, 0, 0, false)
set_option linter.unusedSimpArgs false in
set_option maxRecDepth 100000 in
set_option maxHeartbeats 3200000 in
theorem rgJ_calls (k : Nat) (a0 : Int) (a1 : ByteArray) (A2 : Option Addr) (c2 : Nat) (l2 : List ByteArray) (A3 : Option Addr) (c3 : Nat) (l3 : List S27) (r : RgOut) (w : World) (h2 : Kd.V Kd.string 9 w 0 (fun k => 0 ≤ k) (.slice A2 l2.length c2) l2) (h3 : Kd.V k27 27 w 0 (fun k => 0 ≤ k) (.slice A3 l3.length c3) l3) (h : rgJF k a0 a1 l2 l3 = some r) (hT : TabOk w) :
  Calls Tryd.prog 23 #[.agg #[.int .i64 a0, .string a1, .slice A2 l2.length c2, .slice A3 l3.length c3]] w fun e w' => e = .returned (.tuple #[.agg #[.int .i64 r.1, .int .i64 r.2.1], .agg #[.int .i64 r.2.2.1, .int .i64 r.2.2.2.1], .bool r.2.2.2.2]) ∧ Below w.heap.size w w' := by
 obtain ⟨⟨i0, i1, i2, i3, ib⟩, g1, h⟩ := Option.bind_eq_some_iff.mp h
 obtain ⟨⟨j0, j1, j2, j3, jb⟩, g2, h⟩ := Option.bind_eq_some_iff.mp h
 have H := Aside0.mk h
 have G1 := Aside0.mk g1
 have G2 := Aside0.mk g2
 have HT := Aside0.mk hT
 clear h g1 g2 hT
 have C0 : Ctx [uBlk (w.heap.size + 1 + 1) [.int .i64 0, .int .i64 0] 57, uBlk (w.heap.size + 1) [.int .i64 0, .int .i64 0] 57, uBlk w.heap.size [.int .i64 a0, .string a1, .slice A2 l2.length c2, .slice A3 l3.length c3] 27, uV Kd.string 9 0 (.slice A2 l2.length c2) l2, uV k27 27 0 (.slice A3 l3.length c3) l3, uB w, uTab] (((w.alloc (.cells #[.int .i64 a0, .string a1, .slice A2 l2.length c2, .slice A3 l3.length c3] 27 (0, 0))).alloc (.cells #[.int .i64 0, .int .i64 0] 57 (0, 0))).alloc (.cells #[.int .i64 0, .int .i64 0] 57 (0, 0))) := by
  have e := Ctx.new (cs := [.int .i64 0, .int .i64 0]) (t := 57) (Ctx.new (cs := [.int .i64 0, .int .i64 0]) (t := 57) (Ctx.new (cs := [.int .i64 a0, .string a1, .slice A2 l2.length c2, .slice A3 l3.length c3]) (t := 27) (Ctx.cons (uV Kd.string 9 0 (.slice A2 l2.length c2) l2) h2 (Ctx.cons (uV k27 27 0 (.slice A3 l3.length c3) l3) h3 (Ctx.cons (uB w) (Below.refl _ _) (Ctx.cons uTab HT.out (Ctx.nil)))))))
  simpa using e
 clear h2 h3
 go_enter Tryd.func23, Tryd.ntmps23
 go_upto_region 1 with fail
 refine absW _ C0 ?_
 clear C0
 intro w1 C
 have K := Aside0.mk C
 obtain ⟨b00, b0, b1, v2, v3, _⟩ := C
 obtain ⟨x0, x1, x2, x3⟩ : w1.cell? ⟨w.heap.size, 0, none⟩ = some (.int .i64 a0) ∧ w1.cell? ⟨w.heap.size, 1, none⟩ = some (.string a1) ∧ w1.cell? ⟨w.heap.size, 2, none⟩ = some (.slice A2 l2.length c2) ∧ w1.cell? ⟨w.heap.size, 3, none⟩ = some (.slice A3 l3.length c3) := ⟨Ctx.blk b1 0 rfl, Ctx.blk b1 1 rfl, Ctx.blk b1 2 rfl, Ctx.blk b1 3 rfl⟩
 have V2 := Aside0.mk v2
 have V3 := Aside0.mk v3
 clear b00 b0 b1 v2 v3
 go_wp2_with fail
 refine (json_Get.calls k a0 a1 A2 c2 l2 (fun k => 0 ≤ k) A3 c3 l3 sStart _ _ _ _ _ _ (vC V2.out) (vle V2.out) V3.out G1.out).mono ?_
 rintro en W1 ⟨u2, u3, rfl, e2, e3, hb⟩
 obtain ⟨E1, p1, q1, rfl⟩ : ∃ A n c, u2 = .slice A n c := by
  obtain ⟨A, c, e⟩ := Kd.V_slice e2
  exact ⟨_, _, _, e⟩
 obtain ⟨F1, s1, t1, rfl⟩ : ∃ A n c, u3 = .slice A n c := by
  obtain ⟨A, c, e⟩ := Kd.V_slice e3
  exact ⟨_, _, _, e⟩
 have C := Ctx.new (cs := [.int .i64 i0, .string i1, .slice E1 p1 q1, .slice F1 s1 t1]) (t := 27) (Ctx.cons (uV Kd.string 9 0 (.slice E1 p1 q1) i2) (Kd.V_mono (show Kd.V Kd.string 9 W1 0 _ _ _ from e2) (fun _ _ => Nat.zero_le _)) (Ctx.cons (uV k27 27 0 (.slice F1 s1 t1) i3) (Kd.V_mono (show Kd.V k27 27 W1 0 _ _ _ from e3) (fun _ _ => Nat.zero_le _)) (K.out.below hb)))
 clear K V2 V3 G1 e2 e3 hb x0 x1 x2 x3
 go_upto_region 2 with fail
 refine absW _ C ?_
 clear C
 intro w2 C
 have K := Aside0.mk C
 obtain ⟨b2, y2, y3, _, b0, b1, v2, v3, _⟩ := C
 obtain ⟨x0, x1, x2, x3⟩ : w2.cell? ⟨w.heap.size, 0, none⟩ = some (.int .i64 a0) ∧ w2.cell? ⟨w.heap.size, 1, none⟩ = some (.string a1) ∧ w2.cell? ⟨w.heap.size, 2, none⟩ = some (.slice A2 l2.length c2) ∧ w2.cell? ⟨w.heap.size, 3, none⟩ = some (.slice A3 l3.length c3) := ⟨Ctx.blk b1 0 rfl, Ctx.blk b1 1 rfl, Ctx.blk b1 2 rfl, Ctx.blk b1 3 rfl⟩
 have V2 := Aside0.mk v2
 have V3 := Aside0.mk v3
 clear b0 b1 v2 v3 b2 y2 y3
 go_wp2_with fail
 refine (json_Get.calls k a0 a1 A2 c2 l2 (fun k => 0 ≤ k) A3 c3 l3 sEnd _ _ _ _ _ _ (vC V2.out) (vle V2.out) V3.out G2.out).mono ?_
 rintro en W2 ⟨u2, u3, rfl, e2, e3, hb⟩
 obtain ⟨E2, p2, q2, rfl⟩ : ∃ A n c, u2 = .slice A n c := by
  obtain ⟨A, c, e⟩ := Kd.V_slice e2
  exact ⟨_, _, _, e⟩
 obtain ⟨F2, s2, t2, rfl⟩ : ∃ A n c, u3 = .slice A n c := by
  obtain ⟨A, c, e⟩ := Kd.V_slice e3
  exact ⟨_, _, _, e⟩
 have C := Ctx.new (cs := [.int .i64 j0, .string j1, .slice E2 p2 q2, .slice F2 s2 t2]) (t := 27) (Ctx.cons (uV Kd.string 9 0 (.slice E2 p2 q2) j2) (Kd.V_mono (show Kd.V Kd.string 9 W2 0 _ _ _ from e2) (fun _ _ => Nat.zero_le _)) (Ctx.cons (uV k27 27 0 (.slice F2 s2 t2) j3) (Kd.V_mono (show Kd.V k27 27 W2 0 _ _ _ from e3) (fun _ _ => Nat.zero_le _)) (K.out.below hb)))
 clear K V2 V3 G2 e2 e3 hb x0 x1 x2 x3
 go_upto_region 3 with fail
 refine absW _ C ?_
 clear C
 intro w3 C
 have K := Aside0.mk C
 clear C HT
 have h := Aside0.mk H.out
 clear H
 go_cut [28] (fun sv wc => sv = .bool (!(ib && jb)) ∧ wc = w3)
 case first =>
  cases ib <;> cases jb
  all_goals
   go_wp2_with fail
   go_meet
   exact ⟨rfl, rfl⟩
 case rest =>
  obtain ⟨rfl, rfl⟩ := hcut
  have hh := h.out
  clear h
  generalize (ib && jb) = bb at hh ⊢
  cases bb with
  | false =>
   rw [if_neg (by decide)] at hh
   obtain rfl := Option.some.inj hh
   clear hh
   obtain ⟨_, _, _, _, _, _, b00, b0, _, _, _, hB, _⟩ := K.out
   obtain ⟨x0, x1⟩ : wc.cell? ⟨w.heap.size + 1, 0, none⟩ = some (.int .i64 0) ∧ wc.cell? ⟨w.heap.size + 1, 1, none⟩ = some (.int .i64 0) := ⟨Ctx.blk b0 0 rfl, Ctx.blk b0 1 rfl⟩
   obtain ⟨x2, x3⟩ : wc.cell? ⟨w.heap.size + 1 + 1, 0, none⟩ = some (.int .i64 0) ∧ wc.cell? ⟨w.heap.size + 1 + 1, 1, none⟩ = some (.int .i64 0) := ⟨Ctx.blk b00 0 rfl, Ctx.blk b00 1 rfl⟩
   have f0 := Ctx.frz b0 0
   have f1 := Ctx.frz b0 1
   have f2 := Ctx.frz b00 0
   have f3 := Ctx.frz b00 1
   have hne : w.heap.size + 1 ≠ w.heap.size + 1 + 1 := by omega
   have fb : ∀ a b c d, Below w.heap.size w ((((wc.setCell ⟨w.heap.size + 1, 0, none⟩ a).setCell ⟨w.heap.size + 1, 1, none⟩ b).setCell ⟨w.heap.size + 1 + 1, 0, none⟩ c).setCell ⟨w.heap.size + 1 + 1, 1, none⟩ d) ∧
     ((((wc.setCell ⟨w.heap.size + 1, 0, none⟩ a).setCell ⟨w.heap.size + 1, 1, none⟩ b).setCell ⟨w.heap.size + 1 + 1, 0, none⟩ c).setCell ⟨w.heap.size + 1 + 1, 1, none⟩ d).cell? ⟨w.heap.size + 1, 0, none⟩ = some a ∧
     ((((wc.setCell ⟨w.heap.size + 1, 0, none⟩ a).setCell ⟨w.heap.size + 1, 1, none⟩ b).setCell ⟨w.heap.size + 1 + 1, 0, none⟩ c).setCell ⟨w.heap.size + 1 + 1, 1, none⟩ d).cell? ⟨w.heap.size + 1, 1, none⟩ = some b ∧
     ((((wc.setCell ⟨w.heap.size + 1, 0, none⟩ a).setCell ⟨w.heap.size + 1, 1, none⟩ b).setCell ⟨w.heap.size + 1 + 1, 0, none⟩ c).setCell ⟨w.heap.size + 1 + 1, 1, none⟩ d).cell? ⟨w.heap.size + 1 + 1, 0, none⟩ = some c ∧
     ((((wc.setCell ⟨w.heap.size + 1, 0, none⟩ a).setCell ⟨w.heap.size + 1, 1, none⟩ b).setCell ⟨w.heap.size + 1 + 1, 0, none⟩ c).setCell ⟨w.heap.size + 1 + 1, 1, none⟩ d).cell? ⟨w.heap.size + 1 + 1, 1, none⟩ = some d := fun a b c d => by
    have h1 := Ctx.far (Ctx.far (Ctx.put (Ctx.put b0 0 a) 1 b) 0 c hne) 1 d hne
    have h2 := Ctx.put (Ctx.put (Ctx.far (Ctx.far b00 0 a hne.symm) 1 b hne.symm) 0 c) 1 d
    exact ⟨below_set (below_set (below_set (below_set hB (by omega)) (by omega)) (by omega)) (by omega), Ctx.blk h1 0 rfl, Ctx.blk h1 1 rfl, Ctx.blk h2 0 rfl, Ctx.blk h2 1 rfl⟩
   have fb := Aside0.mk fb
   have F := Aside0.mk (fb.out (.int .i64 (0)) (.int .i64 (0)) (.int .i64 (0)) (.int .i64 (0)))
   clear fb b0 b00 hB K
   go_wp2_with fail
   all_goals
    skip
    have F := F.out
    generalize World.setCell _ _ _ = wf at F ⊢
    obtain ⟨FB, d0, d1, d2, d3⟩ := F
    exact bodyPost_ret (v := .tuple #[.agg #[.int .i64 (0), .int .i64 (0)], .agg #[.int .i64 (0), .int .i64 (0)], .bool false]) (by simp [results, Tryd.results23, go_sem, Act.put, d0, d1, d2, d3]) rfl ⟨rfl, FB⟩
  | true =>
   rw [if_pos rfl] at hh
   obtain ⟨⟨n, n', nb⟩, g3, hh⟩ := Option.bind_eq_some_iff.mp hh
   obtain ⟨⟨m, m', mb⟩, g4, hh⟩ := Option.bind_eq_some_iff.mp hh
   have H := Aside0.mk hh
   have G3 := Aside0.mk g3
   have G4 := Aside0.mk g4
   clear hh g3 g4
   obtain ⟨_, _, _, b2, y2, y3, _, _, _, _, _, _, hT, _⟩ := K.out
   have HT := Aside0.mk (show TabOk wc from hT)
   obtain ⟨x0, x1, x2, x3⟩ : wc.cell? ⟨W1.heap.size, 0, none⟩ = some (.int .i64 i0) ∧ wc.cell? ⟨W1.heap.size, 1, none⟩ = some (.string i1) ∧ wc.cell? ⟨W1.heap.size, 2, none⟩ = some (.slice E1 p1 q1) ∧ wc.cell? ⟨W1.heap.size, 3, none⟩ = some (.slice F1 s1 t1) := ⟨Ctx.blk b2 0 rfl, Ctx.blk b2 1 rfl, Ctx.blk b2 2 rfl, Ctx.blk b2 3 rfl⟩
   obtain ⟨rfl, _, _⟩ := Kd.V_reads' (show Kd.V Kd.string 9 wc 0 _ _ _ from y2)
   obtain ⟨rfl, _, _⟩ := Kd.V_reads' (show Kd.V k27 27 wc 0 _ _ _ from y3)
   have Y2 := Aside0.mk y2
   have Y3 := Aside0.mk y3
   clear hT b2 y2 y3
   go_wp2_with fail
   refine (posJ_calls k i0 i1 E1 q1 i2 F1 t1 i3 (n, n', nb) _ Y2.out Y3.out G3.out HT.out).mono ?_
   rintro en W3 ⟨rfl, hb⟩
   have L3 := Aside0.mk (show w.heap.size + 1 + 1 < W3.heap.size by
    obtain ⟨_, _, _, _, _, _, c, _⟩ := K.out.below hb
    exact blk_lt (show W3.heap[w.heap.size + 1 + 1]? = _ from c))
   have C := Ctx.new (cs := [.int .i64 n, .int .i64 n']) (t := 57) (K.out.below hb)
   clear K G3 hb Y2 Y3 x0 x1 x2 x3 HT
   go_upto_region 6 with fail
   refine absW _ C ?_
   clear C
   intro w4 C
   have K := Aside0.mk C
   obtain ⟨_, b3, z2, z3, _, _, _, _, _, _, _, _, _, hT, _⟩ := C
   have HT := Aside0.mk (show TabOk w4 from hT)
   obtain ⟨x0, x1, x2, x3⟩ : w4.cell? ⟨W2.heap.size, 0, none⟩ = some (.int .i64 j0) ∧ w4.cell? ⟨W2.heap.size, 1, none⟩ = some (.string j1) ∧ w4.cell? ⟨W2.heap.size, 2, none⟩ = some (.slice E2 p2 q2) ∧ w4.cell? ⟨W2.heap.size, 3, none⟩ = some (.slice F2 s2 t2) := ⟨Ctx.blk b3 0 rfl, Ctx.blk b3 1 rfl, Ctx.blk b3 2 rfl, Ctx.blk b3 3 rfl⟩
   obtain ⟨rfl, _, _⟩ := Kd.V_reads' (show Kd.V Kd.string 9 w4 0 _ _ _ from z2)
   obtain ⟨rfl, _, _⟩ := Kd.V_reads' (show Kd.V k27 27 w4 0 _ _ _ from z3)
   have Y2 := Aside0.mk z2
   have Y3 := Aside0.mk z3
   clear hT b3 z2 z3
   go_wp2_with fail
   refine (posJ_calls k j0 j1 E2 q2 j2 F2 t2 j3 (m, m', mb) _ Y2.out Y3.out G4.out HT.out).mono ?_
   rintro en W4 ⟨rfl, hb⟩
   have L4 := Aside0.mk (show w.heap.size + 1 + 1 < W4.heap.size by
    obtain ⟨_, _, _, _, _, _, _, c, _⟩ := K.out.below hb
    exact blk_lt (show W4.heap[w.heap.size + 1 + 1]? = _ from c))
   have C := Ctx.new (cs := [.int .i64 m, .int .i64 m']) (t := 57) (K.out.below hb)
   clear K G4 hb Y2 Y3 x0 x1 x2 x3 HT
   go_upto_region 7 with fail
   refine absW _ C ?_
   clear C
   intro w5 C
   have K := Aside0.mk C
   clear C
   go_cut [46] (fun sv wc => sv = .bool (!(nb && mb)) ∧ wc = w5)
   case first =>
    cases nb <;> cases mb
    all_goals
     go_wp2_with fail
     go_meet
     exact ⟨rfl, rfl⟩
   case rest =>
    obtain ⟨rfl, rfl⟩ := hcut
    have hh := H.out
    clear H
    obtain ⟨b5, b4, _, _, _, _, _, _, b00, b0, _, _, _, hB, _⟩ := K.out
    generalize (nb && mb) = bb at hh ⊢
    cases bb with
    | false =>
     obtain rfl := Option.some.inj hh
     clear hh
     obtain ⟨x0, x1⟩ : wc.cell? ⟨w.heap.size + 1, 0, none⟩ = some (.int .i64 0) ∧ wc.cell? ⟨w.heap.size + 1, 1, none⟩ = some (.int .i64 0) := ⟨Ctx.blk b0 0 rfl, Ctx.blk b0 1 rfl⟩
     obtain ⟨x2, x3⟩ : wc.cell? ⟨w.heap.size + 1 + 1, 0, none⟩ = some (.int .i64 0) ∧ wc.cell? ⟨w.heap.size + 1 + 1, 1, none⟩ = some (.int .i64 0) := ⟨Ctx.blk b00 0 rfl, Ctx.blk b00 1 rfl⟩
     have f0 := Ctx.frz b0 0
     have f1 := Ctx.frz b0 1
     have f2 := Ctx.frz b00 0
     have f3 := Ctx.frz b00 1
     have hne : w.heap.size + 1 ≠ w.heap.size + 1 + 1 := by omega
     have fb : ∀ a b c d, Below w.heap.size w ((((wc.setCell ⟨w.heap.size + 1, 0, none⟩ a).setCell ⟨w.heap.size + 1, 1, none⟩ b).setCell ⟨w.heap.size + 1 + 1, 0, none⟩ c).setCell ⟨w.heap.size + 1 + 1, 1, none⟩ d) ∧
       ((((wc.setCell ⟨w.heap.size + 1, 0, none⟩ a).setCell ⟨w.heap.size + 1, 1, none⟩ b).setCell ⟨w.heap.size + 1 + 1, 0, none⟩ c).setCell ⟨w.heap.size + 1 + 1, 1, none⟩ d).cell? ⟨w.heap.size + 1, 0, none⟩ = some a ∧
       ((((wc.setCell ⟨w.heap.size + 1, 0, none⟩ a).setCell ⟨w.heap.size + 1, 1, none⟩ b).setCell ⟨w.heap.size + 1 + 1, 0, none⟩ c).setCell ⟨w.heap.size + 1 + 1, 1, none⟩ d).cell? ⟨w.heap.size + 1, 1, none⟩ = some b ∧
       ((((wc.setCell ⟨w.heap.size + 1, 0, none⟩ a).setCell ⟨w.heap.size + 1, 1, none⟩ b).setCell ⟨w.heap.size + 1 + 1, 0, none⟩ c).setCell ⟨w.heap.size + 1 + 1, 1, none⟩ d).cell? ⟨w.heap.size + 1 + 1, 0, none⟩ = some c ∧
       ((((wc.setCell ⟨w.heap.size + 1, 0, none⟩ a).setCell ⟨w.heap.size + 1, 1, none⟩ b).setCell ⟨w.heap.size + 1 + 1, 0, none⟩ c).setCell ⟨w.heap.size + 1 + 1, 1, none⟩ d).cell? ⟨w.heap.size + 1 + 1, 1, none⟩ = some d := fun a b c d => by
      have h1 := Ctx.far (Ctx.far (Ctx.put (Ctx.put b0 0 a) 1 b) 0 c hne) 1 d hne
      have h2 := Ctx.put (Ctx.put (Ctx.far (Ctx.far b00 0 a hne.symm) 1 b hne.symm) 0 c) 1 d
      exact ⟨below_set (below_set (below_set (below_set hB (by omega)) (by omega)) (by omega)) (by omega), Ctx.blk h1 0 rfl, Ctx.blk h1 1 rfl, Ctx.blk h2 0 rfl, Ctx.blk h2 1 rfl⟩
     have fb := Aside0.mk fb
     have F := Aside0.mk (fb.out (.int .i64 (0)) (.int .i64 (0)) (.int .i64 (0)) (.int .i64 (0)))
     clear fb b0 b00 hB K
     go_wp2_with fail
     all_goals
      skip
      have F := F.out
      generalize World.setCell _ _ _ = wf at F ⊢
      obtain ⟨FB, d0, d1, d2, d3⟩ := F
      exact bodyPost_ret (v := .tuple #[.agg #[.int .i64 (0), .int .i64 (0)], .agg #[.int .i64 (0), .int .i64 (0)], .bool false]) (by simp [results, Tryd.results23, go_sem, Act.put, d0, d1, d2, d3]) rfl ⟨rfl, FB⟩
    | true =>
     obtain rfl := Option.some.inj hh
     clear hh
     obtain ⟨x0, x1⟩ : wc.cell? ⟨w.heap.size + 1, 0, none⟩ = some (.int .i64 0) ∧ wc.cell? ⟨w.heap.size + 1, 1, none⟩ = some (.int .i64 0) := ⟨Ctx.blk b0 0 rfl, Ctx.blk b0 1 rfl⟩
     obtain ⟨x2, x3⟩ : wc.cell? ⟨w.heap.size + 1 + 1, 0, none⟩ = some (.int .i64 0) ∧ wc.cell? ⟨w.heap.size + 1 + 1, 1, none⟩ = some (.int .i64 0) := ⟨Ctx.blk b00 0 rfl, Ctx.blk b00 1 rfl⟩
     have f0 := Ctx.frz b0 0
     have f1 := Ctx.frz b0 1
     have f2 := Ctx.frz b00 0
     have f3 := Ctx.frz b00 1
     have hne : w.heap.size + 1 ≠ w.heap.size + 1 + 1 := by omega
     have fb : ∀ a b c d, Below w.heap.size w ((((wc.setCell ⟨w.heap.size + 1, 0, none⟩ a).setCell ⟨w.heap.size + 1, 1, none⟩ b).setCell ⟨w.heap.size + 1 + 1, 0, none⟩ c).setCell ⟨w.heap.size + 1 + 1, 1, none⟩ d) ∧
       ((((wc.setCell ⟨w.heap.size + 1, 0, none⟩ a).setCell ⟨w.heap.size + 1, 1, none⟩ b).setCell ⟨w.heap.size + 1 + 1, 0, none⟩ c).setCell ⟨w.heap.size + 1 + 1, 1, none⟩ d).cell? ⟨w.heap.size + 1, 0, none⟩ = some a ∧
       ((((wc.setCell ⟨w.heap.size + 1, 0, none⟩ a).setCell ⟨w.heap.size + 1, 1, none⟩ b).setCell ⟨w.heap.size + 1 + 1, 0, none⟩ c).setCell ⟨w.heap.size + 1 + 1, 1, none⟩ d).cell? ⟨w.heap.size + 1, 1, none⟩ = some b ∧
       ((((wc.setCell ⟨w.heap.size + 1, 0, none⟩ a).setCell ⟨w.heap.size + 1, 1, none⟩ b).setCell ⟨w.heap.size + 1 + 1, 0, none⟩ c).setCell ⟨w.heap.size + 1 + 1, 1, none⟩ d).cell? ⟨w.heap.size + 1 + 1, 0, none⟩ = some c ∧
       ((((wc.setCell ⟨w.heap.size + 1, 0, none⟩ a).setCell ⟨w.heap.size + 1, 1, none⟩ b).setCell ⟨w.heap.size + 1 + 1, 0, none⟩ c).setCell ⟨w.heap.size + 1 + 1, 1, none⟩ d).cell? ⟨w.heap.size + 1 + 1, 1, none⟩ = some d := fun a b c d => by
      have h1 := Ctx.far (Ctx.far (Ctx.put (Ctx.put b0 0 a) 1 b) 0 c hne) 1 d hne
      have h2 := Ctx.put (Ctx.put (Ctx.far (Ctx.far b00 0 a hne.symm) 1 b hne.symm) 0 c) 1 d
      exact ⟨below_set (below_set (below_set (below_set hB (by omega)) (by omega)) (by omega)) (by omega), Ctx.blk h1 0 rfl, Ctx.blk h1 1 rfl, Ctx.blk h2 0 rfl, Ctx.blk h2 1 rfl⟩
     have fb := Aside0.mk fb
     have F := Aside0.mk (fb.out (.int .i64 (n)) (.int .i64 (n')) (.int .i64 (m)) (.int .i64 (m')))
     clear fb b0 b00 hB K
     obtain ⟨y0, y1⟩ : wc.cell? ⟨W3.heap.size, 0, none⟩ = some (.int .i64 n) ∧ wc.cell? ⟨W3.heap.size, 1, none⟩ = some (.int .i64 n') := ⟨Ctx.blk b4 0 rfl, Ctx.blk b4 1 rfl⟩
     obtain ⟨z0, z1⟩ : wc.cell? ⟨W4.heap.size, 0, none⟩ = some (.int .i64 m) ∧ wc.cell? ⟨W4.heap.size, 1, none⟩ = some (.int .i64 m') := ⟨Ctx.blk b5 0 rfl, Ctx.blk b5 1 rfl⟩
     clear b5 b4
     have hn1 : W3.heap.size ≠ w.heap.size + 1 := by have := L3.out; omega
     have hn2 : W3.heap.size ≠ w.heap.size + 1 + 1 := by have := L3.out; omega
     have hn3 : W4.heap.size ≠ w.heap.size + 1 := by have := L4.out; omega
     have hn4 : W4.heap.size ≠ w.heap.size + 1 + 1 := by have := L4.out; omega
     go_upto_region 9 with fail
     go_region_with (fail)
     all_goals
      go_wp2
      have F := F.out
      generalize World.setCell _ _ _ = wf at F ⊢
      obtain ⟨FB, d0, d1, d2, d3⟩ := F
      have d0 : wf.drew.cell? ⟨w.heap.size + 1, 0, none⟩ = _ := d0
      have d1 : wf.drew.cell? ⟨w.heap.size + 1, 1, none⟩ = _ := d1
      have d2 : wf.drew.cell? ⟨w.heap.size + 1 + 1, 0, none⟩ = _ := d2
      have d3 : wf.drew.cell? ⟨w.heap.size + 1 + 1, 1, none⟩ = _ := d3
      exact bodyPost_ret (v := .tuple #[.agg #[.int .i64 (n), .int .i64 (n')], .agg #[.int .i64 (m), .int .i64 (m')], .bool true]) (by simp [results, Tryd.results23, go_sem, Act.put, d0, d1, d2, d3]) rfl ⟨rfl, bdr1 FB⟩
end Go.Proofs.YteighppcdpaekaaDoor.P
end
