/- Walks and words of this session, put together by a program of this session (pack.py). Conditions: as each text says. -/
import Derived.Test.YteighppcdpaekaaDoorG2
import Derived.Test.YteighppcdpaekaaDoorG6
import Derived.Test.YteighppcdpaekaaDoorG12
set_option linter.unusedVariables false
set_option linter.unusedSimpArgs false
section
namespace Go.Proofs.YteighppcdpaekaaDoor.Eq4
open Go.RowKit Go.Proofs.YteighppcdpaekaaDoorW.PrintWords Go.Proofs.YteighppcdpaekaaDoor.P
theorem light_z : Light zS := ⟨by simp [zS], by simp [zS], by simp [zS]; decide, fun i h => by simp [zS] at h, fun x h => by simp [zS] at h⟩
theorem getP_light {v : S27} {key : ByteArray} (hL : Light v) {x : S27} (h : getP v key = some x) : Light x := by
 unfold getP at h
 split at h
 ·exact hL.out.2.2.2.2 x (findK_mem h)
 ·cases h
theorem tail_ev (n : Int) (h0 : -9223372036854775808 ≤ n) (h1 : n ≤ 9223372036854775807) : Ev (fun k => whetstonelaw04_JsonGets.j0 k n false) true := by
 have hj1 : Ev (fun k => whetstonelaw04_JsonGets.j1 k n true) true := by
  refine Ev.step (fun k => rfl) ?_
  exact Ev.now _
 refine Ev.step (fun k => rfl) ?_
 show Ev (fun k => if n < (-999999999) then whetstonelaw04_JsonGets.j1 k n true else whetstonelaw04_JsonGets.j1 k n (decide (n > 999999999))) true
 by_cases ha : n < -999999999
 ·exact Num.evT ha hj1
 ·refine Num.evF ha ?_
  by_cases hb : n > 999999999
  ·rw [decide_eq_true hb]; exact hj1
  ·rw [decide_eq_false hb]
   refine Ev.step (fun k => rfl) ?_
   have ho : json_Of.f n = some (3, ⟨(Lib.itoa n).toArray⟩, [], []) := by unfold json_Of.f; rw [if_pos ⟨h0, h1⟩]
   have hlen : (Lib.itoa n).length ≤ 10 := by
    unfold Lib.itoa
    split
    ·have := Num.dec_len n.natAbs (by omega)
     rw [List.length_cons]; omega
    ·have := Num.dec_len n.toNat (by omega)
     omega
   have hi : json_Int.f 3 ⟨(Lib.itoa n).toArray⟩ [] [] = some (n, true) := by
    unfold json_Int.f
    rw [if_pos (by rw [Num.size_len]; show (Lib.itoa n).toArray.toList.length ≤ 1000000; simp; omega), if_pos rfl]
    show some (intT (Lib.itoa n).toArray.toList) = _
    rw [show (Lib.itoa n).toArray.toList = Lib.itoa n by simp, Num.intT_itoa n (by omega) (by omega)]
   show Ev (fun k => (json_Of.f n).bind fun bt324 => ((json_Int.f bt324.1 bt324.2.1 bt324.2.2.1 bt324.2.2.2).bind fun bt332 => (if bt332.2 = true then (some (bt332.1 == n)) else (some false)))) true
   rw [ho]
   simp only [Option.bind_some]
   rw [hi]
   simp only [Option.bind_some, if_true, beq_self_eq_true]
   exact Ev.now _
theorem gets_ev (v : S27) (key : ByteArray) (n : Int) (h0 : -9223372036854775808 ≤ n) (h1 : n ≤ 9223372036854775807) : Ev (fun k => whetstonelaw04_JsonGets.f k v.f0 v.f1 v.f2 v.f3 key n) true := by
 obtain ⟨b, hf, hb⟩ := few_val v
 simp only [whetstonelaw04_JsonGets.f]
 refine Ev.bind hf ?_
 cases b with
 | false =>
  have : Ev (fun k => (whetstonelaw04_written.f k).bind fun t273 => some t273) true := Ev.bind (a := true) (Ev.now true) (Ev.now true)
  exact this
 | true =>
  have hL := hb rfl
  have hk := hL.out.2.1
  have hof := of_val (szS v) v (Nat.le_refl _) hL
  have hint : json_Int.f v.f0 v.f1 v.f2 v.f3 = some (if v.f0 = 3 then intT v.f1.data.toList else (0, false)) := by
   unfold json_Int.f
   rw [if_pos (by have := hL.out.2.2.1; omega)]
  obtain ⟨x, hx, hres⟩ : ∃ x : S27, Light x ∧ ((resJ (getP v key) = (x.f0, x.f1, x.f2, x.f3, (getP v key).isSome)) ∧ resR (getP v key) = (x.f0, x.f1, x.f2, ofL x.f3, (getP v key).isSome)) := by
   cases hg : getP v key with
   | none => exact ⟨zS, light_z, rfl, by simp [resR, zS, ofL]⟩
   | some x => exact ⟨x, getP_light hL hg, rfl, rfl⟩
  have hj := get_j v key hk
  have hr := get_r v key hk
  rw [hres.1] at hj
  rw [hres.2] at hr
  generalize (getP v key).isSome = ok at hj hr
  refine Num.evT (c := true = true) rfl ?_
  refine Ev.bind hj ?_
  refine Ev.bind hof ?_
  refine Ev.bind hr ?_
  rw [hint]
  simp only [Option.bind_some]
  refine Ev.bind hof ?_
  refine Ev.bind (Num.int_ev v.f0 v.f1 v.f2 (ofL v.f3)) ?_
  refine Ev.bind (a := true) (Ev.now true) ?_
  refine Num.evT (c := true = true) rfl ?_
  refine Num.evF (c := (ok != ok) = true) (by simp) ?_
  refine Ev.bind (of_val (szS x) x (Nat.le_refl _) hx) ?_
  have he := ref_val (szS x) x x (Nat.le_refl _) hx
  rw [eqS_refl (szS x) x (Nat.le_refl _)] at he
  refine Ev.bind he ?_
  refine Num.evT (c := true = true) rfl ?_
  refine Num.evT rfl ?_
  rw [show ((if v.f0 = 3 then intT v.f1.data.toList else (0, false)).2 != (if v.f0 = 3 then intT v.f1.data.toList else (0, false)).2) = false by simp]
  exact tail_ev n h0 h1
theorem gets_pure (v : S27) (key : ByteArray) (n : Int) (h0 : -9223372036854775808 ≤ n) (h1 : n ≤ 9223372036854775807) : ∃ k, whetstonelaw04_JsonGets.f k v.f0 v.f1 v.f2 v.f3 key n = some true := (gets_ev v key n h0 h1).rounds
end Go.Proofs.YteighppcdpaekaaDoor.Eq4
end
section
namespace Go.Proofs.YteighppcdpaekaaDoor.jsonGets
open Go.ChangeShapes Go.WideShapes Go.ChangeAt Go.RowKit Go.Proofs.YteighppcdpaekaaDoorW.PrintWords Go.Proofs.YteighppcdpaekaaDoor.P Go.Proofs.YteighppcdpaekaaDoor.laidFive
open Go.ChangeMaps (open_string shut_string)
set_option linter.unusedVariables false
set_option maxRecDepth 100000
theorem own : ownKnob Tryd.prog.godebug = none := by kernel_rfl
theorem laidOut : laidOutB Tryd.prog = true := by kernel_rfl
theorem contract (H : Type) (enc : TypeId × Value → H) (W : World) (base : Nat) (args : Array Value) (ds gs : List (DataW H)) (before : List MemPlace)
  (hval0 : ∀ (j : Nat) t v, Tryd.f6.params[j]? = some t → args[j]? = some v → Value.okWide Tryd.prog W .any base t v)
  (hW : DataW.Whole enc Tryd.prog Tryd.f6.params.toList Rows.jsonGetsSpec.vars false W args.toList ds gs before) (hL : laidMetH Tryd.prog Rows.jsonGetsRow.laid W) :
  Calls Tryd.prog 6 args W fun e W' => ∃ v, e = .returned v ∧ Rows.jsonGetsSpec.post enc Tryd.prog Tryd.f6 false true false false W args v W' := by
 have hval := hval0
 have hW' := hW
 obtain ⟨p, q, hA0, hV, rfl, hfz, hnd⟩ := hW
 have hA : DataW.TrodAll enc Tryd.prog W 0 (fun _ => true) true Tryd.f6.params.toList args.toList ds p := hA0
 rw [Tryd.params6] at hA hval
 obtain ⟨v0, vs0, d0, ds0, p0, q0, hargs, rfl, rfl, h0, r0⟩ := trodAll_cons hA
 obtain ⟨v1, vs1, d1, ds1, p1, q1, rfl, rfl, rfl, h1, r1⟩ := trodAll_cons r0
 obtain ⟨v2, vs2, d2, ds2, p2, q2, rfl, rfl, rfl, h2, r2⟩ := trodAll_cons r1
 obtain ⟨rfl, rfl, rfl⟩ := trodAll_nil r2
 obtain rfl : args = #[v0, v1, v2] := by cases args; simp_all
 obtain ⟨rfl, rfl⟩ := trodVars_none hV
 have k0 := h0
 have lt0 : ∀ x ∈ p0, x.block < W.heap.size := by obtain ⟨m, hm⟩ := k0; exact DataW.trod_lt m _ _ _ hm
 obtain ⟨s0, A2, c2, A3, c3, rfl, l2, g2, l3, g3⟩ := openArg25 (hval 0 27 v0 rfl rfl) h0
 obtain ⟨s, rfl, rfl, rfl, hs⟩ := open_string Tryd.underlying9 (hval 1 9 v1 rfl rfl) h1
 obtain ⟨a1, rfl, rfl, rfl, w1⟩ := open_int Tryd.underlying3 (hval 2 3 v2 rfl rfl) h2
 have hn : -9223372036854775808 ≤ a1 ∧ a1 ≤ 9223372036854775807 := by
  have e1 : IntKind.i64.min = -9223372036854775808 := rfl
  have e2 : IntKind.i64.max = 9223372036854775807 := rfl
  simpa [Lit.wf, e1, e2] using w1
 have hT := tabs (W := W) hL
 clear hA0 hval0
 obtain ⟨k, hk2⟩ := Eq4.gets_pure s0 s a1 hn.1 hn.2
 refine (whetstonelaw04_JsonGets.calls k s0.f0 s0.f1 A2 c2 s0.f2 A3 c3 s0.f3 s a1 true W g2 l2 g3 l3 hk2 hT).mono fun e W' ⟨he, bel⟩ => ?_
 subst he
 exact ⟨_, rfl, _, _, _, [], _, [], hW', trodAll_mk1 (shut_bool Tryd.underlying4 _), (trodAll_cons_mk (Below.trod laidOut (by kernel_rfl) (of_decide_eq_true (by kernel_rfl)) k0 bel lt0) (trodAll_cons_mk (shut_string Tryd.underlying9 hs) (trodAll_cons_mk (shut_int Tryd.underlying3 w1) trodAll_mk0))), rfl, bel.frame _, fun h => by cases h⟩
theorem laid_met (os : Os) : laidMet Tryd.prog Rows.jsonGetsRow.laid ((laidWorld os).forCall (fun _ _ => 0) ⟨#[], #[.agg #[.int .i64 0, .string .empty, .slice none 0 0, .slice none 0 0], .string .empty, .int .i64 0], []⟩).memory :=
 laidMet_of_run' 8 (by kernel_rfl) (by kernel_rfl)
theorem reads (os : Os) {H : Type} (enc : TypeId × Value → H) : ∃ places, DataW.whole enc Tryd.prog ((laidWorld os).forCall (fun _ _ => 0) ⟨#[], #[.agg #[.int .i64 0, .string .empty, .slice none 0 0, .slice none 0 0], .string .empty, .int .i64 0], []⟩).memory Tryd.f6.params.toList Rows.jsonGetsSpec.vars false (#[.agg #[.int .i64 0, .string .empty, .slice none 0 0, .slice none 0 0], .string .empty, .int .i64 0] : Array Value).toList 8 = some ([.agg [.lit (.int .i64 0), .lit (.string []), .nil, .nil], .lit (.string []), .lit (.int .i64 0)], [], places) :=
 ⟨[], by kernel_rfl⟩
theorem lifted (os : Os) (started : os.Started) (H : Type) (enc : TypeId × Value → H) (F : Stop.Interp) :
  ReturnsInHanded {} Tryd.checked os 6 .any ((OpenSpec.ofChange Rows.jsonGetsSpec).preRow enc Tryd.prog Tryd.f6 Rows.jsonGetsRow.domain false Rows.jsonGetsRow.laid) (((OpenSpec.ofChange Rows.jsonGetsSpec).at F).post enc Tryd.prog Tryd.f6 false true false false) := by
 obtain ⟨places, hx⟩ := reads os enc
 refine returnsInHanded_of_row (C := Tryd.checked) (s := OpenSpec.ofChange Rows.jsonGetsSpec) own started (by kernel_rfl) Tryd.func6
  (witness_row_atRef (enc := enc) (C := Tryd.checked) false (laidWorld os) #[.agg #[.int .i64 0, .string .empty, .slice none 0 0, .slice none 0 0], .string .empty, .int .i64 0] rfl (by kernel_rfl) (by kernel_rfl) (by kernel_rfl)
   (OpenSpec.preRow_of_cond 8 hx (by kernel_rfl) (fun k hk => by cases hk) (by kernel_rfl) (laid_met os))) ?_
 intro W base args ds gs before hval hW _ _ _ hL _ _
 exact contract H enc W base args ds gs before hval hW hL
theorem said : Rows.JsonGetsSaid :=
 OpenClaim.holds_of_cond 6 Tryd.f6 rfl rfl rfl rfl rfl rfl rfl ⟨rfl, rfl, rfl, rfl, rfl⟩ rfl rfl rfl rfl rfl (by kernel_rfl) Tryd.func6 (by kernel_rfl)
  (of_decide_eq_true (by kernel_rfl)) (by unfold Func.isWrapper; first | (rw [if_pos (by decide +kernel)]; kernel_rfl) | (rw [if_neg (by decide +kernel)]; exact ⟨rfl, rfl⟩))
  (fun os started H enc _ F => by rw [OpenClaim.pre_eq_preRow]; exact lifted os started H enc F)
theorem plain (f : FuncId) (fn : Func) (hf : Tryd.pinned.checked.prog.funcNamed "whetstone/whetstonelaw04.JsonGets" = some f) (hfn : Tryd.pinned.checked.prog.funcs[f]? = some fn) :
  true = Tryd.pinned.checked.prog.looks [] ∧ ∀ (j : Nat) t, fn.params[j]? = some t → Tryd.pinned.checked.prog.wantsStandIn t = false := by
 obtain rfl : f = 6 := Option.some.inj ((show Tryd.prog.funcNamed "whetstone/whetstonelaw04.JsonGets" = some 6 by kernel_rfl).symm.trans hf) |>.symm
 obtain rfl : fn = Tryd.f6 := (Option.some.inj (Tryd.func6.symm.trans hfn)).symm
 refine ⟨by kernel_rfl, fun j t ht => ?_⟩
 rw [Tryd.params6] at ht
 obtain rfl | rfl | rfl : t = 27 ∨ t = 9 ∨ t = 3 := by simpa using Array.mem_of_getElem? ht
 ·exact (show Tryd.prog.wantsStandIn 27 = false by kernel_rfl)
 ·exact (show Tryd.prog.wantsStandIn 9 = false by kernel_rfl)
 ·exact (show Tryd.prog.wantsStandIn 3 = false by kernel_rfl)
theorem card : Rows.JsonGetsCardSaid :=
 Claim7.holds_tied_plain_at .later [] _ _ _ _ said (fun _ h => by cases h) (by kernel_rfl) (fun _ h => by cases h) jsonGets_row_tie rfl ⟨rfl, rfl⟩ (by kernel_rfl) rfl plain (by kernel_rfl)
end Go.Proofs.YteighppcdpaekaaDoor.jsonGets
namespace Go.Proofs.YteighppcdpaekaaDoor
theorem jsonGetsCard_holds : Rows.JsonGetsCardSaid := jsonGets.card
#print axioms jsonGetsCard_holds
end Go.Proofs.YteighppcdpaekaaDoor
end
