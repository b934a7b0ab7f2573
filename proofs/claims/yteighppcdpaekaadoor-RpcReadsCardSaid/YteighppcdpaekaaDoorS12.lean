/- Walks and words of this session, put together by a program of this session (pack.py). Conditions: as each text says. -/
import Derived.OpenShut
import Derived.ChangeSlices
import Derived.Deep.Slices
import Derived.Test.YteighppcdpaekaaDoorS2
import Derived.Test.YteighppcdpaekaaDoorS11
set_option linter.unusedVariables false
set_option linter.unusedSimpArgs false
section
namespace Go.Proofs.YteighppcdpaekaaDoor.P
open Go.RowKit Go.Proofs.YteighppcdpaekaaDoor.Rf Go.Proofs.YteighppcdpaekaaDoorW.PrintWords Go.Proofs.YteighppcdpaekaaDoor Go.Proofs.YteighppcdpaekaaDoor.Eq4
theorem reads_all (A : Option Addr) (c : Nat) (b : List Int) (w : World) (hr : Kd.C (Kd.int .u8) w A b.length b) (hc : b.length ≤ c) (hT : TabOk w) (hB : ∀ x ∈ b, 0 ≤ x ∧ x ≤ 255) :
  Calls Tryd.prog 4 #[.slice A b.length c] w fun e w' => e = .returned (.bool true) ∧ Below w.heap.size w w' := by
 by_cases hl : 3000 < b.length
 ·exact reads_long A c b w hT hl
 have hl : b.length ≤ 3000 := by omega
 obtain ⟨r, l1, l2, l3, ⟨K1, h1⟩, ⟨K2, h2⟩⟩ := both_read hB hl;obtain ⟨K3, h3⟩ := of_val2 _ r.id (Nat.le_refl _) l1;obtain ⟨K4, h4⟩ := of_val2 _ r.params (Nat.le_refl _) l2;obtain ⟨K5, h5⟩ := of_val2 _ r.fid (Nat.le_refl _) l3;exact reads_good (K1 + K2 + K3 + K4 + K5) A c b w hr hc hT hl r (h1 _ (by omega)) (h2 _ (by omega)) (h3 _ (by omega)) (h4 _ (by omega)) (h5 _ (by omega))
end Go.Proofs.YteighppcdpaekaaDoor.P
end
section
namespace Go.Proofs.YteighppcdpaekaaDoor.P
open Go.RowKit Go.Proofs.YteighppcdpaekaaDoorW.PrintWords
open Go.ChangeShapes Go.WideShapes
set_option maxRecDepth 100000
section
variable {H : Type} {enc : TypeId × Value → H} {W : World} {sp : Nat → Bool} {held : Bool}
theorem cells_5 : Tryd.prog.cellsOf 5 = 1 := by kernel_rfl
theorem open_bytes {base : Nat} {v : Value} {d : DataW H} {p : List MemPlace} (hv : Value.okWide Tryd.prog W .any base 35 v) (h : DataW.Trod enc Tryd.prog W 0 sp held 35 v d p) :
  ∃ (b : List Int) (A : Option Addr) (c : Nat), v = .slice A b.length c ∧ b.length ≤ c ∧ Kd.C (Kd.int .u8) W A b.length b ∧ ∀ x ∈ b, 0 ≤ x ∧ x ≤ 255 := by
 obtain ⟨a1, len, cap, rfl⟩ := okWide_slice Tryd.underlying35 hv;obtain ⟨fuel, hf⟩ := h
 rcases open_ints Tryd.underlying35 Tryd.underlying5 cells_5 hf with ⟨hc, _⟩ | ⟨ad, len', cap', zs, hc, _, h1, h2, h3, _, h5, h6⟩
 ·simp [Value.cells] at hc
  obtain ⟨rfl, rfl, rfl⟩ := hc;exact ⟨[], none, 0, rfl, Nat.le_refl _, Kd.C_nil _ W, fun x hx => by cases hx⟩
 ·simp [Value.cells] at hc
  obtain ⟨rfl, rfl, rfl⟩ := hc
  have hss : len ≤ zs.length := by rw [h3]; split <;> omega
  have hll : (zs.take len).length = len := by rw [List.length_take]; omega
  refine ⟨zs.take len, some ad, cap, by rw [hll], by rw [hll]; exact h1, ?_, fun x hx => ?_⟩
  ·rw [hll]
   refine Kd.C_of_reads (enc := Value.int .u8) (d := (0 : Int)) (h1 := fun _ => rfl) ⟨hll, by unfold maxLen at h2; omega, fun _ => ⟨ad, rfl, fun j hj => ?_⟩⟩;rw [h5 j (by omega)];simp only [List.getD_eq_getElem?_getD, List.getElem?_take_of_lt hj]
  ·have := h6 x (List.mem_of_mem_take hx)
   have h7 : 0 ≤ x ∧ x ≤ 2 ^ 8 - 1 := by simpa [Lit.wf, IntKind.min, IntKind.max, IntKind.signed, IntKind.bits] using this
   omega
end
end Go.Proofs.YteighppcdpaekaaDoor.P
end
section
namespace Go.Proofs.YteighppcdpaekaaDoor.rpcReads
open Go.ChangeShapes Go.WideShapes Go.ChangeAt Go.RowKit Go.Proofs.YteighppcdpaekaaDoorW.PrintWords Go.Proofs.YteighppcdpaekaaDoor.P Go.Proofs.YteighppcdpaekaaDoor.laidFive
open Go.ChangeMaps (open_string shut_string)
set_option linter.unusedVariables false
set_option maxRecDepth 100000
theorem own : ownKnob Tryd.prog.godebug = none := by kernel_rfl
theorem laidOut : laidOutB Tryd.prog = true := by kernel_rfl
theorem contract (H : Type) (enc : TypeId × Value → H) (W : World) (base : Nat) (args : Array Value) (ds gs : List (DataW H)) (before : List MemPlace)
  (hval0 : ∀ (j : Nat) t v, Tryd.f4.params[j]? = some t → args[j]? = some v → Value.okWide Tryd.prog W .any base t v)
  (hW : DataW.Whole enc Tryd.prog Tryd.f4.params.toList Rows.rpcReadsSpec.vars false W args.toList ds gs before) (hL : laidMetH Tryd.prog Rows.rpcReadsRow.laid W) :
  Calls Tryd.prog 4 args W fun e W' => ∃ v, e = .returned v ∧ Rows.rpcReadsSpec.post enc Tryd.prog Tryd.f4 false true false false W args v W' := by
 have hval := hval0;have hW' := hW;obtain ⟨p, q, hA0, hV, rfl, hfz, hnd⟩ := hW;have hA : DataW.TrodAll enc Tryd.prog W 0 (fun _ => true) true Tryd.f4.params.toList args.toList ds p := hA0;rw [Tryd.params4] at hA hval;obtain ⟨v0, vs0, d0, ds0, p0, q0, hargs, rfl, rfl, h0, r0⟩ := trodAll_cons hA;obtain ⟨rfl, rfl, rfl⟩ := trodAll_nil r0
 obtain rfl : args = #[v0] := by cases args; simp_all
 obtain ⟨rfl, rfl⟩ := trodVars_none hV;have k0 := h0
 have lt0 : ∀ x ∈ p0, x.block < W.heap.size := by obtain ⟨m, hm⟩ := k0; exact DataW.trod_lt m _ _ _ hm
 obtain ⟨b0, A0, c0, rfl, hc0, hr0, hB0⟩ := open_bytes (hval 0 35 v0 rfl rfl) h0;have hT := tabs (W := W) hL;clear hA0 hval0
 refine (reads_all A0 c0 b0 W hr0 hc0 hT hB0).mono fun e W' ⟨he, bel⟩ => ?_
 subst he;exact ⟨_, rfl, _, _, _, [], _, [], hW', trodAll_mk1 (shut_bool Tryd.underlying4 _), (trodAll_cons_mk (Below.trod laidOut (by kernel_rfl) (of_decide_eq_true (by kernel_rfl)) k0 bel lt0) trodAll_mk0), rfl, bel.frame _, fun h => by cases h⟩
theorem laid_met (os : Os) : laidMet Tryd.prog Rows.rpcReadsRow.laid ((laidWorld os).forCall (fun _ _ => 0) ⟨#[], #[.slice none 0 0], []⟩).memory :=
 laidMet_of_run' 8 (by kernel_rfl) (by kernel_rfl)
theorem reads (os : Os) {H : Type} (enc : TypeId × Value → H) : ∃ places, DataW.whole enc Tryd.prog ((laidWorld os).forCall (fun _ _ => 0) ⟨#[], #[.slice none 0 0], []⟩).memory Tryd.f4.params.toList Rows.rpcReadsSpec.vars false (#[.slice none 0 0] : Array Value).toList 8 = some ([.nil], [], places) :=
 ⟨[], by kernel_rfl⟩
theorem lifted (os : Os) (started : os.Started) (H : Type) (enc : TypeId × Value → H) (F : Stop.Interp) :
  ReturnsInHanded {} Tryd.checked os 4 .any ((OpenSpec.ofChange Rows.rpcReadsSpec).preRow enc Tryd.prog Tryd.f4 Rows.rpcReadsRow.domain false Rows.rpcReadsRow.laid) (((OpenSpec.ofChange Rows.rpcReadsSpec).at F).post enc Tryd.prog Tryd.f4 false true false false) := by
 obtain ⟨places, hx⟩ := reads os enc
 refine returnsInHanded_of_row (C := Tryd.checked) (s := OpenSpec.ofChange Rows.rpcReadsSpec) own started (by kernel_rfl) Tryd.func4
  (witness_row_atRef (enc := enc) (C := Tryd.checked) false (laidWorld os) #[.slice none 0 0] rfl (by kernel_rfl) (by kernel_rfl) (by kernel_rfl)
   (OpenSpec.preRow_of_cond 8 hx (by kernel_rfl) (fun k hk => by cases hk) (by kernel_rfl) (laid_met os))) ?_
 intro W base args ds gs before hval hW _ _ _ hL _ _;exact contract H enc W base args ds gs before hval hW hL
theorem said : Rows.RpcReadsSaid :=
 OpenClaim.holds_of_cond 4 Tryd.f4 rfl rfl rfl rfl rfl rfl rfl ⟨rfl, rfl, rfl, rfl, rfl⟩ rfl rfl rfl rfl rfl (by kernel_rfl) Tryd.func4 (by kernel_rfl)
  (of_decide_eq_true (by kernel_rfl)) (by unfold Func.isWrapper; first | (rw [if_pos (by decide +kernel)]; kernel_rfl) | (rw [if_neg (by decide +kernel)]; exact ⟨rfl, rfl⟩))
  (fun os started H enc _ F => by rw [OpenClaim.pre_eq_preRow]; exact lifted os started H enc F)
theorem plain (f : FuncId) (fn : Func) (hf : Tryd.pinned.checked.prog.funcNamed "whetstone/whetstonelaw06.RpcReads" = some f) (hfn : Tryd.pinned.checked.prog.funcs[f]? = some fn) :
  true = Tryd.pinned.checked.prog.looks [] ∧ ∀ (j : Nat) t, fn.params[j]? = some t → Tryd.pinned.checked.prog.wantsStandIn t = false := by
 obtain rfl : f = 4 := Option.some.inj ((show Tryd.prog.funcNamed "whetstone/whetstonelaw06.RpcReads" = some 4 by kernel_rfl).symm.trans hf) |>.symm
 obtain rfl : fn = Tryd.f4 := (Option.some.inj (Tryd.func4.symm.trans hfn)).symm;refine ⟨by kernel_rfl, fun j t ht => ?_⟩;rw [Tryd.params4] at ht
 obtain rfl : t = 35 := by simpa using Array.mem_of_getElem? ht
 exact (show Tryd.prog.wantsStandIn 35 = false by kernel_rfl)
theorem card : Rows.RpcReadsCardSaid :=
 Claim7.holds_tied_plain_at .later [] _ _ _ _ said (fun _ h => by cases h) (by kernel_rfl) (fun _ h => by cases h) rpcReads_row_tie rfl ⟨rfl, rfl⟩ (by kernel_rfl) rfl plain (by kernel_rfl)
end Go.Proofs.YteighppcdpaekaaDoor.rpcReads
namespace Go.Proofs.YteighppcdpaekaaDoor
theorem rpcReadsCard_holds : Rows.RpcReadsCardSaid := rpcReads.card
#print axioms rpcReadsCard_holds
end Go.Proofs.YteighppcdpaekaaDoor
end
