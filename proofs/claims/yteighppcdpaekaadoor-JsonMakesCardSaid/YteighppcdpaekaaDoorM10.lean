/- Walks and words of this session, put together by a program of this session (pack.py). Conditions: as each text says. -/
import Derived.Test.YteighppcdpaekaaDoorCards
import Derived.Test.YteighppcdpaekaaDoorTie
import Derived.WalkKit
import Derived.ProofKit
import Derived.OpenShut
import Derived.SliceStrings
import Derived.ChangeMaps5
import Derived.JoinedCond
import Derived.ChangeOld
import Derived.Below
import Derived.Deep.DeepHandedRow
import Derived.Lib.LaidTab
import Derived.Test.YteighppcdpaekaaDoorM9
set_option linter.unusedVariables false
set_option linter.unusedSimpArgs false
section
namespace Go.Proofs.YteighppcdpaekaaDoor.Mk
open Go.RowKit Go.Proofs.YteighppcdpaekaaDoorW.PrintWords Go.Proofs.YteighppcdpaekaaDoor.P
theorem of_small (i : Nat) (h : i < 100) : json_Of.f (i : Int) = some (3, itoaS i, [], []) := by
 unfold json_Of.f
 rw [if_pos ⟨by omega, by omega⟩]
 rfl
theorem equal_num (s : ByteArray) (k : Nat) : json_Equal.f (k + 3) 3 s [] [] 3 s [] [] = some true := by
 simp [json_Equal.f, json_Equal.j0, json_Equal.j1]
def pr (x0 : List ByteArray) (i : Nat) : S30 := ⟨rdOf ByteArray.empty x0 i, ⟨3, itoaS i, [], []⟩⟩
def prs (x0 : List ByteArray) (n : Nat) : List S30 := (List.range n).map (pr x0)
theorem prs_snoc (x0 : List ByteArray) (i : Nat) : prs x0 i ++ [pr x0 i] = prs x0 (i + 1) := by simp [prs, List.range_succ]
theorem prs_len (x0 : List ByteArray) (i : Nat) : (prs x0 i).length = i := by simp [prs]
theorem wrap_succ (i : Nat) (h : i ≤ 20) : wrap64 ((i : Int) + 1) = ((i + 1 : Nat) : Int) := by unfold wrap64; omega
theorem loop0 (x0 : List ByteArray) (x1 : ByteArray) (hn : x0.length ≤ 20) (k : Nat) : ∀ m i : Nat, i + m = x0.length →
    whetstonelaw04_JsonMakes.l0 (k + m) x0 x1 (prs x0 i) (i : Int) = whetstonelaw04_JsonMakes.l0 k x0 x1 (prs x0 x0.length) (x0.length : Int)
  | 0, i, h => by obtain rfl : i = x0.length := by omega
                  rfl
  | m + 1, i, h => by
    rw [← loop0 x0 x1 hn k m (i + 1) (by omega)]
    show whetstonelaw04_JsonMakes.l0 ((k + m) + 1) x0 x1 (prs x0 i) (i : Int) = _
    rw [whetstonelaw04_JsonMakes.l0, if_pos (by omega), if_pos (by omega), of_small i (by omega)]
    show (if (prs x0 i).length < 1599289640401 then whetstonelaw04_JsonMakes.l0 (k + m) x0 x1 (prs x0 i ++ [pr x0 i]) (wrap64 ((i : Int) + 1)) else none) = _
    rw [if_pos (by rw [prs_len]; omega), prs_snoc, wrap_succ i (by omega)]
theorem keys_at (x0 : List ByteArray) (n i : Nat) (h : i < n) : rdOf ByteArray.empty ((prs x0 n).map S30.f0) (i : Int) = rdOf ByteArray.empty x0 (i : Int) := by
 unfold rdOf
 rw [List.getD_eq_getElem?_getD, List.getElem?_map]
 simp [prs, h, pr, rdOf]
theorem vals_at (x0 : List ByteArray) (n i : Nat) (h : i < n) : rd_T27 ((prs x0 n).map S30.f1) (i : Int) = ⟨3, itoaS i, [], []⟩ := by
 unfold rd_T27
 rw [List.getD_eq_getElem?_getD, List.getElem?_map]
 simp [prs, h, pr]
theorem loop1 (x0 : List ByteArray) (x1 : ByteArray) (hn : x0.length ≤ 20) : ∀ m i : Nat, i + m = x0.length →
  whetstonelaw04_JsonMakes.l1 (m + 4) x0 x1 (i : Int) 6 ⟨#[]⟩ ((prs x0 x0.length).map S30.f0) ((prs x0 x0.length).map S30.f1) = some true
 | 0, i, h => by
  obtain rfl : i = x0.length := by omega
  rw [show 0 + 4 = 3 + 1 from rfl, whetstonelaw04_JsonMakes.l1, if_neg (by omega)]
  simp [json_Text.f]
 | m + 1, i, h => by
  have ih := loop1 x0 x1 hn m (i + 1) (by omega)
  rw [show m + 1 + 4 = (m + 4) + 1 by omega, whetstonelaw04_JsonMakes.l1, if_pos (by omega), if_pos (by omega), if_pos (by rw [List.length_map, prs_len]; omega), if_pos (by rw [keys_at x0 _ i (by omega)]), if_pos (by rw [List.length_map, prs_len]; omega), of_small i (by omega)]
  rw [Option.bind_some, vals_at x0 _ i (by omega)]
  dsimp only
  have he := equal_num (itoaS i) (m + 1)
  rw [show m + 1 + 3 = m + 4 by omega] at he
  rw [he, Option.bind_some, if_pos rfl, wrap_succ i (by omega)]
  exact ih
theorem made (x0 : List ByteArray) (hn : x0.length ≤ 20) : json_Made.f (prs x0 x0.length) = some (6, ⟨#[]⟩, (prs x0 x0.length).map S30.f0, (prs x0 x0.length).map S30.f1) := by
 unfold json_Made.f
 rw [if_pos (by rw [prs_len]; omega)]
theorem pure (l0 : List ByteArray) (a1 : ByteArray) : ∃ k, whetstonelaw04_JsonMakes.f k l0 a1 = some true := by
 by_cases hn : l0.length ≤ 20
 ·refine ⟨(((l0.length + 4) + 1) + 1) + l0.length + 1, ?_⟩
  unfold whetstonelaw04_JsonMakes.f
  rw [show whetstonelaw04_written.f ((((l0.length + 4) + 1) + 1) + l0.length + 1) = some true from rfl, Option.bind_some, if_pos rfl, decide_eq_false (by omega)]
  rw [whetstonelaw04_JsonMakes.j0, if_neg (by decide)]
  have h0 := loop0 l0 a1 hn (((l0.length + 4) + 1) + 1) l0.length 0 (by omega)
  rw [show ([] : List S30) = prs l0 0 from rfl]
  rw [show (0 : Int) = ((0 : Nat) : Int) from rfl, h0, whetstonelaw04_JsonMakes.l0, if_neg (by omega), made l0 hn]
  rw [Option.bind_some, if_pos rfl, if_pos (by rw [List.length_map, prs_len]), whetstonelaw04_JsonMakes.j2, if_neg (by simp [prs_len])]
  exact loop1 l0 a1 hn l0.length 0 (by omega)
 ·refine ⟨2, ?_⟩
  unfold whetstonelaw04_JsonMakes.f
  rw [show whetstonelaw04_written.f 2 = some true from rfl, Option.bind_some, if_pos rfl, decide_eq_true (by omega)]
  rw [whetstonelaw04_JsonMakes.j0, if_pos rfl]
  rfl
end Go.Proofs.YteighppcdpaekaaDoor.Mk
end
section
namespace Go.Proofs.YteighppcdpaekaaDoor.jsonMakes
open Go.ChangeShapes Go.WideShapes Go.ChangeAt Go.RowKit Go.Proofs.YteighppcdpaekaaDoorW.PrintWords Go.Proofs.YteighppcdpaekaaDoor.P
open Go.ChangeMaps (open_string shut_string)
set_option linter.unusedVariables false
set_option maxRecDepth 100000
theorem own : ownKnob Tryd.prog.godebug = none := by kernel_rfl
theorem laidOut : laidOutB Tryd.prog = true := by kernel_rfl
theorem cells_9 : Tryd.prog.cellsOf 9 = 1 := by kernel_rfl
theorem read_strings {H : Type} {enc : TypeId × Value → H} {W : World} {v : Value} {d : DataW H} {p : List MemPlace} {base : Nat} (hval : Value.okWide Tryd.prog W .any base 22 v) (h : DataW.Trod enc Tryd.prog W 0 (fun _ => true) true 22 v d p) :
  ∃ (l2 : List ByteArray) (A2 : Option Addr) (c2 : Nat), v = .slice A2 l2.length c2 ∧ l2.length ≤ c2 ∧ Kd.string.C W A2 l2.length l2 := by
 obtain ⟨a0, n0, m0, rfl⟩ := okWide_slice Tryd.underlying22 hval
 obtain ⟨fuel, f2⟩ := h
 rcases open_strings Tryd.underlying22 Tryd.underlying9 cells_9 f2 with ⟨hc, _⟩ | ⟨ad, len, cap, ss, hc, _, h1, h2, h3, _, h5, _⟩
 ·have hc' : Value.slice a0 n0 m0 = .slice none 0 0 := by simpa [Value.cells] using hc
  exact ⟨[], none, 0, hc', Nat.le_refl _, Kd.C_nil Kd.string W⟩
 ·have hc' : Value.slice a0 n0 m0 = .slice (some ad) len cap := by simpa [Value.cells] using hc
  have hss : len ≤ ss.length := by rw [h3]; split <;> omega
  have hll : (ss.take len).length = len := by rw [List.length_take]; omega
  refine ⟨ss.take len, some ad, cap, by rw [hll]; exact hc', by rw [hll]; exact h1, ?_⟩
  rw [hll]
  refine Kd.C_of_reads (enc := Value.string) (d := ByteArray.empty) (h1 := fun _ => rfl) ⟨hll, by unfold maxLen at h2; omega, fun _ => ⟨ad, rfl, fun j hj => ?_⟩⟩
  rw [h5 j (by omega)]
  simp only [List.getD_eq_getElem?_getD, List.getElem?_take_of_lt hj]
theorem contract (H : Type) (enc : TypeId × Value → H) (W : World) (base : Nat) (args : Array Value) (ds gs : List (DataW H)) (before : List MemPlace)
  (hval0 : ∀ (j : Nat) t v, Tryd.f3.params[j]? = some t → args[j]? = some v → Value.okWide Tryd.prog W .any base t v)
  (hW : DataW.Whole enc Tryd.prog Tryd.f3.params.toList Rows.jsonMakesSpec.vars false W args.toList ds gs before) :
  Calls Tryd.prog 3 args W fun e W' => ∃ v, e = .returned v ∧ Rows.jsonMakesSpec.post enc Tryd.prog Tryd.f3 false true false false W args v W' := by
 have hval := hval0
 have hW' := hW
 obtain ⟨p, q, hA0, hV, rfl, hfz, hnd⟩ := hW
 have hA : DataW.TrodAll enc Tryd.prog W 0 (fun _ => true) true Tryd.f3.params.toList args.toList ds p := hA0
 rw [Tryd.params3] at hA hval
 obtain ⟨v0, vs0, d0, ds0, p0, q0, hargs, rfl, rfl, h0, r0⟩ := trodAll_cons hA
 obtain ⟨v1, vs1, d1, ds1, p1, q1, rfl, rfl, rfl, h1, r1⟩ := trodAll_cons r0
 obtain ⟨rfl, rfl, rfl⟩ := trodAll_nil r1
 obtain rfl : args = #[v0, v1] := by cases args; simp_all
 obtain ⟨rfl, rfl⟩ := trodVars_none hV
 have k0 := h0
 have lt0 : ∀ x ∈ p0, x.block < W.heap.size := by obtain ⟨m, hm⟩ := k0; exact DataW.trod_lt m _ _ _ hm
 obtain ⟨l0, A0, c0, rfl, hl, hC⟩ := read_strings (hval 0 22 v0 rfl rfl) h0
 obtain ⟨s, rfl, rfl, rfl, hs⟩ := open_string Tryd.underlying9 (hval 1 9 v1 rfl rfl) h1
 clear hA0 hval0
 obtain ⟨k, hk2⟩ := Mk.pure l0 s
 refine (whetstonelaw04_JsonMakes.calls k A0 c0 l0 s true W hC hl hk2).mono fun e W' ⟨he, bel⟩ => ?_
 subst he
 exact ⟨_, rfl, _, _, _, [], _, [], hW', trodAll_mk1 (shut_bool Tryd.underlying4 _), (trodAll_cons_mk (Below.trod laidOut (by kernel_rfl) (of_decide_eq_true (by kernel_rfl)) k0 bel lt0) (trodAll_cons_mk (shut_string Tryd.underlying9 hs) trodAll_mk0)), rfl, bel.frame _, fun h => by cases h⟩
def lits {H : Type} : DataW H → List Value
 | .agg l => l.map fun d => match d with
  | .lit (.int k z) => .int k z
  | _ => undef
 | _ => []
def putTab (h : Array Obj) (i : Nat) (cs : List Value) : Array Obj := h.modify i fun
 | .cells _ t frozen => .cells cs.toArray t frozen
 | o => o
noncomputable def laidWorld (os : Os) : World :=
 { World.holding Tryd.prog os ⟨#[], #[], []⟩ with heap := putTab (putTab (putTab (World.holding Tryd.prog os ⟨#[], #[], []⟩).heap 2 (lits (H := Unit) Rows.laid_internal_strconv_uint64pow10)) 3 (lits (H := Unit) Rows.laid_math_bits_deBruijn32tab)) 4 (lits (H := Unit) Rows.laid_math_bits_deBruijn64tab) }
theorem laid_met (os : Os) : laidMet Tryd.prog Rows.jsonMakesRow.laid ((laidWorld os).forCall (fun _ _ => 0) ⟨#[], #[.slice none 0 0, .string .empty], []⟩).memory :=
 laidMet_of_run' 8 (by kernel_rfl) (by kernel_rfl)
theorem reads (os : Os) {H : Type} (enc : TypeId × Value → H) : ∃ places, DataW.whole enc Tryd.prog ((laidWorld os).forCall (fun _ _ => 0) ⟨#[], #[.slice none 0 0, .string .empty], []⟩).memory Tryd.f3.params.toList Rows.jsonMakesSpec.vars false #[Value.slice none 0 0, .string .empty].toList 8 = some ([.nil, .lit (.string [])], [], places) :=
 ⟨[], by kernel_rfl⟩
set_option maxRecDepth 100000 in
theorem lifted (os : Os) (started : os.Started) (H : Type) (enc : TypeId × Value → H) (F : Stop.Interp) :
  ReturnsInHanded {} Tryd.checked os 3 .any ((OpenSpec.ofChange Rows.jsonMakesSpec).preRow enc Tryd.prog Tryd.f3 Rows.jsonMakesRow.domain false Rows.jsonMakesRow.laid) (((OpenSpec.ofChange Rows.jsonMakesSpec).at F).post enc Tryd.prog Tryd.f3 false true false false) := by
 obtain ⟨places, hx⟩ := reads os enc
 refine returnsInHanded_of_row (C := Tryd.checked) (s := OpenSpec.ofChange Rows.jsonMakesSpec) own started (by kernel_rfl) Tryd.func3
  (witness_row_at (enc := enc) (C := Tryd.checked) false (laidWorld os) #[.slice none 0 0, .string .empty] rfl (by kernel_rfl) (by kernel_rfl) (by kernel_rfl)
   (OpenSpec.preRow_of_cond 8 hx (by kernel_rfl) (fun k hk => by cases hk) (by kernel_rfl) (laid_met os))) ?_
 intro W base args ds gs before hval hW _ _ _ hL _ _
 exact contract H enc W base args ds gs before hval hW
theorem said : Rows.JsonMakesSaid :=
 OpenClaim.holds_of_cond 3 Tryd.f3 rfl rfl rfl rfl rfl rfl rfl ⟨rfl, rfl, rfl, rfl, rfl⟩ rfl rfl rfl rfl rfl (by kernel_rfl) Tryd.func3 (by kernel_rfl)
  (of_decide_eq_true (by kernel_rfl)) (by unfold Func.isWrapper; first | (rw [if_pos (by decide +kernel)]; kernel_rfl) | (rw [if_neg (by decide +kernel)]; exact ⟨rfl, rfl⟩))
  (fun os started H enc _ F => by rw [OpenClaim.pre_eq_preRow]; exact lifted os started H enc F)
theorem plain (f : FuncId) (fn : Func) (hf : Tryd.pinned.checked.prog.funcNamed "whetstone/whetstonelaw04.JsonMakes" = some f) (hfn : Tryd.pinned.checked.prog.funcs[f]? = some fn) :
  true = Tryd.pinned.checked.prog.looks [] ∧ ∀ (j : Nat) t, fn.params[j]? = some t → Tryd.pinned.checked.prog.wantsStandIn t = false := by
 obtain rfl : f = 3 := Option.some.inj ((show Tryd.prog.funcNamed "whetstone/whetstonelaw04.JsonMakes" = some 3 by kernel_rfl).symm.trans hf) |>.symm
 obtain rfl : fn = Tryd.f3 := (Option.some.inj (Tryd.func3.symm.trans hfn)).symm
 refine ⟨by kernel_rfl, fun j t ht => ?_⟩
 rw [Tryd.params3] at ht
 obtain rfl | rfl : t = 22 ∨ t = 9 := by simpa using Array.mem_of_getElem? ht
 ·exact (show Tryd.prog.wantsStandIn 22 = false by kernel_rfl)
 ·exact (show Tryd.prog.wantsStandIn 9 = false by kernel_rfl)
theorem card : Rows.JsonMakesCardSaid :=
 Claim7.holds_tied_plain_at .later [] _ _ _ _ said (fun _ h => by cases h) (by kernel_rfl) (fun _ h => by cases h) jsonMakes_row_tie rfl ⟨rfl, rfl⟩ (by kernel_rfl) rfl plain (by kernel_rfl)
end Go.Proofs.YteighppcdpaekaaDoor.jsonMakes
namespace Go.Proofs.YteighppcdpaekaaDoor
theorem jsonMakesCard_holds : Rows.JsonMakesCardSaid := jsonMakes.card
#print axioms jsonMakesCard_holds
end Go.Proofs.YteighppcdpaekaaDoor
end
