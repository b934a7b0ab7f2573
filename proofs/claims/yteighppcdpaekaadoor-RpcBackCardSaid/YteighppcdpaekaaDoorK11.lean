/- Walks and words of this session, put together by a program of this session (pack.py). Conditions: as each text says. -/
import Derived.Lib.ItoaNum
import Derived.Lib.AtoiTie
import Derived.Lib.ItoaLen
import Derived.Test.YteighppcdpaekaaDoorK2
import Derived.Test.YteighppcdpaekaaDoorK10
set_option linter.unusedVariables false
set_option linter.unusedSimpArgs false
section
namespace Go.Proofs.YteighppcdpaekaaDoor.Num
open Go.Lib Go.Proofs.YteighppcdpaekaaDoor.P
theorem decFrom_snoc (c : UInt8) : ∀ (l : List UInt8) (acc : Nat), decFrom acc (l ++ [c]) = (decFrom acc l).bind fun m => (digitVal c).map (fun d => m * 10 + d)
 | [], acc => by
  simp only [List.nil_append, decFrom, Option.bind_some]
  cases digitVal c <;> simp
 | b :: r, acc => by
  simp only [List.cons_append, decFrom]
  cases digitVal b with
  | none => rfl
  | some d => exact decFrom_snoc c r _
theorem u8_val (d : Nat) (h : d < 10) : (UInt8.ofNat (48 + d)).toNat = 48 + d := by
 rw [UInt8.toNat_ofNat']
 omega
theorem digit_of (d : Nat) (h : d < 10) : digitVal (UInt8.ofNat (48 + d)) = some d := by
 unfold digitVal
 rw [u8_val d h, if_pos (by omega)]
 congr 1; omega
theorem dec_back (u : Nat) : decFrom 0 (decDigits u) = some u := by
 induction u using Nat.strongRecOn with
 | _ u ih =>
  by_cases h : u < 10
  ·rw [decDigits_one h]
   show (match digitVal (UInt8.ofNat (48 + u)) with | some d => decFrom (0 * 10 + d) [] | none => none) = some u
   rw [digit_of u h]
   simp [decFrom]
  ·rw [decDigits, dif_neg h, decFrom_snoc, ih (u / 10) (by omega), digit_of _ (by omega)]
   simp; omega
theorem dec_head (u : Nat) : 1 ≤ u → ∃ d, 1 ≤ d ∧ d < 10 ∧ (decDigits u).head? = some (UInt8.ofNat (48 + d)) := by
 induction u using Nat.strongRecOn with
 | _ u ih =>
  intro h1
  by_cases h : u < 10
  ·exact ⟨u, h1, h, by rw [decDigits_one h]; rfl⟩
  ·obtain ⟨d, a, b, c⟩ := ih (u / 10) (by omega) (by omega)
   refine ⟨d, a, b, ?_⟩
   rw [decDigits, dif_neg h, List.head?_append, c]
   rfl
theorem nd_le : ∀ (k u : Nat), u < 10 ^ (k + 1) → nDigits u ≤ k + 1
 | 0, u, h => by rw [nDigits_small (by simpa using h)]; exact Nat.le_refl _
 | k + 1, u, h => by
  by_cases hu : u < 10
  ·rw [nDigits_small hu]; omega
  ·rw [nDigits_big hu]
   have := nd_le k (u / 10) (by rw [Nat.pow_succ] at h; omega)
   omega
theorem dec_len (u : Nat) (h : u ≤ 999999999) : 1 ≤ (decDigits u).length ∧ (decDigits u).length ≤ 9 := by
 rw [decDigits_length]
 exact ⟨nDigits_pos u, nd_le 8 u (by omega)⟩
theorem itoa_pos (u : Nat) : itoa (u : Int) = decDigits u := by unfold itoa; rw [if_neg (by omega)]; rfl
theorem itoa_minus (u : Nat) (h : 1 ≤ u) : itoa (-(u : Int)) = 45 :: decDigits u := by unfold itoa; rw [if_pos (by omega)]; congr 2; omega
theorem head_ne {d : Nat} {b : UInt8} (h1 : 1 ≤ d) (h2 : d < 10) (hb : b.toNat ≤ 48) : (some (UInt8.ofNat (48 + d)) : Option UInt8) ≠ some b := by
 intro e
 have := congrArg UInt8.toNat (Option.some.inj e)
 rw [u8_val d h2] at this
 omega
theorem atoi_itoa (v : Int) (h0 : -999999999 ≤ v) (h1 : v ≤ 999999999) : atoiAll (itoa v) = .ok v := by
 by_cases hv : v < 0
 ·obtain ⟨u, rfl⟩ : ∃ u : Nat, v = -(u : Int) := ⟨v.natAbs, by omega⟩
  have hu : 1 ≤ u := by omega
  have hl := dec_len u (by omega)
  rw [itoa_minus u hu, atoiAll_short _ (by simp; omega)]
  have hn : decNat (decDigits u) = some u := by
   unfold decNat
   rw [if_neg (by intro e; rw [List.isEmpty_iff] at e; rw [e] at hl; simp at hl), dec_back]
  simp [atoi, hn, NumEnd.ofOption]
 ·obtain ⟨u, rfl⟩ : ∃ u : Nat, v = (u : Int) := ⟨v.toNat, by omega⟩
  have hl := dec_len u (by omega)
  rw [itoa_pos u, atoiAll_short _ (by omega)]
  have hn : decNat (decDigits u) = some u := by
   unfold decNat
   rw [if_neg (by intro e; rw [List.isEmpty_iff] at e; rw [e] at hl; simp at hl), dec_back]
  rcases Nat.eq_zero_or_pos u with rfl | hu
  ·rw [decDigits_one (by omega)]; rfl
  ·obtain ⟨d, a, b, c⟩ := dec_head u hu
   cases hD : decDigits u with
   | nil => rw [hD] at c; cases c
   | cons x r =>
    rw [hD] at c hn
    obtain rfl : x = UInt8.ofNat (48 + d) := by simpa using c
    have e1 : ((UInt8.ofNat (48 + d)) == 45) = false := beq_eq_false_iff_ne.2 (fun e => head_ne a b (b := 45) (by decide) (congrArg some e))
    have e2 : ((UInt8.ofNat (48 + d)) == 43) = false := beq_eq_false_iff_ne.2 (fun e => head_ne a b (b := 43) (by decide) (congrArg some e))
    show NumEnd.ofOption (if ((UInt8.ofNat (48 + d)) == 45) = true then _ else if ((UInt8.ofNat (48 + d)) == 43) = true then _ else (decNat (UInt8.ofNat (48 + d) :: r)).map _) = _
    rw [e1, e2, if_neg (by decide), if_neg (by decide), hn]
    rfl
theorem intT_itoa (v : Int) (h0 : -999999999 ≤ v) (h1 : v ≤ 999999999) : intT (itoa v) = (v, true) := by
 unfold intT
 rw [atoi_itoa v h0 h1]
 simp only
 rw [if_pos ⟨trivial, h0, h1⟩]
end Go.Proofs.YteighppcdpaekaaDoor.Num
end
section
namespace Go.Proofs.YteighppcdpaekaaDoor.Rb
open Go.RowKit Go.Proofs.YteighppcdpaekaaDoorW.PrintWords Go.Proofs.YteighppcdpaekaaDoorW.PrintLast Go.Proofs.YteighppcdpaekaaDoorW.PrintMore Go.Proofs.YteighppcdpaekaaDoor.P Go.Proofs.YteighppcdpaekaaDoor.Num
def numS (n : Int) : S27 := ⟨3, ⟨(Lib.itoa n).toArray⟩, [], []⟩
def kLine : ByteArray := ⟨#[108, 105, 110, 101]⟩
def kChar : ByteArray := ⟨#[99, 104, 97, 114, 97, 99, 116, 101, 114]⟩
def posS (a b : Int) : S27 := ⟨6, ⟨#[]⟩, [kLine, kChar], [numS a, numS b]⟩
def Sm (n : Int) : Prop := -999999999 ≤ n ∧ n ≤ 999999999
theorem of_eq (n : Int) (h : Sm n) : json_Of.f n = some (3, ⟨(Lib.itoa n).toArray⟩, [], []) := by
 unfold json_Of.f; rw [if_pos ⟨by have := h.1; omega, by have := h.2; omega⟩]
theorem frompos_eq (a b : Int) (ha : Sm a) (hb : Sm b) : rpc_FromPos.f a b = some (6, ⟨#[]⟩, [kLine, kChar], [numS a, numS b]) := by
 unfold rpc_FromPos.f
 rw [of_eq a ha, of_eq b hb]
 rfl
theorem fromrange_eq (a b c d : Int) (ha : Sm a) (hb : Sm b) (hc : Sm c) (hd : Sm d) : rpc_FromRange.f a b c d = some (6, ⟨#[]⟩, [⟨#[115, 116, 97, 114, 116]⟩, ⟨#[101, 110, 100]⟩], [posS a b, posS c d]) := by
 unfold rpc_FromRange.f
 rw [frompos_eq a b ha hb, frompos_eq c d hc hd]
 rfl
theorem int_eq (n : Int) (h : Sm n) : json_Int.f 3 ⟨(Lib.itoa n).toArray⟩ [] [] = some (n, true) := by
 have hl := Lib.itoa_length_le n (by have := h.1; omega) (by have := h.2; omega)
 unfold json_Int.f
 have hs : (⟨(Lib.itoa n).toArray⟩ : ByteArray).size = (Lib.itoa n).length := by simp [ByteArray.size]
 rw [if_pos (by rw [hs]; omega), if_pos rfl]
 exact congrArg some (intT_itoa n h.1 h.2)
theorem get1 (k : Nat) (ka kb : ByteArray) (u v : S27) : json_Get.f (k + 3) 6 ⟨#[]⟩ [ka, kb] [u, v] ka = some (u.f0, u.f1, u.f2, u.f3, true) := by
 show json_Get.l0 (k + 2) ka [ka, kb] 2 0 6 ⟨#[]⟩ [ka, kb] [u, v] = _
 simp only [json_Get.l0]
 rw [if_pos (by decide), if_pos (by decide), if_pos (by simp), if_pos (by rfl), if_pos (by simp)]
 rfl
theorem get2 (k : Nat) (ka kb : ByteArray) (u v : S27) (h : ka.toList ≠ kb.toList) : json_Get.f (k + 3) 6 ⟨#[]⟩ [ka, kb] [u, v] kb = some (v.f0, v.f1, v.f2, v.f3, true) := by
 show json_Get.l0 (k + 2) kb [ka, kb] 2 0 6 ⟨#[]⟩ [ka, kb] [u, v] = _
 rw [json_Get.l0, if_pos (by decide), if_pos (by decide), if_pos (by simp), if_neg (by exact h), show wrap64 ((0 : Int) + 1) = 1 from by unfold wrap64; omega]
 rw [json_Get.l0, if_pos (by decide), if_pos (by decide), if_pos (by simp), if_pos (by rfl), if_pos (by simp)]
 rfl
theorem position_eq (k : Nat) (a b : Int) (ha : Sm a) (hb : Sm b) : rpc_Position.f (k + 3) 6 ⟨#[]⟩ [kLine, kChar] [numS a, numS b] = some (a, b, true) := by
 unfold rpc_Position.f
 rw [show (⟨#[108, 105, 110, 101]⟩ : ByteArray) = kLine from rfl, show (⟨#[99, 104, 97, 114, 97, 99, 116, 101, 114]⟩ : ByteArray) = kChar from rfl, get1, get2 _ _ _ _ _ (by decide +kernel)]
 simp only [Option.bind_some]
 rw [if_pos trivial]
 simp only [rpc_Position.j0]
 rw [if_neg (by decide)]
 show ((json_Int.f 3 ⟨(Lib.itoa a).toArray⟩ [] []).bind fun x => (json_Int.f 3 ⟨(Lib.itoa b).toArray⟩ [] []).bind fun y => _) = _
 rw [int_eq a ha, int_eq b hb]
 rfl
theorem range_eq (k : Nat) (a b c d : Int) (ha : Sm a) (hb : Sm b) (hc : Sm c) (hd : Sm d) : rpc_Range.f (k + 4) 6 ⟨#[]⟩ [⟨#[115, 116, 97, 114, 116]⟩, ⟨#[101, 110, 100]⟩] [posS a b, posS c d] = some (a, b, c, d, true) := by
 unfold rpc_Range.f
 rw [get1 (k + 1), get2 (k + 1) _ _ _ _ (by decide +kernel)]
 simp only [Option.bind_some]
 rw [if_pos trivial]
 simp only [rpc_Range.j0]
 rw [if_neg (by decide)]
 show ((rpc_Position.f (k + 3) 6 ⟨#[]⟩ [kLine, kChar] [numS a, numS b]).bind fun x => (rpc_Position.f (k + 3) 6 ⟨#[]⟩ [kLine, kChar] [numS c, numS d]).bind fun y => _) = _
 rw [position_eq k a b ha hb, position_eq k c d hc hd]
 rfl
theorem out (k : Nat) (a b c d : Int) : whetstonelaw06_RpcBack.j0 (k + 1) true a b c d = some true := by
 simp only [whetstonelaw06_RpcBack.j0]
 rw [if_pos trivial]
 rfl
theorem inn (k : Nat) (a b c d : Int) (ha : Sm a) (hb : Sm b) (hc : Sm c) (hd : Sm d) : whetstonelaw06_RpcBack.j0 (k + 5) false a b c d = some true := by
 simp only [whetstonelaw06_RpcBack.j0]
 rw [if_neg (by decide), frompos_eq a b ha hb]
 simp only [Option.bind_some]
 rw [position_eq (k + 1) a b ha hb, fromrange_eq a b c d ha hb hc hd]
 simp only [Option.bind_some]
 rw [range_eq k a b c d ha hb hc hd]
 simp
theorem back_pure (a b c d : Int) : whetstonelaw06_RpcBack.f 9 a b c d = some true := by
 unfold whetstonelaw06_RpcBack.f
 rw [show whetstonelaw06_called.f = some true from rfl]
 simp only [Option.bind_some]
 rw [if_pos trivial]
 by_cases h1 : a < -999999999
 ·rw [if_pos h1]; exact out 8 _ _ _ _
 rw [if_neg h1]
 by_cases h2 : a > 999999999
 ·rw [if_pos h2]; exact out 8 _ _ _ _
 rw [if_neg h2]
 by_cases h3 : b < -999999999
 ·rw [if_pos h3]; exact out 8 _ _ _ _
 rw [if_neg h3]
 by_cases h4 : b > 999999999
 ·rw [if_pos h4]; exact out 8 _ _ _ _
 rw [if_neg h4]
 by_cases h5 : c < -999999999
 ·rw [if_pos h5]; exact out 8 _ _ _ _
 rw [if_neg h5]
 by_cases h6 : c > 999999999
 ·rw [if_pos h6]; exact out 8 _ _ _ _
 rw [if_neg h6]
 by_cases h7 : d < -999999999
 ·rw [if_pos h7]; exact out 8 _ _ _ _
 rw [if_neg h7]
 by_cases h8 : d > 999999999
 ·rw [decide_eq_true h8]; exact out 8 _ _ _ _
 rw [decide_eq_false h8]
 exact inn 4 a b c d ⟨by omega, by omega⟩ ⟨by omega, by omega⟩ ⟨by omega, by omega⟩ ⟨by omega, by omega⟩
end Go.Proofs.YteighppcdpaekaaDoor.Rb
end
section
namespace Go.Proofs.YteighppcdpaekaaDoor.rpcBack
open Go.ChangeShapes Go.WideShapes Go.ChangeAt Go.RowKit Go.Proofs.YteighppcdpaekaaDoorW.PrintWords Go.Proofs.YteighppcdpaekaaDoor.P Go.Proofs.YteighppcdpaekaaDoor.laidFive
open Go.ChangeMaps (open_string shut_string)
set_option linter.unusedVariables false
set_option maxRecDepth 100000
theorem own : ownKnob Tryd.prog.godebug = none := by kernel_rfl
theorem laidOut : laidOutB Tryd.prog = true := by kernel_rfl
theorem open57 {H : Type} {enc : TypeId × Value → H} {W : World} {b0 : Nat} {v : Value} {d : DataW H} {p : List MemPlace} (hv : Value.okWide Tryd.prog W .any b0 57 v) (h : DataW.Trod enc Tryd.prog W 0 (fun _ => true) true 57 v d p) : ∃ a b : Int, v = .agg #[.int .i64 a, .int .i64 b] := by
 obtain ⟨v0, v1, y0, y1, n, rfl, rfl, rfl, h0, h1⟩ := Joins.open_agg2 Tryd.underlying57 (by kernel_rfl) (by kernel_rfl) hv h
 obtain ⟨a, ha, _⟩ := DataW.trod_int Tryd.underlying3 h0
 obtain ⟨b, hb, _⟩ := DataW.trod_int Tryd.underlying3 h1
 obtain rfl : v0 = .int .i64 a := by simpa using ha
 obtain rfl : v1 = .int .i64 b := by simpa using hb
 exact ⟨a, b, rfl⟩
theorem contract (H : Type) (enc : TypeId × Value → H) (W : World) (base : Nat) (args : Array Value) (ds gs : List (DataW H)) (before : List MemPlace)
  (hval0 : ∀ (j : Nat) t v, Tryd.f8.params[j]? = some t → args[j]? = some v → Value.okWide Tryd.prog W .any base t v)
  (hW : DataW.Whole enc Tryd.prog Tryd.f8.params.toList Rows.rpcBackSpec.vars false W args.toList ds gs before) (hL : laidMetH Tryd.prog Rows.rpcBackRow.laid W) :
  Calls Tryd.prog 8 args W fun e W' => ∃ v, e = .returned v ∧ Rows.rpcBackSpec.post enc Tryd.prog Tryd.f8 false true false false W args v W' := by
 have hval := hval0
 have hW' := hW
 obtain ⟨p, q, hA0, hV, rfl, hfz, hnd⟩ := hW
 have hA : DataW.TrodAll enc Tryd.prog W 0 (fun _ => true) true Tryd.f8.params.toList args.toList ds p := hA0
 rw [Tryd.params8] at hA hval
 obtain ⟨v0, vs0, d0, ds0, p0, q0, hargs, rfl, rfl, h0, r0⟩ := trodAll_cons hA
 obtain ⟨v1, vs1, d1, ds1, p1, q1, rfl, rfl, rfl, h1, r1⟩ := trodAll_cons r0
 obtain ⟨rfl, rfl, rfl⟩ := trodAll_nil r1
 obtain rfl : args = #[v0, v1] := by cases args; simp_all
 obtain ⟨rfl, rfl⟩ := trodVars_none hV
 have k0 := h0
 have lt0 : ∀ x ∈ p0, x.block < W.heap.size := by obtain ⟨m, hm⟩ := k0; exact DataW.trod_lt m _ _ _ hm
 have k1 := h1
 have lt1 : ∀ x ∈ p1, x.block < W.heap.size := by obtain ⟨m, hm⟩ := k1; exact DataW.trod_lt m _ _ _ hm
 obtain ⟨a0, a1, rfl⟩ := open57 (hval 0 57 v0 rfl rfl) h0
 obtain ⟨b0, b1, rfl⟩ := open57 (hval 1 57 v1 rfl rfl) h1
 have hT := tabs (W := W) hL
 clear hA0 hval0
 refine (whetstonelaw06_RpcBack.calls 9 a0 a1 b0 b1 true W (Rb.back_pure a0 a1 b0 b1) hT).mono fun e W' ⟨he, bel⟩ => ?_
 subst he
 exact ⟨_, rfl, _, _, _, [], _, [], hW', trodAll_mk1 (shut_bool Tryd.underlying4 _), (trodAll_cons_mk (Below.trod laidOut (by kernel_rfl) (of_decide_eq_true (by kernel_rfl)) k0 bel lt0) (trodAll_cons_mk (Below.trod laidOut (by kernel_rfl) (of_decide_eq_true (by kernel_rfl)) k1 bel lt1) trodAll_mk0)), rfl, bel.frame _, fun h => by cases h⟩
theorem laid_met (os : Os) : laidMet Tryd.prog Rows.rpcBackRow.laid ((laidWorld os).forCall (fun _ _ => 0) ⟨#[], #[.agg #[.int .i64 0, .int .i64 0], .agg #[.int .i64 0, .int .i64 0]], []⟩).memory :=
 laidMet_of_run' 8 (by kernel_rfl) (by kernel_rfl)
theorem reads (os : Os) {H : Type} (enc : TypeId × Value → H) : ∃ places, DataW.whole enc Tryd.prog ((laidWorld os).forCall (fun _ _ => 0) ⟨#[], #[.agg #[.int .i64 0, .int .i64 0], .agg #[.int .i64 0, .int .i64 0]], []⟩).memory Tryd.f8.params.toList Rows.rpcBackSpec.vars false (#[.agg #[.int .i64 0, .int .i64 0], .agg #[.int .i64 0, .int .i64 0]] : Array Value).toList 8 = some ([.agg [.lit (.int .i64 0), .lit (.int .i64 0)], .agg [.lit (.int .i64 0), .lit (.int .i64 0)]], [], places) :=
 ⟨[], by kernel_rfl⟩
theorem lifted (os : Os) (started : os.Started) (H : Type) (enc : TypeId × Value → H) (F : Stop.Interp) :
  ReturnsInHanded {} Tryd.checked os 8 .any ((OpenSpec.ofChange Rows.rpcBackSpec).preRow enc Tryd.prog Tryd.f8 Rows.rpcBackRow.domain false Rows.rpcBackRow.laid) (((OpenSpec.ofChange Rows.rpcBackSpec).at F).post enc Tryd.prog Tryd.f8 false true false false) := by
 obtain ⟨places, hx⟩ := reads os enc
 refine returnsInHanded_of_row (C := Tryd.checked) (s := OpenSpec.ofChange Rows.rpcBackSpec) own started (by kernel_rfl) Tryd.func8
  (witness_row_atRef (enc := enc) (C := Tryd.checked) false (laidWorld os) #[.agg #[.int .i64 0, .int .i64 0], .agg #[.int .i64 0, .int .i64 0]] rfl (by kernel_rfl) (by kernel_rfl) (by kernel_rfl)
   (OpenSpec.preRow_of_cond 8 hx (by kernel_rfl) (fun k hk => by cases hk) (by kernel_rfl) (laid_met os))) ?_
 intro W base args ds gs before hval hW _ _ _ hL _ _
 exact contract H enc W base args ds gs before hval hW hL
theorem said : Rows.RpcBackSaid :=
 OpenClaim.holds_of_cond 8 Tryd.f8 rfl rfl rfl rfl rfl rfl rfl ⟨rfl, rfl, rfl, rfl, rfl⟩ rfl rfl rfl rfl rfl (by kernel_rfl) Tryd.func8 (by kernel_rfl)
  (of_decide_eq_true (by kernel_rfl)) (by unfold Func.isWrapper; first | (rw [if_pos (by decide +kernel)]; kernel_rfl) | (rw [if_neg (by decide +kernel)]; exact ⟨rfl, rfl⟩))
  (fun os started H enc _ F => by rw [OpenClaim.pre_eq_preRow]; exact lifted os started H enc F)
theorem plain (f : FuncId) (fn : Func) (hf : Tryd.pinned.checked.prog.funcNamed "whetstone/whetstonelaw06.RpcBack" = some f) (hfn : Tryd.pinned.checked.prog.funcs[f]? = some fn) :
  true = Tryd.pinned.checked.prog.looks [] ∧ ∀ (j : Nat) t, fn.params[j]? = some t → Tryd.pinned.checked.prog.wantsStandIn t = false := by
 obtain rfl : f = 8 := Option.some.inj ((show Tryd.prog.funcNamed "whetstone/whetstonelaw06.RpcBack" = some 8 by kernel_rfl).symm.trans hf) |>.symm
 obtain rfl : fn = Tryd.f8 := (Option.some.inj (Tryd.func8.symm.trans hfn)).symm
 refine ⟨by kernel_rfl, fun j t ht => ?_⟩
 rw [Tryd.params8] at ht
 obtain rfl : t = 57 := by simpa using Array.mem_of_getElem? ht
 exact (show Tryd.prog.wantsStandIn 57 = false by kernel_rfl)
theorem card : Rows.RpcBackCardSaid :=
 Claim7.holds_tied_plain_at .later [] _ _ _ _ said (fun _ h => by cases h) (by kernel_rfl) (fun _ h => by cases h) rpcBack_row_tie rfl ⟨rfl, rfl⟩ (by kernel_rfl) rfl plain (by kernel_rfl)
end Go.Proofs.YteighppcdpaekaaDoor.rpcBack
namespace Go.Proofs.YteighppcdpaekaaDoor
theorem rpcBackCard_holds : Rows.RpcBackCardSaid := rpcBack.card
#print axioms rpcBackCard_holds
end Go.Proofs.YteighppcdpaekaaDoor
end
