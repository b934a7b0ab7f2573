/- Walks and words of this session, put together by a program of this session (pack.py). Conditions: as each text says. -/
import Derived.Test.YteighppcdpaekaaDoorProg
import Derived.Below
import Derived.Deep.Draws
import Derived.Deep.AppendLies
import Derived.Maps.AppendAt
import Derived.OwnWalk
import Derived.Laws.BytesArg
import Derived.Laws.MakeOwn
import Derived.Laws.OwnMore
import Derived.Deep.OwnRows
import Derived.Tactics
import Derived.Lib.ConvBytes
import Derived.Laws.Slices
import Derived.WalkKit
import Derived.KernelRfl
import Derived.RowKit3
import Derived.Deep.LoopGhost
import Derived.Deep.QuietTactic
import Derived.BigQuiet
import Derived.WideLaws
import Derived.Deep.DeepCutAuto
import Derived.Deep.CutBlock
import Derived.Deep.RegionHeld3
import Derived.Laws.Rows
import Derived.Lib.AppendStr
import Derived.ArgAppend
import Derived.Laws.IdiomCopy
import Derived.OrdersHeld
import Derived.Laws.BitsLemmas
import Derived.RowKit
import Derived.Laws.StructEq
import Derived.Lib.SmallJoins
import Derived.Deep.Slices
import Derived.SliceStrings
import Derived.ChangeArms
import Derived.Shelf.Strconv.Atoi
import Derived.Shelf.Strconv.Itoa0
import Derived.Shelf.Strconv.Itoa1
import Derived.Shelf.LaysM
import Derived.Shelf.Strconv.Itoa2
import Derived.Shelf.Strconv.Itoa3
import Derived.Shelf.Strconv.AtoiErrFast
import Derived.Shelf.Strconv.ParseIntEmpty
import Derived.Shelf.Strconv.AtoiFail
import Derived.Shelf.Strconv.Clone
import Derived.Shelf.Strconv.SyntaxError
import Derived.Shelf.LaysC
import Derived.Shelf.Strconv.ToError
import Derived.Shelf.Strconv.Lower
import Derived.Shelf.Strconv.ParseUint10
import Derived.Shelf.Strconv.ParseUint10Empty
import Derived.Shelf.Strconv.ParseUint10Any
import Derived.Shelf.Strconv.ParseInt10
import Derived.Shelf.Strconv.AtoiLong
import Derived.Shelf.Strconv.AtoiInnerAll
import Derived.Shelf.Strconv.RangeError
import Derived.Shelf.Strconv.ToErrorRange
import Derived.Shelf.Strconv.AtoiAll
import Derived.Shelf.Strconv.ErrVarAll
import Derived.Shelf.Strconv.ParseUintEmpty
import Derived.Shelf.Strconv.ParseUint10b64
import Derived.Shelf.Strconv.ParseUint10b32
import Derived.Shelf.Strconv.ParseUint10b16
import Derived.Shelf.Strconv.ParseUint10b8
import Derived.Lib.Hide
import Derived.Test.YteighppcdpaekaaDoorCards
import Derived.Test.YteighppcdpaekaaDoorTie
import Derived.ProofKit
import Derived.OpenShut
import Derived.ChangeMaps5
import Derived.JoinedCond
import Derived.ChangeOld
import Derived.LaidLaws
import Derived.MakeChecks
import Derived.Deep.DeepHandedRow
import Derived.Deep.DeepWitnessRowRef
import Derived.Stop.LaidErr
import Derived.Lib.LaidTab
import Derived.Test.YteighppcdpaekaaDoorS0
import Derived.Test.YteighppcdpaekaaDoorS1
set_option linter.unusedVariables false
set_option linter.unusedSimpArgs false
section
namespace Go.Proofs.YteighppcdpaekaaDoor.P
open Go.RowKit Go.Proofs.YteighppcdpaekaaDoorW.PrintWords Go.Proofs.YteighppcdpaekaaDoorW.PrintLast Go.Proofs.YteighppcdpaekaaDoorW.PrintMore
attribute [local go_sem] max2_int min2_int max_two min_two max_three min_three max_four min_four
set_option linter.unusedVariables false
set_option linter.unusedSimpArgs false
def errW : Option Int → Value
 | none => .nilIface
 | some c => .iface 0 (.int .i64 c)
theorem errW_none : errW none = .nilIface := rfl
theorem errW_some (c : Int) : errW (some c) = .iface 0 (.int .i64 c) := rfl
theorem info5 : (Tryd.prog.info? 5).map (fun i => (i.zero, i.size, i.bytes)) = some (some (.int .u8 0), 1, 1) := by kernel_rfl
theorem info44 : (Tryd.prog.info? 44).map (fun i => (i.zero, i.size, i.bytes)) = some (some (.agg #[(.int .i64 0), (.string ⟨#[]⟩), (.slice none 0 0), (.slice none 0 0)]), 4, 72) := by kernel_rfl
theorem info123 : (Tryd.prog.info? 123).map (fun i => (i.zero, i.size, i.bytes)) = some (some (.agg #[(.int .i64 0), (.int .i64 0), (.int .i64 0)]), 3, 24) := by kernel_rfl
structure S27 where
 f0 : Int
 f1 : ByteArray
 f2 : (List ByteArray)
 f3 : (List S27)
def z27 : S27 := ⟨(0 : Int), (⟨#[]⟩ : ByteArray), ([] : List ByteArray), ([] : List S27)⟩
def F27 (d : Kd S27) : Kd S27 := Kd.iso (Kd.pair (Kd.int .i64) (Kd.pair Kd.string (Kd.pair (Kd.slice 9 Kd.string) (Kd.slice 27 d)))) (fun x : S27 => (x.f0, x.f1, x.f2, x.f3))
theorem mono27 : Kd.Mono F27 := Kd.mono_iso _ (Kd.mono_pair (Kd.mono_const _) (Kd.mono_pair (Kd.mono_const _) (Kd.mono_pair (Kd.mono_const _) (Kd.mono_slice 27 Kd.mono_id))))
theorem sub27 : Kd.Sub F27 [9, 27] := Kd.sub_iso _ (Kd.sub_pair (Kd.sub_const _ (by decide)) (Kd.sub_pair (Kd.sub_const _ (by decide)) (Kd.sub_pair (Kd.sub_const _ (by decide)) (Kd.sub_slice 27 (by decide) Kd.sub_id))))
theorem sz27 : ∀ n, (Kd.upto F27 4 [9, 27] n).sz = 4 := Kd.upto_sz (fun _ => rfl)
def k27 : Kd S27 := Kd.fix F27 4 [9, 27] sz27 (Kd.upto_E sub27)
theorem k27_open {w : World} {x : S27} {cs : List Value} (h : k27.K w x cs) : ∃ A2 c2 A3 c3, cs = [.int .i64 x.f0, .string x.f1, .slice A2 x.f2.length c2, .slice A3 x.f3.length c3] ∧ x.f2.length ≤ c2 ∧ Kd.string.C w A2 x.f2.length x.f2 ∧ x.f3.length ≤ c3 ∧ k27.C w A3 x.f3.length x.f3 := by
 obtain ⟨n, h⟩ := h
 cases n with
 | zero => exact h.elim
 | succ n =>
  obtain ⟨_, _, rfl, rfl, ⟨_, _, rfl, rfl, ⟨_, _, rfl, ⟨A2, c2, rfl, l2, g2⟩, ⟨A3, c3, rfl, l3, g3⟩⟩⟩⟩ := h;exact ⟨A2, c2, A3, c3, rfl, l2, g2, l3, Kd.fix_C g3⟩
theorem k27_openM {w : World} {base : Nat} {ok : Nat → Prop} {x : S27} {cs : List Value} (h : k27.M w base ok x cs) : ∃ v2 v3, cs = [.int .i64 x.f0, .string x.f1, v2, v3] ∧ Kd.string.R 9 w base ok v2 x.f2 ∧ k27.R 27 w base ok v3 x.f3 := by
 obtain ⟨n, h⟩ := h
 cases n with
 | zero => exact h.elim
 | succ n =>
  obtain ⟨_, _, rfl, rfl, ⟨_, _, rfl, rfl, ⟨_, _, rfl, ⟨v2, rfl, g2⟩, ⟨v3, rfl, g3⟩⟩⟩⟩ := h;exact ⟨v2, v3, rfl, g2, Kd.fix_R g3⟩
theorem k27_mk (w : World) (x : S27) {A2 : Option Addr} {c2 : Nat} (l2 : x.f2.length ≤ c2) (g2 : Kd.string.C w A2 x.f2.length x.f2) {A3 : Option Addr} {c3 : Nat} (l3 : x.f3.length ≤ c3) (g3 : k27.C w A3 x.f3.length x.f3) : k27.K w x [.int .i64 x.f0, .string x.f1, .slice A2 x.f2.length c2, .slice A3 x.f3.length c3] := by
 obtain ⟨n3, q3⟩ := Kd.fix_C_back mono27 g3;have r3 := Kd.upto_C_le mono27 sz27 (show n3 ≤ n3 by omega) q3;exact ⟨n3 + 1, ⟨[.int .i64 x.f0], [.string x.f1, .slice A2 x.f2.length c2, .slice A3 x.f3.length c3], rfl, rfl, ⟨[.string x.f1], [.slice A2 x.f2.length c2, .slice A3 x.f3.length c3], rfl, rfl, ⟨[.slice A2 x.f2.length c2], [.slice A3 x.f3.length c3], rfl, ⟨A2, c2, rfl, l2, g2⟩, ⟨A3, c3, rfl, l3, r3⟩⟩⟩⟩⟩
theorem k27_mkM (w : World) (base : Nat) (ok : Nat → Prop) (x : S27) {v2 : Value} (g2 : Kd.string.R 9 w base ok v2 x.f2) {v3 : Value} (g3 : k27.R 27 w base ok v3 x.f3) : k27.M w base ok x [.int .i64 x.f0, .string x.f1, v2, v3] := by
 obtain ⟨n3, q3⟩ := Kd.fix_R_back mono27 g3;have r3 := Kd.upto_R_le mono27 sz27 (show n3 ≤ n3 by omega) q3;exact ⟨n3 + 1, ⟨[.int .i64 x.f0], [.string x.f1, v2, v3], rfl, rfl, ⟨[.string x.f1], [v2, v3], rfl, rfl, ⟨[v2], [v3], rfl, ⟨v2, rfl, g2⟩, ⟨v3, rfl, r3⟩⟩⟩⟩⟩
theorem k27_openF {W : World} {ok : Nat → Prop} {x : S27} {cs : List Value} (h : Kd.FK k27 W ok x cs) : ∃ A2 c2 A3 c3, cs = [.int .i64 x.f0, .string x.f1, .slice A2 x.f2.length c2, .slice A3 x.f3.length c3] ∧ x.f2.length ≤ c2 ∧ Kd.F Kd.string W ok A2 x.f2.length x.f2 ∧ x.f3.length ≤ c3 ∧ Kd.F k27 W ok A3 x.f3.length x.f3 := by
 obtain ⟨A2, c2, A3, c3, rfl, l2, _, l3, _⟩ := k27_open (Kd.FK_now h);exact ⟨A2, c2, A3, c3, rfl, l2, (fun W' hW => by obtain ⟨A2_, c2_, A3_, c3_, he, l2_, g2_, l3_, g3_⟩ := k27_open (h W' hW); injection (Option.some.inj (show some (Value.slice A2 x.f2.length c2) = some (Value.slice A2_ x.f2.length c2_) from congrArg (fun l => l[2]?) he)) with ha_ _ _; rw [ha_]; exact g2_), l3, (fun W' hW => by obtain ⟨A2_, c2_, A3_, c3_, he, l2_, g2_, l3_, g3_⟩ := k27_open (h W' hW); injection (Option.some.inj (show some (Value.slice A3 x.f3.length c3) = some (Value.slice A3_ x.f3.length c3_) from congrArg (fun l => l[3]?) he)) with ha_ _ _; rw [ha_]; exact g3_)⟩
theorem k27_mkF (W : World) (ok : Nat → Prop) (x : S27) {A2 : Option Addr} {c2 : Nat} (l2 : x.f2.length ≤ c2) (g2 : Kd.F Kd.string W ok A2 x.f2.length x.f2) {A3 : Option Addr} {c3 : Nat} (l3 : x.f3.length ≤ c3) (g3 : Kd.F k27 W ok A3 x.f3.length x.f3) : Kd.FK k27 W ok x [.int .i64 x.f0, .string x.f1, .slice A2 x.f2.length c2, .slice A3 x.f3.length c3] := fun W2 hW => k27_mk W2 x l2 (g2 W2 hW) l3 (g3 W2 hW)
def rd_T27 (xs : List S27) (i : Int) : S27 := xs.getD i.toNat z27
theorem at_T27 {w : World} {A : Option Addr} {n : Nat} {xs : List S27} (h : Kd.C k27 w A n xs) (i : Int) (h0 : 0 ≤ i) (h1 : i < n) : ∃ ad A2 c2 A3 c3, A = some ad ∧ w.cell? (ad.add (i.toNat * 4)) = some (.int .i64 (rd_T27 xs i).f0) ∧ w.cell? ⟨(ad.add (i.toNat * 4)).block, (ad.add (i.toNat * 4)).off + 1, none⟩ = some (.string (rd_T27 xs i).f1) ∧ w.cell? ⟨(ad.add (i.toNat * 4)).block, (ad.add (i.toNat * 4)).off + 2, none⟩ = some (.slice A2 (rd_T27 xs i).f2.length c2) ∧ w.cell? ⟨(ad.add (i.toNat * 4)).block, (ad.add (i.toNat * 4)).off + 3, none⟩ = some (.slice A3 (rd_T27 xs i).f3.length c3) ∧ (rd_T27 xs i).f2.length ≤ c2 ∧ Kd.string.C w A2 (rd_T27 xs i).f2.length (rd_T27 xs i).f2 ∧ (rd_T27 xs i).f3.length ≤ c3 ∧ k27.C w A3 (rd_T27 xs i).f3.length (rd_T27 xs i).f3 := by
 obtain ⟨ad, c, e, _, hK, hc0⟩ := Kd.C_get h z27 i h0 h1;have hc : ∀ j u, c[j]? = some u → w.cell? (ad.add (i.toNat * 4 + j)) = some u := hc0;obtain ⟨A2, c2, A3, c3, rfl, l2, g2, l3, g3⟩ := k27_open hK;exact ⟨ad, A2, c2, A3, c3, e, hc 0 _ rfl, by rw [← add_field _ _ 1 (by omega)]; exact hc 1 _ rfl, by rw [← add_field _ _ 2 (by omega)]; exact hc 2 _ rfl, by rw [← add_field _ _ 3 (by omega)]; exact hc 3 _ rfl, l2, g2, l3, g3⟩
structure S30 where
 f0 : ByteArray
 f1 : S27
def k30 : Kd S30 := Kd.iso (Kd.pair Kd.string k27) (fun x : S30 => (x.f0, x.f1))
theorem k30_mk (w : World) (x : S30) {A3 : Option Addr} {c3 : Nat} (l3 : x.f1.f2.length ≤ c3) (g3 : Kd.string.C w A3 x.f1.f2.length x.f1.f2) {A4 : Option Addr} {c4 : Nat} (l4 : x.f1.f3.length ≤ c4) (g4 : k27.C w A4 x.f1.f3.length x.f1.f3) : k30.K w x [.string x.f0, .int .i64 x.f1.f0, .string x.f1.f1, .slice A3 x.f1.f2.length c3, .slice A4 x.f1.f3.length c4] := ⟨[.string x.f0], [.int .i64 x.f1.f0, .string x.f1.f1, .slice A3 x.f1.f2.length c3, .slice A4 x.f1.f3.length c4], rfl, rfl, (k27_mk w x.f1 l3 g3 l4 g4)⟩
theorem k30_mkF (W : World) (ok : Nat → Prop) (x : S30) {A3 : Option Addr} {c3 : Nat} (l3 : x.f1.f2.length ≤ c3) (g3 : Kd.F Kd.string W ok A3 x.f1.f2.length x.f1.f2) {A4 : Option Addr} {c4 : Nat} (l4 : x.f1.f3.length ≤ c4) (g4 : Kd.F k27 W ok A4 x.f1.f3.length x.f1.f3) : Kd.FK k30 W ok x [.string x.f0, .int .i64 x.f1.f0, .string x.f1.f1, .slice A3 x.f1.f2.length c3, .slice A4 x.f1.f3.length c4] := fun W2 hW => k30_mk W2 x l3 (g3 W2 hW) l4 (g4 W2 hW)
structure S44 where
 f0 : Int
 f1 : ByteArray
 f2 : (List ByteArray)
 f3 : (List S44)
def z44 : S44 := ⟨(0 : Int), (⟨#[]⟩ : ByteArray), ([] : List ByteArray), ([] : List S44)⟩
def F44 (d : Kd S44) : Kd S44 := Kd.iso (Kd.pair (Kd.int .i64) (Kd.pair Kd.string (Kd.pair (Kd.slice 9 Kd.string) (Kd.slice 44 d)))) (fun x : S44 => (x.f0, x.f1, x.f2, x.f3))
theorem mono44 : Kd.Mono F44 := Kd.mono_iso _ (Kd.mono_pair (Kd.mono_const _) (Kd.mono_pair (Kd.mono_const _) (Kd.mono_pair (Kd.mono_const _) (Kd.mono_slice 44 Kd.mono_id))))
theorem sub44 : Kd.Sub F44 [9, 44] := Kd.sub_iso _ (Kd.sub_pair (Kd.sub_const _ (by decide)) (Kd.sub_pair (Kd.sub_const _ (by decide)) (Kd.sub_pair (Kd.sub_const _ (by decide)) (Kd.sub_slice 44 (by decide) Kd.sub_id))))
theorem sz44 : ∀ n, (Kd.upto F44 4 [9, 44] n).sz = 4 := Kd.upto_sz (fun _ => rfl)
def k44 : Kd S44 := Kd.fix F44 4 [9, 44] sz44 (Kd.upto_E sub44)
theorem k44_open {w : World} {x : S44} {cs : List Value} (h : k44.K w x cs) : ∃ A2 c2 A3 c3, cs = [.int .i64 x.f0, .string x.f1, .slice A2 x.f2.length c2, .slice A3 x.f3.length c3] ∧ x.f2.length ≤ c2 ∧ Kd.string.C w A2 x.f2.length x.f2 ∧ x.f3.length ≤ c3 ∧ k44.C w A3 x.f3.length x.f3 := by
 obtain ⟨n, h⟩ := h
 cases n with
 | zero => exact h.elim
 | succ n =>
  obtain ⟨_, _, rfl, rfl, ⟨_, _, rfl, rfl, ⟨_, _, rfl, ⟨A2, c2, rfl, l2, g2⟩, ⟨A3, c3, rfl, l3, g3⟩⟩⟩⟩ := h;exact ⟨A2, c2, A3, c3, rfl, l2, g2, l3, Kd.fix_C g3⟩
theorem k44_mk (w : World) (x : S44) {A2 : Option Addr} {c2 : Nat} (l2 : x.f2.length ≤ c2) (g2 : Kd.string.C w A2 x.f2.length x.f2) {A3 : Option Addr} {c3 : Nat} (l3 : x.f3.length ≤ c3) (g3 : k44.C w A3 x.f3.length x.f3) : k44.K w x [.int .i64 x.f0, .string x.f1, .slice A2 x.f2.length c2, .slice A3 x.f3.length c3] := by
 obtain ⟨n3, q3⟩ := Kd.fix_C_back mono44 g3;have r3 := Kd.upto_C_le mono44 sz44 (show n3 ≤ n3 by omega) q3;exact ⟨n3 + 1, ⟨[.int .i64 x.f0], [.string x.f1, .slice A2 x.f2.length c2, .slice A3 x.f3.length c3], rfl, rfl, ⟨[.string x.f1], [.slice A2 x.f2.length c2, .slice A3 x.f3.length c3], rfl, rfl, ⟨[.slice A2 x.f2.length c2], [.slice A3 x.f3.length c3], rfl, ⟨A2, c2, rfl, l2, g2⟩, ⟨A3, c3, rfl, l3, r3⟩⟩⟩⟩⟩
theorem k44_mkM (w : World) (base : Nat) (ok : Nat → Prop) (x : S44) {v2 : Value} (g2 : Kd.string.R 9 w base ok v2 x.f2) {v3 : Value} (g3 : k44.R 44 w base ok v3 x.f3) : k44.M w base ok x [.int .i64 x.f0, .string x.f1, v2, v3] := by
 obtain ⟨n3, q3⟩ := Kd.fix_R_back mono44 g3;have r3 := Kd.upto_R_le mono44 sz44 (show n3 ≤ n3 by omega) q3;exact ⟨n3 + 1, ⟨[.int .i64 x.f0], [.string x.f1, v2, v3], rfl, rfl, ⟨[.string x.f1], [v2, v3], rfl, rfl, ⟨[v2], [v3], rfl, ⟨v2, rfl, g2⟩, ⟨v3, rfl, r3⟩⟩⟩⟩⟩
theorem k44_openF {W : World} {ok : Nat → Prop} {x : S44} {cs : List Value} (h : Kd.FK k44 W ok x cs) : ∃ A2 c2 A3 c3, cs = [.int .i64 x.f0, .string x.f1, .slice A2 x.f2.length c2, .slice A3 x.f3.length c3] ∧ x.f2.length ≤ c2 ∧ Kd.F Kd.string W ok A2 x.f2.length x.f2 ∧ x.f3.length ≤ c3 ∧ Kd.F k44 W ok A3 x.f3.length x.f3 := by
 obtain ⟨A2, c2, A3, c3, rfl, l2, _, l3, _⟩ := k44_open (Kd.FK_now h);exact ⟨A2, c2, A3, c3, rfl, l2, (fun W' hW => by obtain ⟨A2_, c2_, A3_, c3_, he, l2_, g2_, l3_, g3_⟩ := k44_open (h W' hW); injection (Option.some.inj (show some (Value.slice A2 x.f2.length c2) = some (Value.slice A2_ x.f2.length c2_) from congrArg (fun l => l[2]?) he)) with ha_ _ _; rw [ha_]; exact g2_), l3, (fun W' hW => by obtain ⟨A2_, c2_, A3_, c3_, he, l2_, g2_, l3_, g3_⟩ := k44_open (h W' hW); injection (Option.some.inj (show some (Value.slice A3 x.f3.length c3) = some (Value.slice A3_ x.f3.length c3_) from congrArg (fun l => l[3]?) he)) with ha_ _ _; rw [ha_]; exact g3_)⟩
theorem k44_mkF (W : World) (ok : Nat → Prop) (x : S44) {A2 : Option Addr} {c2 : Nat} (l2 : x.f2.length ≤ c2) (g2 : Kd.F Kd.string W ok A2 x.f2.length x.f2) {A3 : Option Addr} {c3 : Nat} (l3 : x.f3.length ≤ c3) (g3 : Kd.F k44 W ok A3 x.f3.length x.f3) : Kd.FK k44 W ok x [.int .i64 x.f0, .string x.f1, .slice A2 x.f2.length c2, .slice A3 x.f3.length c3] := fun W2 hW => k44_mk W2 x l2 (g2 W2 hW) l3 (g3 W2 hW)
def rd_T44 (xs : List S44) (i : Int) : S44 := xs.getD i.toNat z44
theorem at_T44 {w : World} {A : Option Addr} {n : Nat} {xs : List S44} (h : Kd.C k44 w A n xs) (i : Int) (h0 : 0 ≤ i) (h1 : i < n) : ∃ ad A2 c2 A3 c3, A = some ad ∧ w.cell? (ad.add (i.toNat * 4)) = some (.int .i64 (rd_T44 xs i).f0) ∧ w.cell? ⟨(ad.add (i.toNat * 4)).block, (ad.add (i.toNat * 4)).off + 1, none⟩ = some (.string (rd_T44 xs i).f1) ∧ w.cell? ⟨(ad.add (i.toNat * 4)).block, (ad.add (i.toNat * 4)).off + 2, none⟩ = some (.slice A2 (rd_T44 xs i).f2.length c2) ∧ w.cell? ⟨(ad.add (i.toNat * 4)).block, (ad.add (i.toNat * 4)).off + 3, none⟩ = some (.slice A3 (rd_T44 xs i).f3.length c3) ∧ (rd_T44 xs i).f2.length ≤ c2 ∧ Kd.string.C w A2 (rd_T44 xs i).f2.length (rd_T44 xs i).f2 ∧ (rd_T44 xs i).f3.length ≤ c3 ∧ k44.C w A3 (rd_T44 xs i).f3.length (rd_T44 xs i).f3 := by
 obtain ⟨ad, c, e, _, hK, hc0⟩ := Kd.C_get h z44 i h0 h1;have hc : ∀ j u, c[j]? = some u → w.cell? (ad.add (i.toNat * 4 + j)) = some u := hc0;obtain ⟨A2, c2, A3, c3, rfl, l2, g2, l3, g3⟩ := k44_open hK;exact ⟨ad, A2, c2, A3, c3, e, hc 0 _ rfl, by rw [← add_field _ _ 1 (by omega)]; exact hc 1 _ rfl, by rw [← add_field _ _ 2 (by omega)]; exact hc 2 _ rfl, by rw [← add_field _ _ 3 (by omega)]; exact hc 3 _ rfl, l2, g2, l3, g3⟩
structure S37 where
 f0 : Bool
 f1 : S27
 f2 : ByteArray
 f3 : S27
def z37 : S37 := ⟨false, z27, (⟨#[]⟩ : ByteArray), z27⟩
structure S123 where
 f0 : Int
 f1 : Int
 f2 : Int
def z123 : S123 := ⟨(0 : Int), (0 : Int), (0 : Int)⟩
def k123 : Kd S123 := Kd.iso (Kd.pair (Kd.int .i64) (Kd.pair (Kd.int .i64) (Kd.int .i64))) (fun x : S123 => (x.f0, x.f1, x.f2))
theorem k123_open {w : World} {x : S123} {cs : List Value} (h : k123.K w x cs) : cs = [.int .i64 x.f0, .int .i64 x.f1, .int .i64 x.f2] := by
 obtain ⟨_, _, rfl, rfl, ⟨_, _, rfl, rfl, rfl⟩⟩ := h;exact rfl
theorem k123_mkM (w : World) (base : Nat) (ok : Nat → Prop) (x : S123)  : k123.M w base ok x [.int .i64 x.f0, .int .i64 x.f1, .int .i64 x.f2] := ⟨[.int .i64 x.f0], [.int .i64 x.f1, .int .i64 x.f2], rfl, rfl, ⟨[.int .i64 x.f1], [.int .i64 x.f2], rfl, rfl, rfl⟩⟩
def rd_T123 (xs : List S123) (i : Int) : S123 := xs.getD i.toNat z123
theorem at_T123 {w : World} {A : Option Addr} {n : Nat} {xs : List S123} (h : Kd.C k123 w A n xs) (i : Int) (h0 : 0 ≤ i) (h1 : i < n) : ∃ ad , A = some ad ∧ w.cell? (ad.add (i.toNat * 3)) = some (.int .i64 (rd_T123 xs i).f0) ∧ w.cell? ⟨(ad.add (i.toNat * 3)).block, (ad.add (i.toNat * 3)).off + 1, none⟩ = some (.int .i64 (rd_T123 xs i).f1) ∧ w.cell? ⟨(ad.add (i.toNat * 3)).block, (ad.add (i.toNat * 3)).off + 2, none⟩ = some (.int .i64 (rd_T123 xs i).f2) := by
 obtain ⟨ad, c, e, _, hK, hc0⟩ := Kd.C_get h z123 i h0 h1;have hc : ∀ j u, c[j]? = some u → w.cell? (ad.add (i.toNat * 3 + j)) = some u := hc0;obtain rfl := k123_open hK;exact ⟨ad, e, hc 0 _ rfl, by rw [← add_field _ _ 1 (by omega)]; exact hc 1 _ rfl, by rw [← add_field _ _ 2 (by omega)]; exact hc 2 _ rfl⟩
structure S46 where
 f0 : Bool
 f1 : S44
 f2 : ByteArray
 f3 : S44
def z46 : S46 := ⟨false, z44, (⟨#[]⟩ : ByteArray), z44⟩
structure S48 where
 f0 : Int
 f1 : S44
def z48 : S48 := ⟨(0 : Int), z44⟩
end Go.Proofs.YteighppcdpaekaaDoor.P
end
section
namespace Go.Proofs.YteighppcdpaekaaDoor.P
open Go.RowKit Go.Proofs.YteighppcdpaekaaDoorW.PrintWords
open Go.ChangeShapes Go.WideShapes
set_option maxRecDepth 100000
instance : Inhabited S27 := ⟨z27⟩
section
variable {H : Type} {enc : TypeId × Value → H} {W : World} {sp : Nat → Bool} {held : Bool}
end
end Go.Proofs.YteighppcdpaekaaDoor.P
end
section
namespace Go.Proofs.YteighppcdpaekaaDoor
open Go.Shelf Go.RowKit Go.Sort Go.Lib
def Tryd.laysM171_ren : Go.Shelf.Ren := ⟨fun | 171 => 41 | 243 => 62 | 246 => 84 | 283 => 102 | 284 => 103 | 285 => 104 | 286 => 105 | 129 => 114 | 317 => 113 | 318 => 115 | 319 => 116 | 320 => 117 | 337 => 122 | 338 => 123 | n => n, fun | 3 => 3 | 9 => 9 | 2 => 2 | 4 => 4 | 171 => 149 | 0 => 0 | 53 => 150 | 37 => 35 | 5 => 5 | 173 => 153 | 212 => 166 | 51 => 167 | 20 => 20 | 213 => 168 | 46 => 146 | 232 => 178 | 233 => 179 | n => n, fun | 17 => 2 | 18 => 3 | 19 => 4 | n => n⟩
theorem Tryd.laysM171 : Go.Proofs.LaysM.n171 Tryd.prog Tryd.laysM171_ren := {
 mixed := by kernel_rfl
 f129 := Tryd.func114.trans (congrArg some (by kernel_rfl))
 f171 := Tryd.func41.trans (congrArg some (by kernel_rfl))
 f243 := Tryd.func62.trans (congrArg some (by kernel_rfl))
 f246 := Tryd.func84.trans (congrArg some (by kernel_rfl))
 f283 := Tryd.func102.trans (congrArg some (by kernel_rfl))
 f284 := Tryd.func103.trans (congrArg some (by kernel_rfl))
 f285 := Tryd.func104.trans (congrArg some (by kernel_rfl))
 f286 := Tryd.func105.trans (congrArg some (by kernel_rfl))
 f317 := Tryd.func113.trans (congrArg some (by kernel_rfl))
 f318 := Tryd.func115.trans (congrArg some (by kernel_rfl))
 f319 := Tryd.func116.trans (congrArg some (by kernel_rfl))
 f320 := Tryd.func117.trans (congrArg some (by kernel_rfl))
 f337 := Tryd.func122.trans (congrArg some (by kernel_rfl))
 f338 := Tryd.func123.trans (congrArg some (by kernel_rfl))
 t0 := Tryd.underlying0
 a0 := Tryd.isAgg0
 z0 := Tryd.sizeOf0
 v0 := Tryd.zeroValue0
 t2 := Tryd.underlying2
 a2 := Tryd.isAgg2
 z2 := Tryd.sizeOf2
 v2 := Tryd.zeroValue2
 t3 := Tryd.underlying3
 a3 := Tryd.isAgg3
 z3 := Tryd.sizeOf3
 v3 := Tryd.zeroValue3
 t4 := Tryd.underlying4
 a4 := Tryd.isAgg4
 z4 := Tryd.sizeOf4
 v4 := Tryd.zeroValue4
 t5 := Tryd.underlying5
 a5 := Tryd.isAgg5
 z5 := Tryd.sizeOf5
 v5 := Tryd.zeroValue5
 t9 := Tryd.underlying9
 a9 := Tryd.isAgg9
 z9 := Tryd.sizeOf9
 v9 := Tryd.zeroValue9
 t20 := Tryd.underlying20
 a20 := Tryd.isAgg20
 z20 := Tryd.sizeOf20
 v20 := Tryd.zeroValue20
 t37 := Tryd.underlying35
 a37 := Tryd.isAgg35
 z37 := Tryd.sizeOf35
 v37 := Tryd.zeroValue35
 t46 := Tryd.underlying146
 a46 := Tryd.isAgg146
 z46 := Tryd.sizeOf146
 v46 := Tryd.zeroValue146
 t51 := Tryd.underlying167
 a51 := Tryd.isAgg167
 z51 := Tryd.sizeOf167
 v51 := Tryd.zeroValue167
 t53 := Tryd.underlying150
 a53 := Tryd.isAgg150
 z53 := Tryd.sizeOf150
 v53 := Tryd.zeroValue150
 t171 := Tryd.underlying149
 a171 := Tryd.isAgg149
 z171 := Tryd.sizeOf149
 v171 := Tryd.zeroValue149
 t173 := Tryd.underlying153
 a173 := Tryd.isAgg153
 z173 := Tryd.sizeOf153
 v173 := Tryd.zeroValue153
 t212 := Tryd.underlying166
 a212 := Tryd.isAgg166
 z212 := Tryd.sizeOf166
 v212 := Tryd.zeroValue166
 t213 := Tryd.underlying168
 a213 := Tryd.isAgg168
 z213 := Tryd.sizeOf168
 t232 := Tryd.underlying178
 a232 := Tryd.isAgg178
 z232 := Tryd.sizeOf178
 v232 := Tryd.zeroValue178
 t233 := Tryd.underlying179
 a233 := Tryd.isAgg179
 z233 := Tryd.sizeOf179
 v233 := Tryd.zeroValue179
 g17 := by kernel_rfl
 g18 := by kernel_rfl
 g19 := by kernel_rfl
 i0 := by kernel_rfl
 i2 := by kernel_rfl
 i3 := by kernel_rfl
 i4 := by kernel_rfl
 i5 := by kernel_rfl
 i9 := by kernel_rfl
 i20 := by kernel_rfl
 i37 := by kernel_rfl
 i46 := by kernel_rfl
 i51 := by kernel_rfl
 i53 := by kernel_rfl
 i171 := by kernel_rfl
 i173 := by kernel_rfl
 i212 := by kernel_rfl
 i232 := by kernel_rfl
 i233 := by kernel_rfl
 m17 := by kernel_rfl
 m18 := by kernel_rfl
 m19 := by kernel_rfl }
theorem Tryd.strconv_Itoa (n : Int) (h0 : -9223372036854775808 ≤ n) (h1 : n ≤ 9223372036854775807) (w : World) (htab : Lib.TabIs Tryd.prog w "internal/strconv.uint64pow10" .u64 Lib.pow10Tab) :
  Calls Tryd.prog 41 #[.int .i64 n] w fun e w' => e = .returned (.string ⟨(Lib.itoa n).toArray⟩) ∧ ∃ k os, w' = grow (w.drewN k) os := Any.strconv_Itoa Tryd.laysM171 n h0 h1 w htab
def Tryd.laysC172_ren : Go.Shelf.Ren := ⟨fun | 172 => 49 | 244 => 71 | 245 => 72 | 247 => 91 | 279 => 92 | 280 => 93 | 281 => 94 | 282 => 95 | 287 => 109 | 316 => 110 | 171 => 41 | 205 => 111 | 321 => 118 | 322 => 119 | 243 => 62 | 246 => 84 | 283 => 102 | 284 => 103 | 285 => 104 | 286 => 105 | 129 => 114 | 317 => 113 | 318 => 115 | 319 => 116 | 320 => 117 | 337 => 122 | 338 => 123 | n => n, fun | 9 => 9 | 3 => 3 | 75 => 102 | 76 => 103 | 4 => 4 | 5 => 5 | 167 => 139 | 37 => 35 | 0 => 0 | 85 => 140 | 2 => 2 | 168 => 142 | 53 => 150 | 175 => 158 | 46 => 146 | 210 => 162 | 127 => 171 | 145 => 174 | 143 => 172 | 21 => 21 | 171 => 149 | 173 => 153 | 212 => 166 | 51 => 167 | 20 => 20 | 213 => 168 | 232 => 178 | 233 => 179 | 80 => 125 | n => n, fun | 15 => 0 | 16 => 1 | 17 => 2 | 18 => 3 | 19 => 4 | n => n⟩
theorem Tryd.laysC172 : Go.Proofs.LaysC.n172 Tryd.prog Tryd.laysC172_ren := {
 mixed := by kernel_rfl
 f129 := Tryd.func114.trans (congrArg some (by kernel_rfl))
 f171 := Tryd.func41.trans (congrArg some (by kernel_rfl))
 f172 := Tryd.func49.trans (congrArg some (by kernel_rfl))
 f205 := Tryd.func111.trans (congrArg some (by kernel_rfl))
 f243 := Tryd.func62.trans (congrArg some (by kernel_rfl))
 f244 := Tryd.func71.trans (congrArg some (by kernel_rfl))
 f245 := Tryd.func72.trans (congrArg some (by kernel_rfl))
 f246 := Tryd.func84.trans (congrArg some (by kernel_rfl))
 f247 := Tryd.func91.trans (congrArg some (by kernel_rfl))
 f279 := Tryd.func92.trans (congrArg some (by kernel_rfl))
 f280 := Tryd.func93.trans (congrArg some (by kernel_rfl))
 f281 := Tryd.func94.trans (congrArg some (by kernel_rfl))
 f282 := Tryd.func95.trans (congrArg some (by kernel_rfl))
 f283 := Tryd.func102.trans (congrArg some (by kernel_rfl))
 f284 := Tryd.func103.trans (congrArg some (by kernel_rfl))
 f285 := Tryd.func104.trans (congrArg some (by kernel_rfl))
 f286 := Tryd.func105.trans (congrArg some (by kernel_rfl))
 f287 := Tryd.func109.trans (congrArg some (by kernel_rfl))
 f316 := Tryd.func110.trans (congrArg some (by kernel_rfl))
 f317 := Tryd.func113.trans (congrArg some (by kernel_rfl))
 f318 := Tryd.func115.trans (congrArg some (by kernel_rfl))
 f319 := Tryd.func116.trans (congrArg some (by kernel_rfl))
 f320 := Tryd.func117.trans (congrArg some (by kernel_rfl))
 f321 := Tryd.func118.trans (congrArg some (by kernel_rfl))
 f322 := Tryd.func119.trans (congrArg some (by kernel_rfl))
 f337 := Tryd.func122.trans (congrArg some (by kernel_rfl))
 f338 := Tryd.func123.trans (congrArg some (by kernel_rfl))
 t0 := Tryd.underlying0
 a0 := Tryd.isAgg0
 z0 := Tryd.sizeOf0
 v0 := Tryd.zeroValue0
 t2 := Tryd.underlying2
 a2 := Tryd.isAgg2
 z2 := Tryd.sizeOf2
 v2 := Tryd.zeroValue2
 t3 := Tryd.underlying3
 a3 := Tryd.isAgg3
 z3 := Tryd.sizeOf3
 v3 := Tryd.zeroValue3
 t4 := Tryd.underlying4
 a4 := Tryd.isAgg4
 z4 := Tryd.sizeOf4
 v4 := Tryd.zeroValue4
 t5 := Tryd.underlying5
 a5 := Tryd.isAgg5
 z5 := Tryd.sizeOf5
 v5 := Tryd.zeroValue5
 t9 := Tryd.underlying9
 a9 := Tryd.isAgg9
 z9 := Tryd.sizeOf9
 v9 := Tryd.zeroValue9
 t20 := Tryd.underlying20
 a20 := Tryd.isAgg20
 z20 := Tryd.sizeOf20
 v20 := Tryd.zeroValue20
 t21 := Tryd.underlying21
 a21 := Tryd.isAgg21
 z21 := Tryd.sizeOf21
 v21 := Tryd.zeroValue21
 t37 := Tryd.underlying35
 a37 := Tryd.isAgg35
 z37 := Tryd.sizeOf35
 v37 := Tryd.zeroValue35
 t46 := Tryd.underlying146
 a46 := Tryd.isAgg146
 z46 := Tryd.sizeOf146
 v46 := Tryd.zeroValue146
 t51 := Tryd.underlying167
 a51 := Tryd.isAgg167
 z51 := Tryd.sizeOf167
 v51 := Tryd.zeroValue167
 t53 := Tryd.underlying150
 a53 := Tryd.isAgg150
 z53 := Tryd.sizeOf150
 v53 := Tryd.zeroValue150
 t75 := Tryd.underlying102
 a75 := Tryd.isAgg102
 z75 := Tryd.sizeOf102
 v75 := Tryd.zeroValue102
 t76 := Tryd.underlying103
 a76 := Tryd.isAgg103
 z76 := Tryd.sizeOf103
 v76 := Tryd.zeroValue103
 t85 := Tryd.underlying140
 a85 := Tryd.isAgg140
 z85 := Tryd.sizeOf140
 v85 := Tryd.zeroValue140
 t127 := Tryd.underlying171
 a127 := Tryd.isAgg171
 z127 := Tryd.sizeOf171
 v127 := Tryd.zeroValue171
 t143 := Tryd.underlying172
 a143 := Tryd.isAgg172
 z143 := Tryd.sizeOf172
 v143 := Tryd.zeroValue172
 t145 := Tryd.underlying174
 a145 := Tryd.isAgg174
 z145 := Tryd.sizeOf174
 v145 := Tryd.zeroValue174
 t167 := Tryd.underlying139
 a167 := Tryd.isAgg139
 z167 := Tryd.sizeOf139
 v167 := Tryd.zeroValue139
 t168 := Tryd.underlying142
 a168 := Tryd.isAgg142
 z168 := Tryd.sizeOf142
 v168 := Tryd.zeroValue142
 t171 := Tryd.underlying149
 a171 := Tryd.isAgg149
 z171 := Tryd.sizeOf149
 v171 := Tryd.zeroValue149
 t173 := Tryd.underlying153
 a173 := Tryd.isAgg153
 z173 := Tryd.sizeOf153
 v173 := Tryd.zeroValue153
 t175 := Tryd.underlying158
 a175 := Tryd.isAgg158
 z175 := Tryd.sizeOf158
 v175 := Tryd.zeroValue158
 t210 := Tryd.underlying162
 a210 := Tryd.isAgg162
 z210 := Tryd.sizeOf162
 v210 := Tryd.zeroValue162
 t212 := Tryd.underlying166
 a212 := Tryd.isAgg166
 z212 := Tryd.sizeOf166
 v212 := Tryd.zeroValue166
 t213 := Tryd.underlying168
 a213 := Tryd.isAgg168
 z213 := Tryd.sizeOf168
 t232 := Tryd.underlying178
 a232 := Tryd.isAgg178
 z232 := Tryd.sizeOf178
 v232 := Tryd.zeroValue178
 t233 := Tryd.underlying179
 a233 := Tryd.isAgg179
 z233 := Tryd.sizeOf179
 v233 := Tryd.zeroValue179
 g15 := by kernel_rfl
 g16 := by kernel_rfl
 g17 := by kernel_rfl
 g18 := by kernel_rfl
 g19 := by kernel_rfl
 t80 := Tryd.underlying125
 a80 := Tryd.isAgg125
 z80 := Tryd.sizeOf125
 v80 := Tryd.zeroValue125
 i0 := by kernel_rfl
 i2 := by kernel_rfl
 i3 := by kernel_rfl
 i4 := by kernel_rfl
 i5 := by kernel_rfl
 i9 := by kernel_rfl
 i20 := by kernel_rfl
 i21 := by kernel_rfl
 i37 := by kernel_rfl
 i46 := by kernel_rfl
 i51 := by kernel_rfl
 i53 := by kernel_rfl
 i75 := by kernel_rfl
 i76 := by kernel_rfl
 i80 := by kernel_rfl
 i85 := by kernel_rfl
 i127 := by kernel_rfl
 i143 := by kernel_rfl
 i145 := by kernel_rfl
 i167 := by kernel_rfl
 i168 := by kernel_rfl
 i171 := by kernel_rfl
 i173 := by kernel_rfl
 i175 := by kernel_rfl
 i210 := by kernel_rfl
 i212 := by kernel_rfl
 i232 := by kernel_rfl
 i233 := by kernel_rfl
 m15 := by kernel_rfl
 m16 := by kernel_rfl
 m17 := by kernel_rfl
 m18 := by kernel_rfl
 m19 := by kernel_rfl
 c0 := by kernel_rfl
 c2 := by kernel_rfl
 c3 := by kernel_rfl
 c4 := by kernel_rfl
 c5 := by kernel_rfl
 c9 := by kernel_rfl
 c20 := by kernel_rfl
 c21 := by kernel_rfl
 c37 := by kernel_rfl
 c46 := by kernel_rfl
 c51 := by kernel_rfl
 c53 := by kernel_rfl
 c75 := by kernel_rfl
 c76 := by kernel_rfl
 c80 := by kernel_rfl
 c85 := by kernel_rfl
 c127 := by kernel_rfl
 c143 := by kernel_rfl
 c145 := by kernel_rfl
 c167 := by kernel_rfl
 c168 := by kernel_rfl
 c171 := by kernel_rfl
 c173 := by kernel_rfl
 c175 := by kernel_rfl
 c210 := by kernel_rfl
 c212 := by kernel_rfl
 c213 := by kernel_rfl
 c232 := by kernel_rfl
 c233 := by kernel_rfl }
theorem Tryd.strconv_Atoi_ok (s : ByteArray) (hmax : s.size ≤ 9223372036854775806) (v : Int) (h : Lib.atoiAll s.data.toList = .ok v) (w : World) :
  Calls Tryd.prog 49 #[.string s] w fun e w' => e = .returned (.tuple #[.int .i64 v, .nilIface]) ∧ (w' = w ∨ ∃ t, w' = Lib.bytesWorld w 5 t) := Any.strconv_Atoi_ok Tryd.laysC172 s hmax v h w
theorem Tryd.strconv_Atoi_syntax_var (s : ByteArray) (hlim : s.size ≤ 281474976710656) (h : Lib.atoiAll s.data.toList = Lib.NumEnd.syntax) (tp : TypeId) (p : Value) (w : World) (hvar : w.var? Tryd.prog "strconv.ErrSyntax" = some #[.iface tp p]) :
  Calls Tryd.prog 49 #[.string s] w fun e w' => ∃ N, e = .returned (.tuple #[.int .i64 0, .iface 142 (.pointer (some ⟨N, 0, none⟩))]) ∧ w.heap.size ≤ N ∧ w'.heap[N]? = some (.cells #[.string ⟨#[65, 116, 111, 105]⟩, .string s, .iface tp p] 162 (0, 0)) ∧ Below w.heap.size w w' := Any.strconv_Atoi_syntax_var Tryd.laysC172 s hlim h tp p w hvar
theorem Tryd.strconv_Atoi_range_var (s : ByteArray) (hlim : s.size ≤ 281474976710656) (h : Lib.atoiAll s.data.toList = .range) (tp : TypeId) (p : Value) (w : World) (hvar : w.var? Tryd.prog "strconv.ErrRange" = some #[.iface tp p]) :
  Calls Tryd.prog 49 #[.string s] w fun e w' => ∃ N, e = .returned (.tuple #[.int .i64 (Lib.atoiSat s.data.toList), .iface 142 (.pointer (some ⟨N, 0, none⟩))]) ∧ w.heap.size ≤ N ∧ w'.heap[N]? = some (.cells #[.string ⟨#[65, 116, 111, 105]⟩, .string s, .iface tp p] 162 (0, 0)) ∧ Below w.heap.size w w' := Any.strconv_Atoi_range_var Tryd.laysC172 s hlim h tp p w hvar
end Go.Proofs.YteighppcdpaekaaDoor
end
section
namespace Go.Proofs.YteighppcdpaekaaDoor.P
open Go.RowKit Go.Proofs.YteighppcdpaekaaDoorW.PrintWords Go.Proofs.YteighppcdpaekaaDoorW.PrintLast Go.Proofs.YteighppcdpaekaaDoorW.PrintMore
structure TabOk (w : World) : Prop where
 pow : Lib.TabIs Tryd.prog w "internal/strconv.uint64pow10" .u64 Lib.pow10Tab
 syn : ∃ tp p, w.var? Tryd.prog "strconv.ErrSyntax" = some #[.iface tp p]
 ran : ∃ tp p, w.var? Tryd.prog "strconv.ErrRange" = some #[.iface tp p]
theorem var_below {n : String} {cs : Array Value} {w w' : World} (h : w.var? Tryd.prog n = some cs) (hb : Below w.heap.size w w') : w'.var? Tryd.prog n = some cs := by
 unfold World.var? at h ⊢
 cases hg : Tryd.prog.globalNamed n with
 | none => rw [hg] at h; cases h
 | some g =>
  rw [hg] at h;simp only [Option.bind_some] at h ⊢
  cases hh : w.heap[g]? with
  | none => rw [hh] at h; cases h
  | some o => rw [hb.block g (Array.getElem?_eq_some_iff.1 hh).1, hh]; rw [hh] at h; exact h
theorem TabOk.below {w w' : World} (h : TabOk w) (hb : Below w.heap.size w w') : TabOk w' := by
 obtain ⟨a, ⟨b1, b2, b⟩, ⟨c1, c2, c⟩⟩ := h;exact ⟨var_below a hb, ⟨b1, b2, var_below b hb⟩, ⟨c1, c2, var_below c hb⟩⟩
theorem itoa_below (n : Int) (h0 : -9223372036854775808 ≤ n) (h1 : n ≤ 9223372036854775807) (w : World) (hT : TabOk w) :
  Calls Tryd.prog 41 #[.int .i64 n] w fun e w' => e = .returned (.string ⟨(Lib.itoa n).toArray⟩) ∧ Below w.heap.size w w' := by
 refine (Tryd.strconv_Itoa n h0 h1 w hT.pow).mono ?_;rintro e w' ⟨he, k, os, rfl⟩;refine ⟨he, rfl, rfl, rfl, ?_, fun j hj => ?_⟩
 ·show w.heap.size ≤ ((w.drewN k).heap ++ os).size
  rw [Array.size_append];exact Nat.le_add_right _ _
 ·show ((w.drewN k).heap ++ os)[j]? = _
  exact Array.getElem?_append_left hj
def json_Of.f (a0 : Int) : Option (Int × ByteArray × List ByteArray × (List (S27))) := if -9223372036854775808 ≤ a0 ∧ a0 ≤ 9223372036854775807 then some (3, ⟨(Lib.itoa a0).toArray⟩, [], []) else none
set_option maxHeartbeats 1600000 in
set_option maxRecDepth 100000 in
theorem json_Of.calls (a0 : Int) (r1 : Int) (r2 : ByteArray) (r3 : List ByteArray) (r4 : List (S27)) (w : World) (h : json_Of.f a0 = some (r1, r2, r3, r4)) (hT : TabOk w) :
  Calls Tryd.prog 10 #[.int .i64 a0] w fun e w' => ∃ v2_ v3_ : Value, e = .returned (.agg #[.int .i64 r1, .string r2, v2_, v3_]) ∧ Kd.R Kd.string 9 w' w.heap.size (fun _ => True) v2_ r3 ∧ Kd.R k27 27 w' w.heap.size (fun k_ => some k_ ≠ (v2_ : Value).ownBlock) v3_ r4 ∧ Below w.heap.size w w' := by
 unfold json_Of.f at h
 split at h
 ·rename_i hb
  simp only [Option.some.injEq, Prod.mk.injEq] at h;obtain ⟨rfl, rfl, rfl, rfl⟩ := h;generalize hS : (⟨(Lib.itoa a0).toArray⟩ : ByteArray) = S
  have hz : ∀ W, TabOk W → Calls Tryd.prog 41 #[.int .i64 a0] W fun e w' => e = .returned (.string S) ∧ Below W.heap.size W w' := fun W hW => by rw [← hS]; exact itoa_below a0 hb.1 hb.2 W hW
  have hb0 := blk_new w (.cells #[.int .i64 0, .string ⟨#[]⟩, .slice none 0 0, .slice none 0 0] 27);have hT1 := hT.below (bal (Below.refl _ _) (.cells #[.int .i64 0, .string ⟨#[]⟩, .slice none 0 0, .slice none 0 0] 27));have hB1 := bal (Below.refl w.heap.size w) (.cells #[.int .i64 0, .string ⟨#[]⟩, .slice none 0 0, .slice none 0 0] 27);go_enter Tryd.func10, Tryd.ntmps10;go_wp2_with (go_at_call 41; refine (hz _ hT1).mono ?_; rintro e w1 ⟨rfl, hB2⟩; have hb1 := (hB2.block _ (blk_lt hb0)).trans hb0; have c0 : w1.cell? ⟨w.heap.size, 0, none⟩ = some (.int .i64 0) := bceq hb1 0; have c1 : w1.cell? ⟨w.heap.size, 1, none⟩ = some (.string ⟨#[]⟩) := bceq hb1 1; have c2 : w1.cell? ⟨w.heap.size, 2, none⟩ = some (.slice none 0 0) := bceq hb1 2; have c3 : w1.cell? ⟨w.heap.size, 3, none⟩ = some (.slice none 0 0) := bceq hb1 3; have x0 := bfz hb1 0; have x1 := bfz hb1 1; have x2 := bfz hb1 2; have x3 := bfz hb1 3);have hb4 := blk_put (blk_put (blk_put (blk_put hb1 0 (.int .i64 3) rfl) 1 (.string S) rfl) 2 (.slice none 0 0) rfl) 3 (.slice none 0 0) rfl;refine bodyPost_ret (results_cell_row rfl _ _ w.heap.size 27 #[.int .i64 3, .string S, .slice none 0 0, .slice none 0 0] (0, 0) _ rfl hb4 Tryd.underlying27 rfl (by kernel_rfl)) rfl ?_;refine ⟨_, _, rfl, Kd.R_nil _ _ _ _ _, Kd.R_nil _ _ _ _ _, ?_⟩;exact bstq (bstq (bstq (bstq (below_step hB1 hB2) (Nat.le_refl _)) (Nat.le_refl _)) (Nat.le_refl _)) (Nat.le_refl _)
 ·cases h
end Go.Proofs.YteighppcdpaekaaDoor.P
end
section
namespace Go.Proofs.YteighppcdpaekaaDoor.P
set_option linter.unusedVariables false
set_option linter.unusedSimpArgs false
open Go.RowKit Go.Proofs.YteighppcdpaekaaDoorW.PrintWords Go.Proofs.YteighppcdpaekaaDoorW.PrintLast Go.Proofs.YteighppcdpaekaaDoorW.PrintMore
def intT (t : List UInt8) : Int × Bool := match Lib.atoiAll t with
 | .ok v => if Lib.itoa v = t ∧ -999999999 ≤ v ∧ v ≤ 999999999 then (v, true) else (0, false)
 | _ => (0, false)
def json_Int.f (a0_0 : Int) (a0_1 : ByteArray) (l0_2 : List ByteArray) (l0_3 : List S27) : Option (Int × Bool) := if a0_1.size ≤ 1000000 then some (if a0_0 = 3 then intT a0_1.data.toList else (0, false)) else none
set_option maxHeartbeats 1600000 in
set_option maxRecDepth 100000 in
theorem int_no (k : Int) (hk : k ≠ 3) (s : ByteArray) (v2 v3 : Value) (w : World) :
  Calls Tryd.prog 29 #[.agg #[.int .i64 k, .string s, v2, v3]] w fun e w' => e = .returned (.tuple #[.int .i64 0, .bool false]) ∧ Below w.heap.size w w' := by
 have hB1 := bal (Below.refl w.heap.size w) (.cells #[.int .i64 k, .string s, v2, v3] 27);have hk1 : (k != 3) = true := bne_iff_ne.mpr hk;go_enter Tryd.func29, Tryd.ntmps29;go_wp2;refine bodyPost_ret (v := .tuple #[.int .i64 0, .bool false]) (by simp [results, Tryd.results29, go_sem]) rfl ?_;exact ⟨rfl, hB1⟩
set_option maxHeartbeats 1600000 in
set_option maxRecDepth 100000 in
theorem int_err (s : ByteArray) (hs : s.size ≤ 1000000) (v2 v3 : Value) (w : World) (hT : TabOk w) (hn : ∀ v, Lib.atoiAll s.data.toList ≠ .ok v) :
  Calls Tryd.prog 29 #[.agg #[.int .i64 3, .string s, v2, v3]] w fun e w' => e = .returned (.tuple #[.int .i64 0, .bool false]) ∧ Below w.heap.size w w' := by
 have hB1 := bal (Below.refl w.heap.size w) (.cells #[.int .i64 3, .string s, v2, v3] 27);have hT1 := hT.below hB1
 have hA : ∃ (z : Int), Calls Tryd.prog 49 #[.string s] (w.alloc (.cells #[.int .i64 3, .string s, v2, v3] 27)) fun e w' => ∃ N, e = .returned (.tuple #[.int .i64 z, .iface 142 (.pointer (some ⟨N, 0, none⟩))]) ∧ Below (w.alloc (.cells #[.int .i64 3, .string s, v2, v3] 27)).heap.size (w.alloc (.cells #[.int .i64 3, .string s, v2, v3] 27)) w' := by
  obtain ⟨_, ⟨tp, p, hp⟩, ⟨tq, q, hq⟩⟩ := hT1
  rcases ha : Lib.atoiAll s.data.toList with v | _ | _
  ·exact absurd ha (hn v)
  ·exact ⟨0, (Tryd.strconv_Atoi_syntax_var s (by omega) ha tp p _ hp).mono (fun e w' ⟨N, h1, _, _, h4⟩ => ⟨N, h1, h4⟩)⟩
  ·exact ⟨Lib.atoiSat s.data.toList, (Tryd.strconv_Atoi_range_var s (by omega) ha tq q _ hq).mono (fun e w' ⟨N, h1, _, _, h4⟩ => ⟨N, h1, h4⟩)⟩
 obtain ⟨z, hz⟩ := hA;go_enter Tryd.func29, Tryd.ntmps29;go_wp2_with (go_at_call 49; refine hz.mono ?_; rintro e w1 ⟨N, rfl, hB2⟩);have hB3 := below_step hB1 hB2;clear hz hB1 hB2 hT hT1
 go_quiet (fail)
 go_wp2;refine bodyPost_ret (v := .tuple #[.int .i64 0, .bool false]) (by simp [results, Tryd.results29, go_sem]) rfl ?_;exact ⟨rfl, by repeat (first | exact hB3 | apply pbdN | apply bdr1)⟩
set_option maxHeartbeats 1600000 in
set_option maxRecDepth 100000 in
theorem int_ok (s : ByteArray) (hs : s.size ≤ 1000000) (v2 v3 : Value) (w : World) (hT : TabOk w) (v : Int) (hn : Lib.atoiAll s.data.toList = .ok v) :
  Calls Tryd.prog 29 #[.agg #[.int .i64 3, .string s, v2, v3]] w fun e w' => e = .returned (.tuple #[.int .i64 (if Lib.itoa v = s.data.toList ∧ -999999999 ≤ v ∧ v ≤ 999999999 then v else 0), .bool (decide (Lib.itoa v = s.data.toList ∧ -999999999 ≤ v ∧ v ≤ 999999999))]) ∧ Below w.heap.size w w' := by
 have hb0 := blk_new w (.cells #[.int .i64 3, .string s, v2, v3] 27);have hB1 := bal (Below.refl w.heap.size w) (.cells #[.int .i64 3, .string s, v2, v3] 27);have hT1 := hT.below hB1;have hbd := Lib.atoiAll_bounds hn
 have hz : Calls Tryd.prog 49 #[.string s] (w.alloc (.cells #[.int .i64 3, .string s, v2, v3] 27)) fun e w' => e = .returned (.tuple #[.int .i64 v, .nilIface]) ∧ Below (w.alloc (.cells #[.int .i64 3, .string s, v2, v3] 27)).heap.size (w.alloc (.cells #[.int .i64 3, .string s, v2, v3] 27)) w' :=
  (Tryd.strconv_Atoi_ok s (by omega) v hn _).mono (fun e w' ⟨h1, h2⟩ => ⟨h1, by
   rcases h2 with rfl | ⟨t, rfl⟩
   ·exact Below.refl _ _
   ·exact Lib.bytesWorld_below _ _ _⟩)
 generalize hS : (⟨(Lib.itoa v).toArray⟩ : ByteArray) = S
 have hSt : S.data.toList = Lib.itoa v := by rw [← hS]
 have hi : ∀ W, TabOk W → Calls Tryd.prog 41 #[.int .i64 v] W fun e w' => e = .returned (.string S) ∧ Below W.heap.size W w' := fun W hW => by rw [← hS]; exact itoa_below v hbd.1 hbd.2 W hW
 have hSe : (S.toList = s.toList) ↔ Lib.itoa v = s.data.toList := by rw [← hSt, ByteArray.toList_eq s, ByteArray.toList_eq S]
 clear hS hSt hn;by_cases h1 : S.toList = s.toList
 ·have h1b : (S.toList == s.toList) = true := beq_iff_eq.mpr h1
  by_cases h2 : v ≤ 999999999
  ·have h2b : decide ((999999999 : Int) < v) = false := decide_eq_false (by omega)
   by_cases h3 : -999999999 ≤ v
   ·have h3b : decide (v < (-999999999 : Int)) = false := decide_eq_false (by omega)
    rw [if_pos ⟨hSe.1 h1, h3, h2⟩, decide_eq_true (show Lib.itoa v = s.data.toList ∧ -999999999 ≤ v ∧ v ≤ 999999999 from ⟨hSe.1 h1, h3, h2⟩)];clear hSe;go_enter Tryd.func29, Tryd.ntmps29;go_wp2_with (go_at_call 49; refine hz.mono ?_; rintro e w1 ⟨rfl, hB2⟩);have hB3 := below_step hB1 hB2;have hT2 := hT1.below hB2;have hb1 := (hB2.block _ (blk_lt hb0)).trans hb0;have hc1 : w1.cell? ⟨w.heap.size, 1, none⟩ = some (.string s) := bceq hb1 1;have hlt := blk_lt hb1;clear hz hB1 hB2 hT hT1 hb0;have hTd := hT2.below (below_drew (Below.refl w1.heap.size w1));have hcd : w1.drew.cell? ⟨w.heap.size, 1, none⟩ = some (.string s) := hc1;refine start_ (n := 17) (S := fun w' => w'.cell? ⟨w.heap.size, 1, none⟩ = some (.string s)) (ds := []) #[false, false, false, false, false, false, false, false, false, false, false, false, false, false, false, false, false] (by kernel_rfl) rfl rfl hcd (fun hHeld => ?_);refine pure_ (i := 0) (N := some 15) (v := ?_) (a' := ?_) #[true, false, false, false, false, false, false, false, false, false, false, false, false, false, false, false, false] rfl rfl (by kernel_rfl) (fun _ _ _ h => h) (Or.inl ⟨by rfl, ?_⟩) ?_ ?_
    rotate_left
    ·intro w'
     go_simp
     with_reducible rfl
    rotate_left
    ·simp only [Act.put, List.setIfInBounds_toArray, List.set_cons_zero, List.set_cons_succ, i64_w, i32_w]
     rfl
    refine pure_ (i := 1) (N := some 16) (v := ?_) (a' := ?_) #[true, true, false, false, false, false, false, false, false, false, false, false, false, false, false, false, false] rfl rfl (by kernel_rfl) (fun _ _ _ h => h) (Or.inl ⟨by rfl, ?_⟩) ?_ ?_
    rotate_left
    ·intro w'
     go_simp
     with_reducible rfl
    rotate_left
    ·simp only [Act.put, List.setIfInBounds_toArray, List.set_cons_zero, List.set_cons_succ, i64_w, i32_w]
     rfl
    refine pure_ (i := 2) (N := some 17) (v := ?_) (a' := ?_) #[true, true, true, false, false, false, false, false, false, false, false, false, false, false, false, false, false] rfl rfl (by kernel_rfl) (fun _ _ _ h => h) (Or.inl ⟨by rfl, ?_⟩) ?_ ?_
    rotate_left
    ·intro w'
     go_simp
     with_reducible rfl
    rotate_left
    ·simp only [Act.put, List.setIfInBounds_toArray, List.set_cons_zero, List.set_cons_succ, i64_w, i32_w]
     rfl
    refine pure_ (i := 3) (N := some 18) (v := ?_) (a' := ?_) #[true, true, true, true, false, false, false, false, false, false, false, false, false, false, false, false, false] rfl rfl (by kernel_rfl) (fun _ _ _ h => h) (Or.inl ⟨by rfl, ?_⟩) ?_ ?_
    rotate_left
    ·intro w'
     go_simp
     with_reducible rfl
    rotate_left
    ·simp only [Act.put, List.setIfInBounds_toArray, List.set_cons_zero, List.set_cons_succ, i64_w, i32_w]
     rfl
    refine pure_ (i := 5) (N := some 20) (v := ?_) (a' := ?_) #[true, true, true, true, false, true, false, false, false, false, false, false, false, false, false, false, false] rfl rfl (by kernel_rfl) (fun _ _ _ h => h) (Or.inl ⟨by rfl, ?_⟩) ?_ ?_
    rotate_left
    ·intro w'
     go_simp
     with_reducible rfl
    rotate_left
    ·simp only [Act.put, List.setIfInBounds_toArray, List.set_cons_zero, List.set_cons_succ, i64_w, i32_w]
     rfl
    refine take_ (i := 6) (N := some 21) (v := ?_) (a' := ?_) #[true, true, true, true, false, true, true, false, false, false, false, false, false, false, false, false, false] rfl rfl (by kernel_rfl) (fun _ _ _ h => h) (Or.inl ⟨by rfl, ?_⟩) hHeld ?_ ?_
    rotate_left
    ·intro w' s0
     go_simp
     with_reducible rfl
    rotate_left
    ·simp only [Act.put, List.setIfInBounds_toArray, List.set_cons_zero, List.set_cons_succ, i64_w, i32_w]
     rfl
    refine one_ (i := 4) (N := some 19) #[true, true, true, true, true, true, true, false, false, false, false, false, false, false, false, false, false] rfl rfl (by kernel_rfl) (by decide) (fun K hK => ?_);refine goes_ Tryd.func41 (by kernel_rfl) rfl #[.int .i64 v] (by rfl) rfl rfl (by (try simp only [List.map_toArray, List.map_cons, List.map_nil]); first | done | rfl) ?_;refine (hi _ hTd).mono ?_;rintro e w2 ⟨rfl, hB4⟩;refine ⟨_, rfl, ?_⟩;refine hK.out _ _ (bceq ((hB4.block _ hlt).trans hb1) 1) (fun hHeld => ?_);clear hK K;refine norm_ (a' := ?_) ?_ ?_
    rotate_left
    ·show Act.put _ (some 19) _ = _
     simp only [Act.put, List.setIfInBounds_toArray, List.set_cons_zero, List.set_cons_succ, i64_w, i32_w]
     rfl
    refine pure_ (i := 7) (N := some 22) (v := (.bool false)) (a' := ?_) #[true, true, true, true, true, true, true, true, false, false, false, false, false, false, false, false, false] rfl rfl (by kernel_rfl) (fun _ _ _ h => h) (Or.inl ⟨by rfl, ?_⟩) ?_ ?_
    ·intro w'
     first | (go_simp; done) | (go_simp; with_reducible rfl) | (go_simp; simp [*]; done)
    rotate_left
    ·simp only [Act.put, List.setIfInBounds_toArray, List.set_cons_zero, List.set_cons_succ, i64_w, i32_w]
     rfl
    refine pure_ (i := 8) (N := some 23) (v := ?_) (a' := ?_) #[true, true, true, true, true, true, true, true, true, false, false, false, false, false, false, false, false] rfl rfl (by kernel_rfl) (fun _ _ _ h => h) (Or.inl ⟨by rfl, ?_⟩) ?_ ?_
    rotate_left
    ·intro w'
     go_simp
     with_reducible rfl
    rotate_left
    ·simp only [Act.put, List.setIfInBounds_toArray, List.set_cons_zero, List.set_cons_succ, i64_w, i32_w]
     rfl
    refine pure_ (i := 9) (N := some 24) (v := ?_) (a' := ?_) #[true, true, true, true, true, true, true, true, true, true, false, false, false, false, false, false, false] rfl rfl (by kernel_rfl) (fun _ _ _ h => h) (Or.inl ⟨by rfl, ?_⟩) ?_ ?_
    rotate_left
    ·intro w'
     go_simp
     with_reducible rfl
    rotate_left
    ·simp only [Act.put, List.setIfInBounds_toArray, List.set_cons_zero, List.set_cons_succ, i64_w, i32_w]
     rfl
    refine pure_ (i := 10) (N := some 25) (v := ?_) (a' := ?_) #[true, true, true, true, true, true, true, true, true, true, true, false, false, false, false, false, false] rfl rfl (by kernel_rfl) (fun _ _ _ h => h) (Or.inl ⟨by rfl, ?_⟩) ?_ ?_
    rotate_left
    ·intro w'
     go_simp
     with_reducible rfl
    rotate_left
    ·simp only [Act.put, List.setIfInBounds_toArray, List.set_cons_zero, List.set_cons_succ, i64_w, i32_w]
     rfl
    refine pure_ (i := 11) (N := some 26) (v := (.bool false)) (a' := ?_) #[true, true, true, true, true, true, true, true, true, true, true, true, false, false, false, false, false] rfl rfl (by kernel_rfl) (fun _ _ _ h => h) (Or.inl ⟨by rfl, ?_⟩) ?_ ?_
    ·intro w'
     first | (go_simp; done) | (go_simp; with_reducible rfl) | (go_simp; simp [*]; done)
    rotate_left
    ·simp only [Act.put, List.setIfInBounds_toArray, List.set_cons_zero, List.set_cons_succ, i64_w, i32_w]
     rfl
    refine pure_ (i := 12) (N := some 27) (v := ?_) (a' := ?_) #[true, true, true, true, true, true, true, true, true, true, true, true, true, false, false, false, false] rfl rfl (by kernel_rfl) (fun _ _ _ h => h) (Or.inl ⟨by rfl, ?_⟩) ?_ ?_
    rotate_left
    ·intro w'
     go_simp
     with_reducible rfl
    rotate_left
    ·simp only [Act.put, List.setIfInBounds_toArray, List.set_cons_zero, List.set_cons_succ, i64_w, i32_w]
     rfl
    refine pure_ (i := 13) (N := some 28) (v := ?_) (a' := ?_) #[true, true, true, true, true, true, true, true, true, true, true, true, true, true, false, false, false] rfl rfl (by kernel_rfl) (fun _ _ _ h => h) (Or.inl ⟨by rfl, ?_⟩) ?_ ?_
    rotate_left
    ·intro w'
     go_simp
     with_reducible rfl
    rotate_left
    ·simp only [Act.put, List.setIfInBounds_toArray, List.set_cons_zero, List.set_cons_succ, i64_w, i32_w]
     rfl
    refine pure_ (i := 14) (N := some 29) (v := ?_) (a' := ?_) #[true, true, true, true, true, true, true, true, true, true, true, true, true, true, true, false, false] rfl rfl (by kernel_rfl) (fun _ _ _ h => h) (Or.inl ⟨by rfl, ?_⟩) ?_ ?_
    rotate_left
    ·intro w'
     go_simp
     with_reducible rfl
    rotate_left
    ·simp only [Act.put, List.setIfInBounds_toArray, List.set_cons_zero, List.set_cons_succ, i64_w, i32_w]
     rfl
    refine pure_ (i := 15) (N := some 30) (v := (.bool false)) (a' := ?_) #[true, true, true, true, true, true, true, true, true, true, true, true, true, true, true, true, false] rfl rfl (by kernel_rfl) (fun _ _ _ h => h) (Or.inl ⟨by rfl, ?_⟩) ?_ ?_
    ·intro w'
     first | (go_simp; done) | (go_simp; with_reducible rfl) | (go_simp; simp [*]; done)
    rotate_left
    ·simp only [Act.put, List.setIfInBounds_toArray, List.set_cons_zero, List.set_cons_succ, i64_w, i32_w]
     rfl
    refine pure_ (i := 16) (N := some 31) (v := ?_) (a' := ?_) #[true, true, true, true, true, true, true, true, true, true, true, true, true, true, true, true, true] rfl rfl (by kernel_rfl) (fun _ _ _ h => h) (Or.inl ⟨by rfl, ?_⟩) ?_ ?_
    rotate_left
    ·intro w'
     go_simp
     with_reducible rfl
    rotate_left
    ·simp only [Act.put, List.setIfInBounds_toArray, List.set_cons_zero, List.set_cons_succ, i64_w, i32_w]
     rfl
    refine done_ (by kernel_rfl) ?_;go_wp2;refine bodyPost_ret (v := .tuple #[.int .i64 v, .bool true]) (by simp [results, Tryd.results29, go_sem]) rfl ?_;exact ⟨rfl, below_step (below_drew hB3) hB4⟩
   ·have h3b : decide (v < (-999999999 : Int)) = true := decide_eq_true (by omega)
    rw [if_neg (fun h => h3 h.2.1), decide_eq_false (fun h : Lib.itoa v = s.data.toList ∧ -999999999 ≤ v ∧ v ≤ 999999999 => h3 h.2.1)]; clear hSe;go_enter Tryd.func29, Tryd.ntmps29;go_wp2_with (go_at_call 49; refine hz.mono ?_; rintro e w1 ⟨rfl, hB2⟩);have hB3 := below_step hB1 hB2;have hT2 := hT1.below hB2;have hb1 := (hB2.block _ (blk_lt hb0)).trans hb0;have hc1 : w1.cell? ⟨w.heap.size, 1, none⟩ = some (.string s) := bceq hb1 1;have hlt := blk_lt hb1;clear hz hB1 hB2 hT hT1 hb0;have hTd := hT2.below (below_drew (Below.refl w1.heap.size w1));have hcd : w1.drew.cell? ⟨w.heap.size, 1, none⟩ = some (.string s) := hc1;refine start_ (n := 17) (S := fun w' => w'.cell? ⟨w.heap.size, 1, none⟩ = some (.string s)) (ds := []) #[false, false, false, false, false, false, false, false, false, false, false, false, false, false, false, false, false] (by kernel_rfl) rfl rfl hcd (fun hHeld => ?_);refine pure_ (i := 0) (N := some 15) (v := ?_) (a' := ?_) #[true, false, false, false, false, false, false, false, false, false, false, false, false, false, false, false, false] rfl rfl (by kernel_rfl) (fun _ _ _ h => h) (Or.inl ⟨by rfl, ?_⟩) ?_ ?_
    rotate_left
    ·intro w'
     go_simp
     with_reducible rfl
    rotate_left
    ·simp only [Act.put, List.setIfInBounds_toArray, List.set_cons_zero, List.set_cons_succ, i64_w, i32_w]
     rfl
    refine pure_ (i := 1) (N := some 16) (v := ?_) (a' := ?_) #[true, true, false, false, false, false, false, false, false, false, false, false, false, false, false, false, false] rfl rfl (by kernel_rfl) (fun _ _ _ h => h) (Or.inl ⟨by rfl, ?_⟩) ?_ ?_
    rotate_left
    ·intro w'
     go_simp
     with_reducible rfl
    rotate_left
    ·simp only [Act.put, List.setIfInBounds_toArray, List.set_cons_zero, List.set_cons_succ, i64_w, i32_w]
     rfl
    refine pure_ (i := 2) (N := some 17) (v := ?_) (a' := ?_) #[true, true, true, false, false, false, false, false, false, false, false, false, false, false, false, false, false] rfl rfl (by kernel_rfl) (fun _ _ _ h => h) (Or.inl ⟨by rfl, ?_⟩) ?_ ?_
    rotate_left
    ·intro w'
     go_simp
     with_reducible rfl
    rotate_left
    ·simp only [Act.put, List.setIfInBounds_toArray, List.set_cons_zero, List.set_cons_succ, i64_w, i32_w]
     rfl
    refine pure_ (i := 3) (N := some 18) (v := ?_) (a' := ?_) #[true, true, true, true, false, false, false, false, false, false, false, false, false, false, false, false, false] rfl rfl (by kernel_rfl) (fun _ _ _ h => h) (Or.inl ⟨by rfl, ?_⟩) ?_ ?_
    rotate_left
    ·intro w'
     go_simp
     with_reducible rfl
    rotate_left
    ·simp only [Act.put, List.setIfInBounds_toArray, List.set_cons_zero, List.set_cons_succ, i64_w, i32_w]
     rfl
    refine pure_ (i := 5) (N := some 20) (v := ?_) (a' := ?_) #[true, true, true, true, false, true, false, false, false, false, false, false, false, false, false, false, false] rfl rfl (by kernel_rfl) (fun _ _ _ h => h) (Or.inl ⟨by rfl, ?_⟩) ?_ ?_
    rotate_left
    ·intro w'
     go_simp
     with_reducible rfl
    rotate_left
    ·simp only [Act.put, List.setIfInBounds_toArray, List.set_cons_zero, List.set_cons_succ, i64_w, i32_w]
     rfl
    refine take_ (i := 6) (N := some 21) (v := ?_) (a' := ?_) #[true, true, true, true, false, true, true, false, false, false, false, false, false, false, false, false, false] rfl rfl (by kernel_rfl) (fun _ _ _ h => h) (Or.inl ⟨by rfl, ?_⟩) hHeld ?_ ?_
    rotate_left
    ·intro w' s0
     go_simp
     with_reducible rfl
    rotate_left
    ·simp only [Act.put, List.setIfInBounds_toArray, List.set_cons_zero, List.set_cons_succ, i64_w, i32_w]
     rfl
    refine one_ (i := 4) (N := some 19) #[true, true, true, true, true, true, true, false, false, false, false, false, false, false, false, false, false] rfl rfl (by kernel_rfl) (by decide) (fun K hK => ?_);refine goes_ Tryd.func41 (by kernel_rfl) rfl #[.int .i64 v] (by rfl) rfl rfl (by (try simp only [List.map_toArray, List.map_cons, List.map_nil]); first | done | rfl) ?_;refine (hi _ hTd).mono ?_;rintro e w2 ⟨rfl, hB4⟩;refine ⟨_, rfl, ?_⟩;refine hK.out _ _ (bceq ((hB4.block _ hlt).trans hb1) 1) (fun hHeld => ?_);clear hK K;refine norm_ (a' := ?_) ?_ ?_
    rotate_left
    ·show Act.put _ (some 19) _ = _
     simp only [Act.put, List.setIfInBounds_toArray, List.set_cons_zero, List.set_cons_succ, i64_w, i32_w]
     rfl
    refine pure_ (i := 7) (N := some 22) (v := (.bool false)) (a' := ?_) #[true, true, true, true, true, true, true, true, false, false, false, false, false, false, false, false, false] rfl rfl (by kernel_rfl) (fun _ _ _ h => h) (Or.inl ⟨by rfl, ?_⟩) ?_ ?_
    ·intro w'
     first | (go_simp; done) | (go_simp; with_reducible rfl) | (go_simp; simp [*]; done)
    rotate_left
    ·simp only [Act.put, List.setIfInBounds_toArray, List.set_cons_zero, List.set_cons_succ, i64_w, i32_w]
     rfl
    refine pure_ (i := 8) (N := some 23) (v := ?_) (a' := ?_) #[true, true, true, true, true, true, true, true, true, false, false, false, false, false, false, false, false] rfl rfl (by kernel_rfl) (fun _ _ _ h => h) (Or.inl ⟨by rfl, ?_⟩) ?_ ?_
    rotate_left
    ·intro w'
     go_simp
     with_reducible rfl
    rotate_left
    ·simp only [Act.put, List.setIfInBounds_toArray, List.set_cons_zero, List.set_cons_succ, i64_w, i32_w]
     rfl
    refine pure_ (i := 9) (N := some 24) (v := ?_) (a' := ?_) #[true, true, true, true, true, true, true, true, true, true, false, false, false, false, false, false, false] rfl rfl (by kernel_rfl) (fun _ _ _ h => h) (Or.inl ⟨by rfl, ?_⟩) ?_ ?_
    rotate_left
    ·intro w'
     go_simp
     with_reducible rfl
    rotate_left
    ·simp only [Act.put, List.setIfInBounds_toArray, List.set_cons_zero, List.set_cons_succ, i64_w, i32_w]
     rfl
    refine pure_ (i := 10) (N := some 25) (v := ?_) (a' := ?_) #[true, true, true, true, true, true, true, true, true, true, true, false, false, false, false, false, false] rfl rfl (by kernel_rfl) (fun _ _ _ h => h) (Or.inl ⟨by rfl, ?_⟩) ?_ ?_
    rotate_left
    ·intro w'
     go_simp
     with_reducible rfl
    rotate_left
    ·simp only [Act.put, List.setIfInBounds_toArray, List.set_cons_zero, List.set_cons_succ, i64_w, i32_w]
     rfl
    refine pure_ (i := 11) (N := some 26) (v := (.bool false)) (a' := ?_) #[true, true, true, true, true, true, true, true, true, true, true, true, false, false, false, false, false] rfl rfl (by kernel_rfl) (fun _ _ _ h => h) (Or.inl ⟨by rfl, ?_⟩) ?_ ?_
    ·intro w'
     first | (go_simp; done) | (go_simp; with_reducible rfl) | (go_simp; simp [*]; done)
    rotate_left
    ·simp only [Act.put, List.setIfInBounds_toArray, List.set_cons_zero, List.set_cons_succ, i64_w, i32_w]
     rfl
    refine pure_ (i := 12) (N := some 27) (v := ?_) (a' := ?_) #[true, true, true, true, true, true, true, true, true, true, true, true, true, false, false, false, false] rfl rfl (by kernel_rfl) (fun _ _ _ h => h) (Or.inl ⟨by rfl, ?_⟩) ?_ ?_
    rotate_left
    ·intro w'
     go_simp
     with_reducible rfl
    rotate_left
    ·simp only [Act.put, List.setIfInBounds_toArray, List.set_cons_zero, List.set_cons_succ, i64_w, i32_w]
     rfl
    refine pure_ (i := 13) (N := some 28) (v := ?_) (a' := ?_) #[true, true, true, true, true, true, true, true, true, true, true, true, true, true, false, false, false] rfl rfl (by kernel_rfl) (fun _ _ _ h => h) (Or.inl ⟨by rfl, ?_⟩) ?_ ?_
    rotate_left
    ·intro w'
     go_simp
     with_reducible rfl
    rotate_left
    ·simp only [Act.put, List.setIfInBounds_toArray, List.set_cons_zero, List.set_cons_succ, i64_w, i32_w]
     rfl
    refine pure_ (i := 14) (N := some 29) (v := ?_) (a' := ?_) #[true, true, true, true, true, true, true, true, true, true, true, true, true, true, true, false, false] rfl rfl (by kernel_rfl) (fun _ _ _ h => h) (Or.inl ⟨by rfl, ?_⟩) ?_ ?_
    rotate_left
    ·intro w'
     go_simp
     with_reducible rfl
    rotate_left
    ·simp only [Act.put, List.setIfInBounds_toArray, List.set_cons_zero, List.set_cons_succ, i64_w, i32_w]
     rfl
    refine pure_ (i := 15) (N := some 30) (v := (.bool true)) (a' := ?_) #[true, true, true, true, true, true, true, true, true, true, true, true, true, true, true, true, false] rfl rfl (by kernel_rfl) (fun _ _ _ h => h) (Or.inl ⟨by rfl, ?_⟩) ?_ ?_
    ·intro w'
     first | (go_simp; done) | (go_simp; with_reducible rfl) | (go_simp; simp [*]; done)
    rotate_left
    ·simp only [Act.put, List.setIfInBounds_toArray, List.set_cons_zero, List.set_cons_succ, i64_w, i32_w]
     rfl
    refine pure_ (i := 16) (N := some 31) (v := ?_) (a' := ?_) #[true, true, true, true, true, true, true, true, true, true, true, true, true, true, true, true, true] rfl rfl (by kernel_rfl) (fun _ _ _ h => h) (Or.inl ⟨by rfl, ?_⟩) ?_ ?_
    rotate_left
    ·intro w'
     go_simp
     with_reducible rfl
    rotate_left
    ·simp only [Act.put, List.setIfInBounds_toArray, List.set_cons_zero, List.set_cons_succ, i64_w, i32_w]
     rfl
    refine done_ (by kernel_rfl) ?_;go_wp2;refine bodyPost_ret (v := .tuple #[.int .i64 0, .bool false]) (by simp [results, Tryd.results29, go_sem]) rfl ?_;exact ⟨rfl, below_step (below_drew hB3) hB4⟩
  ·have h2b : decide ((999999999 : Int) < v) = true := decide_eq_true (by omega)
   rw [if_neg (fun h => h2 h.2.2), decide_eq_false (fun h : Lib.itoa v = s.data.toList ∧ -999999999 ≤ v ∧ v ≤ 999999999 => h2 h.2.2)]; clear hSe;go_enter Tryd.func29, Tryd.ntmps29;go_wp2_with (go_at_call 49; refine hz.mono ?_; rintro e w1 ⟨rfl, hB2⟩);have hB3 := below_step hB1 hB2;have hT2 := hT1.below hB2;have hb1 := (hB2.block _ (blk_lt hb0)).trans hb0;have hc1 : w1.cell? ⟨w.heap.size, 1, none⟩ = some (.string s) := bceq hb1 1;have hlt := blk_lt hb1;clear hz hB1 hB2 hT hT1 hb0;have hTd := hT2.below (below_drew (Below.refl w1.heap.size w1));have hcd : w1.drew.cell? ⟨w.heap.size, 1, none⟩ = some (.string s) := hc1;refine start_ (n := 17) (S := fun w' => w'.cell? ⟨w.heap.size, 1, none⟩ = some (.string s)) (ds := []) #[false, false, false, false, false, false, false, false, false, false, false, false, false, false, false, false, false] (by kernel_rfl) rfl rfl hcd (fun hHeld => ?_);refine pure_ (i := 0) (N := some 15) (v := ?_) (a' := ?_) #[true, false, false, false, false, false, false, false, false, false, false, false, false, false, false, false, false] rfl rfl (by kernel_rfl) (fun _ _ _ h => h) (Or.inl ⟨by rfl, ?_⟩) ?_ ?_
   rotate_left
   ·intro w'
    go_simp
    with_reducible rfl
   rotate_left
   ·simp only [Act.put, List.setIfInBounds_toArray, List.set_cons_zero, List.set_cons_succ, i64_w, i32_w]
    rfl
   refine pure_ (i := 1) (N := some 16) (v := ?_) (a' := ?_) #[true, true, false, false, false, false, false, false, false, false, false, false, false, false, false, false, false] rfl rfl (by kernel_rfl) (fun _ _ _ h => h) (Or.inl ⟨by rfl, ?_⟩) ?_ ?_
   rotate_left
   ·intro w'
    go_simp
    with_reducible rfl
   rotate_left
   ·simp only [Act.put, List.setIfInBounds_toArray, List.set_cons_zero, List.set_cons_succ, i64_w, i32_w]
    rfl
   refine pure_ (i := 2) (N := some 17) (v := ?_) (a' := ?_) #[true, true, true, false, false, false, false, false, false, false, false, false, false, false, false, false, false] rfl rfl (by kernel_rfl) (fun _ _ _ h => h) (Or.inl ⟨by rfl, ?_⟩) ?_ ?_
   rotate_left
   ·intro w'
    go_simp
    with_reducible rfl
   rotate_left
   ·simp only [Act.put, List.setIfInBounds_toArray, List.set_cons_zero, List.set_cons_succ, i64_w, i32_w]
    rfl
   refine pure_ (i := 3) (N := some 18) (v := ?_) (a' := ?_) #[true, true, true, true, false, false, false, false, false, false, false, false, false, false, false, false, false] rfl rfl (by kernel_rfl) (fun _ _ _ h => h) (Or.inl ⟨by rfl, ?_⟩) ?_ ?_
   rotate_left
   ·intro w'
    go_simp
    with_reducible rfl
   rotate_left
   ·simp only [Act.put, List.setIfInBounds_toArray, List.set_cons_zero, List.set_cons_succ, i64_w, i32_w]
    rfl
   refine pure_ (i := 5) (N := some 20) (v := ?_) (a' := ?_) #[true, true, true, true, false, true, false, false, false, false, false, false, false, false, false, false, false] rfl rfl (by kernel_rfl) (fun _ _ _ h => h) (Or.inl ⟨by rfl, ?_⟩) ?_ ?_
   rotate_left
   ·intro w'
    go_simp
    with_reducible rfl
   rotate_left
   ·simp only [Act.put, List.setIfInBounds_toArray, List.set_cons_zero, List.set_cons_succ, i64_w, i32_w]
    rfl
   refine take_ (i := 6) (N := some 21) (v := ?_) (a' := ?_) #[true, true, true, true, false, true, true, false, false, false, false, false, false, false, false, false, false] rfl rfl (by kernel_rfl) (fun _ _ _ h => h) (Or.inl ⟨by rfl, ?_⟩) hHeld ?_ ?_
   rotate_left
   ·intro w' s0
    go_simp
    with_reducible rfl
   rotate_left
   ·simp only [Act.put, List.setIfInBounds_toArray, List.set_cons_zero, List.set_cons_succ, i64_w, i32_w]
    rfl
   refine one_ (i := 4) (N := some 19) #[true, true, true, true, true, true, true, false, false, false, false, false, false, false, false, false, false] rfl rfl (by kernel_rfl) (by decide) (fun K hK => ?_);refine goes_ Tryd.func41 (by kernel_rfl) rfl #[.int .i64 v] (by rfl) rfl rfl (by (try simp only [List.map_toArray, List.map_cons, List.map_nil]); first | done | rfl) ?_;refine (hi _ hTd).mono ?_;rintro e w2 ⟨rfl, hB4⟩;refine ⟨_, rfl, ?_⟩;refine hK.out _ _ (bceq ((hB4.block _ hlt).trans hb1) 1) (fun hHeld => ?_);clear hK K;refine norm_ (a' := ?_) ?_ ?_
   rotate_left
   ·show Act.put _ (some 19) _ = _
    simp only [Act.put, List.setIfInBounds_toArray, List.set_cons_zero, List.set_cons_succ, i64_w, i32_w]
    rfl
   refine pure_ (i := 7) (N := some 22) (v := (.bool false)) (a' := ?_) #[true, true, true, true, true, true, true, true, false, false, false, false, false, false, false, false, false] rfl rfl (by kernel_rfl) (fun _ _ _ h => h) (Or.inl ⟨by rfl, ?_⟩) ?_ ?_
   ·intro w'
    first | (go_simp; done) | (go_simp; with_reducible rfl) | (go_simp; simp [*]; done)
   rotate_left
   ·simp only [Act.put, List.setIfInBounds_toArray, List.set_cons_zero, List.set_cons_succ, i64_w, i32_w]
    rfl
   refine pure_ (i := 8) (N := some 23) (v := ?_) (a' := ?_) #[true, true, true, true, true, true, true, true, true, false, false, false, false, false, false, false, false] rfl rfl (by kernel_rfl) (fun _ _ _ h => h) (Or.inl ⟨by rfl, ?_⟩) ?_ ?_
   rotate_left
   ·intro w'
    go_simp
    with_reducible rfl
   rotate_left
   ·simp only [Act.put, List.setIfInBounds_toArray, List.set_cons_zero, List.set_cons_succ, i64_w, i32_w]
    rfl
   refine pure_ (i := 9) (N := some 24) (v := ?_) (a' := ?_) #[true, true, true, true, true, true, true, true, true, true, false, false, false, false, false, false, false] rfl rfl (by kernel_rfl) (fun _ _ _ h => h) (Or.inl ⟨by rfl, ?_⟩) ?_ ?_
   rotate_left
   ·intro w'
    go_simp
    with_reducible rfl
   rotate_left
   ·simp only [Act.put, List.setIfInBounds_toArray, List.set_cons_zero, List.set_cons_succ, i64_w, i32_w]
    rfl
   refine pure_ (i := 10) (N := some 25) (v := ?_) (a' := ?_) #[true, true, true, true, true, true, true, true, true, true, true, false, false, false, false, false, false] rfl rfl (by kernel_rfl) (fun _ _ _ h => h) (Or.inl ⟨by rfl, ?_⟩) ?_ ?_
   rotate_left
   ·intro w'
    go_simp
    with_reducible rfl
   rotate_left
   ·simp only [Act.put, List.setIfInBounds_toArray, List.set_cons_zero, List.set_cons_succ, i64_w, i32_w]
    rfl
   refine pure_ (i := 11) (N := some 26) (v := (.bool true)) (a' := ?_) #[true, true, true, true, true, true, true, true, true, true, true, true, false, false, false, false, false] rfl rfl (by kernel_rfl) (fun _ _ _ h => h) (Or.inl ⟨by rfl, ?_⟩) ?_ ?_
   ·intro w'
    first | (go_simp; done) | (go_simp; with_reducible rfl) | (go_simp; simp [*]; done)
   rotate_left
   ·simp only [Act.put, List.setIfInBounds_toArray, List.set_cons_zero, List.set_cons_succ, i64_w, i32_w]
    rfl
   refine pure_ (i := 12) (N := some 27) (v := ?_) (a' := ?_) #[true, true, true, true, true, true, true, true, true, true, true, true, true, false, false, false, false] rfl rfl (by kernel_rfl) (fun _ _ _ h => h) (Or.inl ⟨by rfl, ?_⟩) ?_ ?_
   rotate_left
   ·intro w'
    go_simp
    with_reducible rfl
   rotate_left
   ·simp only [Act.put, List.setIfInBounds_toArray, List.set_cons_zero, List.set_cons_succ, i64_w, i32_w]
    rfl
   refine pure_ (i := 13) (N := some 28) (v := ?_) (a' := ?_) #[true, true, true, true, true, true, true, true, true, true, true, true, true, true, false, false, false] rfl rfl (by kernel_rfl) (fun _ _ _ h => h) (Or.inl ⟨by rfl, ?_⟩) ?_ ?_
   rotate_left
   ·intro w'
    go_simp
    with_reducible rfl
   rotate_left
   ·simp only [Act.put, List.setIfInBounds_toArray, List.set_cons_zero, List.set_cons_succ, i64_w, i32_w]
    rfl
   refine pure_ (i := 14) (N := some 29) (v := undef) (a' := ?_) #[true, true, true, true, true, true, true, true, true, true, true, true, true, true, true, false, false] rfl rfl (by kernel_rfl) (fun _ _ _ h => h) (Or.inr ⟨by rfl, rfl⟩) ?_ ?_
   rotate_left
   ·simp only [Act.put, List.setIfInBounds_toArray, List.set_cons_zero, List.set_cons_succ, i64_w, i32_w]
    rfl
   refine pure_ (i := 15) (N := some 30) (v := undef) (a' := ?_) #[true, true, true, true, true, true, true, true, true, true, true, true, true, true, true, true, false] rfl rfl (by kernel_rfl) (fun _ _ _ h => h) (Or.inr ⟨by rfl, rfl⟩) ?_ ?_
   rotate_left
   ·simp only [Act.put, List.setIfInBounds_toArray, List.set_cons_zero, List.set_cons_succ, i64_w, i32_w]
    rfl
   refine pure_ (i := 16) (N := some 31) (v := ?_) (a' := ?_) #[true, true, true, true, true, true, true, true, true, true, true, true, true, true, true, true, true] rfl rfl (by kernel_rfl) (fun _ _ _ h => h) (Or.inl ⟨by rfl, ?_⟩) ?_ ?_
   rotate_left
   ·intro w'
    go_simp
    with_reducible rfl
   rotate_left
   ·simp only [Act.put, List.setIfInBounds_toArray, List.set_cons_zero, List.set_cons_succ, i64_w, i32_w]
    rfl
   refine done_ (by kernel_rfl) ?_;go_wp2;refine bodyPost_ret (v := .tuple #[.int .i64 0, .bool false]) (by simp [results, Tryd.results29, go_sem]) rfl ?_;exact ⟨rfl, below_step (below_drew hB3) hB4⟩
 ·have h1b : (S.toList == s.toList) = false := beq_eq_false_iff_ne.mpr h1
  rw [if_neg (fun h => h1 (hSe.2 h.1)), decide_eq_false (fun h : Lib.itoa v = s.data.toList ∧ -999999999 ≤ v ∧ v ≤ 999999999 => h1 (hSe.2 h.1))]; clear hSe;go_enter Tryd.func29, Tryd.ntmps29;go_wp2_with (go_at_call 49; refine hz.mono ?_; rintro e w1 ⟨rfl, hB2⟩);have hB3 := below_step hB1 hB2;have hT2 := hT1.below hB2;have hb1 := (hB2.block _ (blk_lt hb0)).trans hb0;have hc1 : w1.cell? ⟨w.heap.size, 1, none⟩ = some (.string s) := bceq hb1 1;have hlt := blk_lt hb1;clear hz hB1 hB2 hT hT1 hb0;have hTd := hT2.below (below_drew (Below.refl w1.heap.size w1));have hcd : w1.drew.cell? ⟨w.heap.size, 1, none⟩ = some (.string s) := hc1;refine start_ (n := 17) (S := fun w' => w'.cell? ⟨w.heap.size, 1, none⟩ = some (.string s)) (ds := []) #[false, false, false, false, false, false, false, false, false, false, false, false, false, false, false, false, false] (by kernel_rfl) rfl rfl hcd (fun hHeld => ?_);refine pure_ (i := 0) (N := some 15) (v := ?_) (a' := ?_) #[true, false, false, false, false, false, false, false, false, false, false, false, false, false, false, false, false] rfl rfl (by kernel_rfl) (fun _ _ _ h => h) (Or.inl ⟨by rfl, ?_⟩) ?_ ?_
  rotate_left
  ·intro w'
   go_simp
   with_reducible rfl
  rotate_left
  ·simp only [Act.put, List.setIfInBounds_toArray, List.set_cons_zero, List.set_cons_succ, i64_w, i32_w]
   rfl
  refine pure_ (i := 1) (N := some 16) (v := ?_) (a' := ?_) #[true, true, false, false, false, false, false, false, false, false, false, false, false, false, false, false, false] rfl rfl (by kernel_rfl) (fun _ _ _ h => h) (Or.inl ⟨by rfl, ?_⟩) ?_ ?_
  rotate_left
  ·intro w'
   go_simp
   with_reducible rfl
  rotate_left
  ·simp only [Act.put, List.setIfInBounds_toArray, List.set_cons_zero, List.set_cons_succ, i64_w, i32_w]
   rfl
  refine pure_ (i := 2) (N := some 17) (v := ?_) (a' := ?_) #[true, true, true, false, false, false, false, false, false, false, false, false, false, false, false, false, false] rfl rfl (by kernel_rfl) (fun _ _ _ h => h) (Or.inl ⟨by rfl, ?_⟩) ?_ ?_
  rotate_left
  ·intro w'
   go_simp
   with_reducible rfl
  rotate_left
  ·simp only [Act.put, List.setIfInBounds_toArray, List.set_cons_zero, List.set_cons_succ, i64_w, i32_w]
   rfl
  refine pure_ (i := 3) (N := some 18) (v := ?_) (a' := ?_) #[true, true, true, true, false, false, false, false, false, false, false, false, false, false, false, false, false] rfl rfl (by kernel_rfl) (fun _ _ _ h => h) (Or.inl ⟨by rfl, ?_⟩) ?_ ?_
  rotate_left
  ·intro w'
   go_simp
   with_reducible rfl
  rotate_left
  ·simp only [Act.put, List.setIfInBounds_toArray, List.set_cons_zero, List.set_cons_succ, i64_w, i32_w]
   rfl
  refine pure_ (i := 5) (N := some 20) (v := ?_) (a' := ?_) #[true, true, true, true, false, true, false, false, false, false, false, false, false, false, false, false, false] rfl rfl (by kernel_rfl) (fun _ _ _ h => h) (Or.inl ⟨by rfl, ?_⟩) ?_ ?_
  rotate_left
  ·intro w'
   go_simp
   with_reducible rfl
  rotate_left
  ·simp only [Act.put, List.setIfInBounds_toArray, List.set_cons_zero, List.set_cons_succ, i64_w, i32_w]
   rfl
  refine take_ (i := 6) (N := some 21) (v := ?_) (a' := ?_) #[true, true, true, true, false, true, true, false, false, false, false, false, false, false, false, false, false] rfl rfl (by kernel_rfl) (fun _ _ _ h => h) (Or.inl ⟨by rfl, ?_⟩) hHeld ?_ ?_
  rotate_left
  ·intro w' s0
   go_simp
   with_reducible rfl
  rotate_left
  ·simp only [Act.put, List.setIfInBounds_toArray, List.set_cons_zero, List.set_cons_succ, i64_w, i32_w]
   rfl
  refine one_ (i := 4) (N := some 19) #[true, true, true, true, true, true, true, false, false, false, false, false, false, false, false, false, false] rfl rfl (by kernel_rfl) (by decide) (fun K hK => ?_);refine goes_ Tryd.func41 (by kernel_rfl) rfl #[.int .i64 v] (by rfl) rfl rfl (by (try simp only [List.map_toArray, List.map_cons, List.map_nil]); first | done | rfl) ?_;refine (hi _ hTd).mono ?_;rintro e w2 ⟨rfl, hB4⟩;refine ⟨_, rfl, ?_⟩;refine hK.out _ _ (bceq ((hB4.block _ hlt).trans hb1) 1) (fun hHeld => ?_);clear hK K;refine norm_ (a' := ?_) ?_ ?_
  rotate_left
  ·show Act.put _ (some 19) _ = _
   simp only [Act.put, List.setIfInBounds_toArray, List.set_cons_zero, List.set_cons_succ, i64_w, i32_w]
   rfl
  refine pure_ (i := 7) (N := some 22) (v := (.bool true)) (a' := ?_) #[true, true, true, true, true, true, true, true, false, false, false, false, false, false, false, false, false] rfl rfl (by kernel_rfl) (fun _ _ _ h => h) (Or.inl ⟨by rfl, ?_⟩) ?_ ?_
  ·intro w'
   first | (go_simp; done) | (go_simp; with_reducible rfl) | (go_simp; simp [*]; done)
  rotate_left
  ·simp only [Act.put, List.setIfInBounds_toArray, List.set_cons_zero, List.set_cons_succ, i64_w, i32_w]
   rfl
  refine pure_ (i := 8) (N := some 23) (v := ?_) (a' := ?_) #[true, true, true, true, true, true, true, true, true, false, false, false, false, false, false, false, false] rfl rfl (by kernel_rfl) (fun _ _ _ h => h) (Or.inl ⟨by rfl, ?_⟩) ?_ ?_
  rotate_left
  ·intro w'
   go_simp
   with_reducible rfl
  rotate_left
  ·simp only [Act.put, List.setIfInBounds_toArray, List.set_cons_zero, List.set_cons_succ, i64_w, i32_w]
   rfl
  refine pure_ (i := 9) (N := some 24) (v := ?_) (a' := ?_) #[true, true, true, true, true, true, true, true, true, true, false, false, false, false, false, false, false] rfl rfl (by kernel_rfl) (fun _ _ _ h => h) (Or.inl ⟨by rfl, ?_⟩) ?_ ?_
  rotate_left
  ·intro w'
   go_simp
   with_reducible rfl
  rotate_left
  ·simp only [Act.put, List.setIfInBounds_toArray, List.set_cons_zero, List.set_cons_succ, i64_w, i32_w]
   rfl
  refine pure_ (i := 10) (N := some 25) (v := undef) (a' := ?_) #[true, true, true, true, true, true, true, true, true, true, true, false, false, false, false, false, false] rfl rfl (by kernel_rfl) (fun _ _ _ h => h) (Or.inr ⟨by rfl, rfl⟩) ?_ ?_
  rotate_left
  ·simp only [Act.put, List.setIfInBounds_toArray, List.set_cons_zero, List.set_cons_succ, i64_w, i32_w]
   rfl
  refine pure_ (i := 11) (N := some 26) (v := undef) (a' := ?_) #[true, true, true, true, true, true, true, true, true, true, true, true, false, false, false, false, false] rfl rfl (by kernel_rfl) (fun _ _ _ h => h) (Or.inr ⟨by rfl, rfl⟩) ?_ ?_
  rotate_left
  ·simp only [Act.put, List.setIfInBounds_toArray, List.set_cons_zero, List.set_cons_succ, i64_w, i32_w]
   rfl
  refine pure_ (i := 12) (N := some 27) (v := ?_) (a' := ?_) #[true, true, true, true, true, true, true, true, true, true, true, true, true, false, false, false, false] rfl rfl (by kernel_rfl) (fun _ _ _ h => h) (Or.inl ⟨by rfl, ?_⟩) ?_ ?_
  rotate_left
  ·intro w'
   go_simp
   with_reducible rfl
  rotate_left
  ·simp only [Act.put, List.setIfInBounds_toArray, List.set_cons_zero, List.set_cons_succ, i64_w, i32_w]
   rfl
  refine pure_ (i := 13) (N := some 28) (v := ?_) (a' := ?_) #[true, true, true, true, true, true, true, true, true, true, true, true, true, true, false, false, false] rfl rfl (by kernel_rfl) (fun _ _ _ h => h) (Or.inl ⟨by rfl, ?_⟩) ?_ ?_
  rotate_left
  ·intro w'
   go_simp
   with_reducible rfl
  rotate_left
  ·simp only [Act.put, List.setIfInBounds_toArray, List.set_cons_zero, List.set_cons_succ, i64_w, i32_w]
   rfl
  refine pure_ (i := 14) (N := some 29) (v := undef) (a' := ?_) #[true, true, true, true, true, true, true, true, true, true, true, true, true, true, true, false, false] rfl rfl (by kernel_rfl) (fun _ _ _ h => h) (Or.inr ⟨by rfl, rfl⟩) ?_ ?_
  rotate_left
  ·simp only [Act.put, List.setIfInBounds_toArray, List.set_cons_zero, List.set_cons_succ, i64_w, i32_w]
   rfl
  refine pure_ (i := 15) (N := some 30) (v := undef) (a' := ?_) #[true, true, true, true, true, true, true, true, true, true, true, true, true, true, true, true, false] rfl rfl (by kernel_rfl) (fun _ _ _ h => h) (Or.inr ⟨by rfl, rfl⟩) ?_ ?_
  rotate_left
  ·simp only [Act.put, List.setIfInBounds_toArray, List.set_cons_zero, List.set_cons_succ, i64_w, i32_w]
   rfl
  refine pure_ (i := 16) (N := some 31) (v := ?_) (a' := ?_) #[true, true, true, true, true, true, true, true, true, true, true, true, true, true, true, true, true] rfl rfl (by kernel_rfl) (fun _ _ _ h => h) (Or.inl ⟨by rfl, ?_⟩) ?_ ?_
  rotate_left
  ·intro w'
   go_simp
   with_reducible rfl
  rotate_left
  ·simp only [Act.put, List.setIfInBounds_toArray, List.set_cons_zero, List.set_cons_succ, i64_w, i32_w]
   rfl
  refine done_ (by kernel_rfl) ?_;go_wp2;refine bodyPost_ret (v := .tuple #[.int .i64 0, .bool false]) (by simp [results, Tryd.results29, go_sem]) rfl ?_;exact ⟨rfl, below_step (below_drew hB3) hB4⟩
theorem json_Int.calls (a0_0 : Int) (a0_1 : ByteArray) (A0_2 : Option Addr) (c0_2 : Nat) (l0_2 : List ByteArray) (A0_3 : Option Addr) (c0_3 : Nat) (l0_3 : List S27) (r1 : Int) (r2 : Bool) (w : World) (hr0_2 : Kd.C Kd.string w A0_2 l0_2.length l0_2) (hc0_2 : l0_2.length ≤ c0_2) (hr0_3 : Kd.C k27 w A0_3 l0_3.length l0_3) (hc0_3 : l0_3.length ≤ c0_3) (h : json_Int.f a0_0 a0_1 l0_2 l0_3 = some (r1, r2)) (hT : TabOk w) :
  Calls Tryd.prog 29 #[.agg #[.int .i64 a0_0, .string a0_1, .slice A0_2 l0_2.length c0_2, .slice A0_3 l0_3.length c0_3]] w fun e w' => e = .returned (.tuple #[.int .i64 r1, .bool r2]) ∧ Below w.heap.size w w' := by
 unfold json_Int.f at h
 split at h
 case isFalse => cases h
 rename_i hs
 have h := Option.some.inj h;by_cases hk : a0_0 = 3
 ·subst hk
  rw [if_pos rfl] at h;unfold intT at h
  rcases ha : Lib.atoiAll a0_1.data.toList with v | _ | _
  ·rw [ha] at h
   have := int_ok a0_1 hs (.slice A0_2 l0_2.length c0_2) (.slice A0_3 l0_3.length c0_3) w hT v ha
   dsimp only at h
   split at h
   ·rename_i hc
    rw [if_pos hc, decide_eq_true hc] at this;cases h;exact this
   ·rename_i hc
    rw [if_neg hc, decide_eq_false hc] at this;cases h;exact this
  ·rw [ha] at h; cases h; exact int_err a0_1 hs _ _ w hT (fun v e => by rw [ha] at e; cases e)
  ·rw [ha] at h; cases h; exact int_err a0_1 hs _ _ w hT (fun v e => by rw [ha] at e; cases e)
 ·rw [if_neg hk] at h
  cases h;exact int_no a0_0 hk a0_1 _ _ w
end Go.Proofs.YteighppcdpaekaaDoor.P
end
section
namespace Go.Proofs.YteighppcdpaekaaDoor.laidFive
open Go.ChangeShapes Go.WideShapes Go.ChangeAt Go.RowKit Go.Proofs.YteighppcdpaekaaDoorW.PrintWords Go.Proofs.YteighppcdpaekaaDoor.P
set_option linter.unusedVariables false
set_option maxRecDepth 100000
def five : List (String × DataW Unit) := [("math/bits.deBruijn32tab", Rows.laid_math_bits_deBruijn32tab), ("math/bits.deBruijn64tab", Rows.laid_math_bits_deBruijn64tab), ("internal/strconv.uint64pow10", Rows.laid_internal_strconv_uint64pow10), ("strconv.ErrRange", Rows.laid_strconv_ErrRange), ("strconv.ErrSyntax", Rows.laid_strconv_ErrSyntax)]
theorem gTab : Tryd.prog.globalNamed "internal/strconv.uint64pow10" = some 2 := by kernel_rfl
theorem gTabType : (Tryd.prog.globals[2]?).map (·.type) = some 166 := by kernel_rfl
theorem cells150 : Tryd.prog.cellsOf 150 = 1 := by kernel_rfl
theorem gES : Tryd.prog.globalNamed "strconv.ErrSyntax" = some 0 := by kernel_rfl
theorem gESType : (Tryd.prog.globals[0]?).map (·.type) = some 102 := by kernel_rfl
theorem gER : Tryd.prog.globalNamed "strconv.ErrRange" = some 1 := by kernel_rfl
theorem gERType : (Tryd.prog.globals[1]?).map (·.type) = some 102 := by kernel_rfl
theorem star : "*" ++ "errors.errorString" = "*errors.errorString" := by decide
theorem row172 (u : TypeId) (h : Tryd.prog.typeName? 3 u = some "*errors.errorString") : u = 172 :=
 typeName_ptr_named (nm := "errors.errorString") (by rw [star]; kernel_rfl) (by kernel_rfl) (by decide) u (by rw [star]; exact h)
theorem cells174 : Tryd.prog.cellsOf 174 = 1 := by kernel_rfl
theorem cells9 : Tryd.prog.cellsOf 9 = 1 := by kernel_rfl
theorem tabs {W : World} (h : laidMetH Tryd.prog five W) : TabOk W := by
 have hm : laidMet Tryd.prog five W := by rw [← MakeChecks.laidMetH_plain Tryd.prog five W (by kernel_rfl)]; exact h
 have h3 : laidMet Tryd.prog [("internal/strconv.uint64pow10", Rows.laid_internal_strconv_uint64pow10), ("strconv.ErrRange", Rows.laid_strconv_ErrRange), ("strconv.ErrSyntax", Rows.laid_strconv_ErrSyntax)] W := hm.tail.tail;obtain ⟨a1, s1, hv1, -, -, -⟩ := laid_sentinel h3.tail gER gERType Tryd.underlying102 row172 Tryd.underlying172 Tryd.underlying174 rfl rfl Tryd.underlying9 cells174 cells9;obtain ⟨a0, s0, hv0, -, -, -⟩ := laid_sentinel h3.tail.tail gES gESType Tryd.underlying102 row172 Tryd.underlying172 Tryd.underlying174 rfl rfl Tryd.underlying9 cells174 cells9;refine ⟨?_, ⟨_, _, hv0⟩, ⟨_, _, hv1⟩⟩;exact Lib.tabIs_of_head (rest := _) gTab gTabType Tryd.underlying166 Tryd.underlying150 cells150 (by kernel_rfl) h3
def lits {H : Type} : DataW H → List Value
 | .agg l => l.map fun d => match d with
  | .lit (.int k z) => .int k z
  | _ => undef
 | _ => []
def putTab (h : Array Obj) (i : Nat) (cs : List Value) : Array Obj := h.modify i fun
 | .cells _ t frozen => .cells cs.toArray t frozen
 | o => o
def synS : ByteArray := { data := #[105, 110, 118, 97, 108, 105, 100, 32, 115, 121, 110, 116, 97, 120] }
def rngS : ByteArray := { data := #[118, 97, 108, 117, 101, 32, 111, 117, 116, 32, 111, 102, 32, 114, 97, 110, 103, 101] }
noncomputable def low : Nat := (World.holding Tryd.prog default ⟨#[], #[], []⟩).heap.size
noncomputable def laidWorld (os : Os) : World :=
 let w0 := World.holding Tryd.prog os ⟨#[.cells #[.string synS] 174, .cells #[.string rngS] 174], #[], []⟩
 { w0 with heap := putTab (putTab (putTab (putTab (putTab w0.heap 2 (lits (H := Unit) Rows.laid_internal_strconv_uint64pow10)) 3 (lits (H := Unit) Rows.laid_math_bits_deBruijn32tab)) 4 (lits (H := Unit) Rows.laid_math_bits_deBruijn64tab)) 0 [.iface 172 (.pointer (some ⟨low, 0, none⟩))]) 1 [.iface 172 (.pointer (some ⟨low + 1, 0, none⟩))] }
end Go.Proofs.YteighppcdpaekaaDoor.laidFive
end
section
namespace Go.Proofs.YteighppcdpaekaaDoor.P
open Go.RowKit Go.Proofs.YteighppcdpaekaaDoorW.PrintWords Go.Proofs.YteighppcdpaekaaDoorW.PrintLast Go.Proofs.YteighppcdpaekaaDoorW.PrintMore
structure UpP where
 p : World → Prop
 up : ∀ W W' : World, p W → Below W.heap.size W W' → p W'
def Ctx : List UpP → World → Prop
 | [], _ => True
 | u :: l, W => u.p W ∧ Ctx l W
theorem Ctx.below {W W' : World} (hb : Below W.heap.size W W') : ∀ {l : List UpP}, Ctx l W → Ctx l W'
 | [], _ => trivial
 | u :: _, h => ⟨u.up W W' h.1 hb, Ctx.below hb h.2⟩
theorem Ctx.alloc {W : World} {l : List UpP} (h : Ctx l W) (o : Obj) : Ctx l (W.alloc o) := h.below (bal (Below.refl _ _) o)
theorem Ctx.drew {W : World} {l : List UpP} (h : Ctx l W) : Ctx l W.drew := h.below (below_drew (Below.refl _ _))
theorem Ctx.drewN {W : World} {l : List UpP} (h : Ctx l W) (n : Nat) : Ctx l (W.drewN n) := h.below (pbdN (Below.refl _ _) n)
theorem Ctx.cons {W : World} {l : List UpP} (u : UpP) (h1 : u.p W) (h : Ctx l W) : Ctx (u :: l) W := ⟨h1, h⟩
def uBlk (g : Nat) (cs : List Value) (t : Nat) : UpP := ⟨fun W => W.heap[g]? = some (.cells cs.toArray t (0, 0)), fun W W' h hb => by
 have hlt : g < W.heap.size := (Array.getElem?_eq_some_iff.1 h).1
 rw [hb.block g hlt]; exact h⟩
def uTab : UpP := ⟨TabOk, fun _ _ h hb => h.below hb⟩
def uV {α : Type} (d : Kd α) (e base : Nat) (v : Value) (xs : List α) : UpP := ⟨fun W => Kd.V d e W base (fun k => base ≤ k) v xs, fun _ _ h hb => Kd.V_below h hb⟩
def uC {α : Type} (d : Kd α) (A : Option Addr) (n : Nat) (xs : List α) : UpP := ⟨fun W => Kd.C d W A n xs, fun _ _ h hb => Kd.C_below h hb⟩
def uB (w : World) : UpP := ⟨fun W => Below w.heap.size w W, fun _ _ h hb => below_step h hb⟩
theorem Ctx.blk {W : World} {g : Nat} {cs : List Value} {t : Nat} (h : (uBlk g cs t).p W) (i : Nat) {v : Value} (hv : cs[i]? = some v) : W.cell? ⟨g, i, none⟩ = some v := by
 have h' : W.heap[g]? = some (.cells cs.toArray t (0, 0)) := h
 simp [World.cell?, h', hv]
theorem Ctx.frz {W : World} {g : Nat} {cs : List Value} {t : Nat} (h : (uBlk g cs t).p W) (i : Nat) : W.frozen? ⟨g, i, none⟩ = false := by
 have h' : W.heap[g]? = some (.cells cs.toArray t (0, 0)) := h
 simp [World.frozen?, h']
theorem Ctx.new {W : World} {l : List UpP} {cs : List Value} {t : Nat} (h : Ctx l W) : Ctx (uBlk W.heap.size cs t :: l) (W.alloc (.cells cs.toArray t (0, 0))) :=
 ⟨by show (W.alloc _).heap[W.heap.size]? = _; exact blk_new W _, h.alloc _⟩
end Go.Proofs.YteighppcdpaekaaDoor.P
namespace Go.Proofs.YteighppcdpaekaaDoor.P
open Go.RowKit
theorem absW {P : Program} {c : Code} {Q : Exit → Act → World → Prop} {a : Act} {W : World} (l : List UpP) (h : Ctx l W) (hk : ∀ W', Ctx l W' → c.wp P Q a W') : c.wp P Q a W := hk W h
theorem Ctx.ne {W : World} {g g' t t' : Nat} {cs cs' : List Value} (h : (uBlk g cs t).p W) (h' : (uBlk g' cs' t').p W) (ht : t ≠ t') : g ≠ g' := by
 rintro rfl;have e := Option.some.inj ((show W.heap[g]? = _ from h).symm.trans h')
 injection e with _ e
 exact ht e
end Go.Proofs.YteighppcdpaekaaDoor.P
namespace Go.Proofs.YteighppcdpaekaaDoor.P
open Go.RowKit Go.Proofs.YteighppcdpaekaaDoorW.PrintWords
theorem absB {P : Program} {fn : Func} {R : Ending → World → Prop} {e : Exit} {a : Act} {W : World} (l : List UpP) (h : Ctx l W) (hk : ∀ W', Ctx l W' → bodyPost P fn R e a W') : bodyPost P fn R e a W := hk W h
theorem Ctx.put {W : World} {g t : Nat} {cs : List Value} (h : (uBlk g cs t).p W) (i : Nat) (v : Value) : (uBlk g (cs.set i v) t).p (W.setCell ⟨g, i, none⟩ v) := by
 have h' : W.heap[g]? = some (.cells cs.toArray t (0, 0)) := h;exact blk_put h' i v (by simp)
theorem Ctx.far {W : World} {g g' t : Nat} {cs : List Value} (h : (uBlk g cs t).p W) (i : Nat) (v : Value) (hn : g ≠ g') : (uBlk g cs t).p (W.setCell ⟨g', i, none⟩ v) := by
 have h' : W.heap[g]? = some (.cells cs.toArray t (0, 0)) := h;exact blk_far h' hn v
end Go.Proofs.YteighppcdpaekaaDoor.P
namespace Go.Proofs.YteighppcdpaekaaDoor.P
open Go.RowKit Go.Proofs.YteighppcdpaekaaDoorW.PrintWords
theorem results_cct {P : Program} {fn : Func} {p p' u : Tmp} {ty ty' : TypeId} (h : fn.results = #[.cell p ty, .cell p' ty', .tmp u]) (tmps : Array Value) (w : World) (g g' : Nat) (t t' : TypeId) (cs cs' : Array Value) (fr fr' : Nat × Nat) (d d' : TypeDesc) (v : Value)
  (hp : tmps.getD p undef = .pointer (some ⟨g, 0, none⟩)) (hg : w.heap[g]? = some (.cells cs t fr))
  (hu : P.underlying ty = some d) (hd : (match d with | .struct _ | .array _ _ => true | _ => false) = true) (hi : (P.info? ty).map (·.size) = some cs.size)
  (hp' : tmps.getD p' undef = .pointer (some ⟨g', 0, none⟩)) (hg' : w.heap[g']? = some (.cells cs' t' fr'))
  (hu' : P.underlying ty' = some d') (hd' : (match d' with | .struct _ | .array _ _ => true | _ => false) = true) (hi' : (P.info? ty').map (·.size) = some cs'.size) (hv : tmps.getD u undef = v) :
  (results fn tmps).run P w = .ok (.tuple #[.agg cs, .agg cs', v]) w := by
 have h1 : tmps[p]?.getD undef = .pointer (some ⟨g, 0, none⟩) := by simpa using hp
 have h2 : tmps[p']?.getD undef = .pointer (some ⟨g', 0, none⟩) := by simpa using hp'
 have h3 : tmps[u]?.getD undef = v := by simpa using hv
 simp [results, h, h1, h2, h3, asAddr, run_loadVar_row w g t ty cs fr d hg hu hd hi, run_loadVar_row w g' t' ty' cs' fr' d' hg' hu' hd' hi']
end Go.Proofs.YteighppcdpaekaaDoor.P
namespace Go.Proofs.YteighppcdpaekaaDoor.P
open Go.RowKit Go.Proofs.YteighppcdpaekaaDoorW.PrintWords
theorem vC {α : Type} {d : Kd α} {e base n c : Nat} {A : Option Addr} {xs : List α} {W : World} (h : (uV d e base (.slice A n c) xs).p W) : Kd.C d W A n xs := by
 have h2 := Kd.V_reads' (base := base) (e := e) h;obtain rfl := h2.1;exact h2.2.2
theorem vle {α : Type} {d : Kd α} {e base n c : Nat} {A : Option Addr} {xs : List α} {W : World} (h : (uV d e base (.slice A n c) xs).p W) : n ≤ c := (Kd.V_reads' (base := base) (e := e) h).2.1
theorem vR {α : Type} {d : Kd α} {e base b : Nat} {ok : Nat → Prop} {v : Value} {xs : List α} {W : World} (h : Kd.R d e W b ok v xs) (hb : base ≤ b) : (uV d e base v xs).p W :=
 Kd.V_mono (Kd.R_V (base' := base) (Kd.R_bound h)) (fun _ hk => Nat.le_trans hb hk.2.1)
theorem vV {α : Type} {d : Kd α} {e base b m : Nat} {v : Value} {xs : List α} {W : World} (h : Kd.V d e W b (fun k => base ≤ k ∨ m ≤ k) v xs) (hb : base ≤ m) : (uV d e base v xs).p W :=
 Kd.V_mono (show Kd.V d e W base _ v xs from h) (fun _ hk => hk.elim id (Nat.le_trans hb))
theorem vfar {α : Type} {d : Kd α} {e base g i : Nat} {v : Value} {xs : List α} {W : World} (h : (uV d e base v xs).p W) (u : Value) (hg : g < base) : (uV d e base v xs).p (W.setCell ⟨g, i, none⟩ u) :=
 Kd.V_far (p := ⟨g, i, none⟩) (show Kd.V d e W base _ v xs from h) (fun k hk => fun he => Nat.lt_irrefl k (Nat.lt_of_lt_of_le (he ▸ hg) hk)) u
theorem vT {α : Type} {d : Kd α} {e base : Nat} {v : Value} {xs : List α} {W : World} (h : (uV d e base v xs).p W) : Kd.V d e W 0 (fun _ => True) v xs := Kd.V_mono (show Kd.V d e W 0 _ v xs from h) (fun _ _ => trivial)
end Go.Proofs.YteighppcdpaekaaDoor.P
namespace Go.Proofs.YteighppcdpaekaaDoor.P
open Go.RowKit Go.Proofs.YteighppcdpaekaaDoorW.PrintWords
theorem Ctx.ne' {W : World} {g g' t t' : Nat} {cs cs' : List Value} (h : (uBlk g cs t).p W) (h' : (uBlk g' cs' t').p W) (hc : cs ≠ cs') : g ≠ g' := by
 rintro rfl;have e := Option.some.inj ((show W.heap[g]? = _ from h).symm.trans h')
 injection e with e _
 exact hc (by simpa using e)
end Go.Proofs.YteighppcdpaekaaDoor.P
namespace Go.Proofs.YteighppcdpaekaaDoor.P
theorem Ctx.nil {W : World} : Ctx [] W := True.intro
end Go.Proofs.YteighppcdpaekaaDoor.P
end
section
namespace Go.Proofs.YteighppcdpaekaaDoor.P
open Go.RowKit Go.Proofs.YteighppcdpaekaaDoorW.PrintWords Go.Proofs.YteighppcdpaekaaDoorW.PrintLast Go.Proofs.YteighppcdpaekaaDoorW.PrintMore
set_option linter.unusedVariables false
set_option linter.unusedSimpArgs false
def getT {S : Type} (key : ByteArray) : List ByteArray → List S → Option S
 | k :: ks, x :: xs => if k.toList = key.toList then some x else getT key ks xs
 | _, _ => none
theorem key_at0 {W : World} {A : Option Addr} {n : Nat} {ks : List ByteArray} (h : Kd.string.C W A n ks) {i : Nat} (hi : i < ks.length) : ∃ ad, A = some ad ∧ W.cell? (ad.add i) = some (.string ks[i]) := by
 obtain ⟨ad, c, e, _, hK, hc⟩ := Kd.C_get h ⟨#[]⟩ (i : Int) (by omega) (by have := h.1; omega);obtain rfl : c = [.string (ks.getD i ⟨#[]⟩)] := hK;refine ⟨ad, e, ?_⟩;have := hc 0 _ rfl;rw [Int.toNat_natCast, show ks.getD i ⟨#[]⟩ = ks[i] by simp [hi]] at this
 simpa [Kd.string, Kd.scalar] using this
def json_Get.o (a0 : Int) (l2 : List ByteArray) (l3 : List S27) (key : ByteArray) : Option S27 := if a0 = 6 ∧ l2.length = l3.length then getT key l2 l3 else none
def json_Get.f (_ : Nat) (a0 : Int) (_ : ByteArray) (l2 : List ByteArray) (l3 : List S27) (key : ByteArray) : Option (Int × ByteArray × List ByteArray × List S27 × Bool) :=
 some (match json_Get.o a0 l2 l3 key with | some x => (x.f0, x.f1, x.f2, x.f3, true) | none => (0, ⟨#[]⟩, [], [], false))
theorem json_Get.fin {w W : World} {a0 a1 a2 a3 : Value} {B2 B3 : Option Addr} {m2 m3 : Nat} {t2 : List ByteArray} {t3 : List S27} {P : Nat → Prop} (h : Ctx [uBlk (w.heap.size + 1) [.int .i64 0, .string ⟨#[]⟩, .slice none 0 0, .slice none 0 0] 27, uBlk w.heap.size [a0, a1, a2, a3] 27, uB w] W) (z0 : Int) (z1 : ByteArray)
  (h2 : Kd.V Kd.string 9 W 0 (fun k => P k ∧ k < w.heap.size) (.slice B2 t2.length m2) t2) (h3 : Kd.V k27 27 W 0 (fun k => P k ∧ k < w.heap.size) (.slice B3 t3.length m3) t3) (wf : World) (hw : wf = (((W.setCell ⟨w.heap.size + 1, 0, none⟩ (.int .i64 z0)).setCell ⟨w.heap.size + 1, 1, none⟩ (.string z1)).setCell ⟨w.heap.size + 1, 2, none⟩ (.slice B2 t2.length m2)).setCell ⟨w.heap.size + 1, 3, none⟩ (.slice B3 t3.length m3)) :
  (Kd.V Kd.string 9 wf w.heap.size (fun k => P k ∨ w.heap.size ≤ k) (.slice B2 t2.length m2) t2 ∧ Kd.V k27 27 wf w.heap.size (fun k => P k ∨ w.heap.size ≤ k) (.slice B3 t3.length m3) t3 ∧ Below w.heap.size w wf) ∧
  wf.cell? ⟨w.heap.size + 1, 0, none⟩ = some (.int .i64 z0) ∧ wf.cell? ⟨w.heap.size + 1, 1, none⟩ = some (.string z1) ∧ wf.cell? ⟨w.heap.size + 1, 2, none⟩ = some (.slice B2 t2.length m2) ∧ wf.cell? ⟨w.heap.size + 1, 3, none⟩ = some (.slice B3 t3.length m3) := by
 subst hw;obtain ⟨b2, b1, hB, _⟩ := h;have hp := Ctx.put (Ctx.put (Ctx.put (Ctx.put b2 0 (.int .i64 z0)) 1 (.string z1)) 2 (.slice B2 t2.length m2)) 3 (.slice B3 t3.length m3);have hg := Nat.le_succ w.heap.size
 have hne : ∀ k, P k ∧ k < w.heap.size → k ≠ w.heap.size + 1 := fun k hk => by omega
 refine ⟨⟨?_, ?_, bstq (bstq (bstq (bstq hB hg) hg) hg) hg⟩, Ctx.blk hp 0 rfl, Ctx.blk hp 1 rfl, Ctx.blk hp 2 rfl, Ctx.blk hp 3 rfl⟩
 ·exact Kd.V_mono (Kd.V_far (p := ⟨w.heap.size + 1, 3, none⟩) (Kd.V_far (p := ⟨w.heap.size + 1, 2, none⟩) (Kd.V_far (p := ⟨w.heap.size + 1, 1, none⟩) (Kd.V_far (p := ⟨w.heap.size + 1, 0, none⟩) h2 hne _) hne _) hne _) hne _) (fun k hk => .inl hk.1)
 ·exact Kd.V_mono (Kd.V_far (p := ⟨w.heap.size + 1, 3, none⟩) (Kd.V_far (p := ⟨w.heap.size + 1, 2, none⟩) (Kd.V_far (p := ⟨w.heap.size + 1, 1, none⟩) (Kd.V_far (p := ⟨w.heap.size + 1, 0, none⟩) h3 hne _) hne _) hne _) hne _) (fun k hk => .inl hk.1)
set_option maxRecDepth 100000 in
set_option maxHeartbeats 6400000 in
theorem json_Get.calls (k : Nat) (a0 : Int) (a1 : ByteArray) (A2 : Option Addr) (c2 : Nat) (l2 : List ByteArray) (P : Nat → Prop) (A3 : Option Addr) (c3 : Nat) (l3 : List S27) (key : ByteArray) (r1 : Int) (r2 : ByteArray) (r3 : List ByteArray) (r4 : List S27) (r5 : Bool) (w : World) (h2 : Kd.C Kd.string w A2 l2.length l2) (_ : l2.length ≤ c2) (h3 : Kd.V k27 27 w w.heap.size (fun k => P k) (.slice A3 l3.length c3) l3) (h : json_Get.f k a0 a1 l2 l3 key = some (r1, r2, r3, r4, r5)) :
  Calls Tryd.prog 26 #[.agg #[.int .i64 a0, .string a1, .slice A2 l2.length c2, .slice A3 l3.length c3], .string key] w fun e w' => ∃ v2 v3 : Value, e = .returned (.tuple #[.agg #[.int .i64 r1, .string r2, v2, v3], .bool r5]) ∧ Kd.V Kd.string 9 w' w.heap.size (fun k => P k ∨ w.heap.size ≤ k) v2 r3 ∧ Kd.V k27 27 w' w.heap.size (fun k => P k ∨ w.heap.size ≤ k) v3 r4 ∧ Below w.heap.size w w' := by
 have H := Sdq.mk (Option.some.inj h);have H2 := Sdq.mk h2;have H3 := Sdq.mk (show Kd.V k27 27 w 0 (fun k => P k ∧ k < w.heap.size) _ _ from Kd.V_bound h3);have N2 : Sdq (l2.length ≤ 9223372036854775807) := Sdq.mk h2.2.1
 have hl3 : (l3.length : Int) ≤ 9223372036854775807 := by have := (Kd.V_reads' h3).2.2.2.1; omega
 have K := Sdq.mk (show Ctx [uBlk (w.heap.size + 1) [.int .i64 0, .string ⟨#[]⟩, .slice none 0 0, .slice none 0 0] 27, uBlk w.heap.size [.int .i64 a0, .string a1, .slice A2 l2.length c2, .slice A3 l3.length c3] 27, uB w] ((w.alloc (.cells #[.int .i64 a0, .string a1, .slice A2 l2.length c2, .slice A3 l3.length c3] 27 (0, 0))).alloc (.cells #[.int .i64 0, .string ⟨#[]⟩, .slice none 0 0, .slice none 0 0] 27 (0, 0))) from by
  have e := Ctx.new (cs := [.int .i64 0, .string ⟨#[]⟩, .slice none 0 0, .slice none 0 0]) (t := 27) (Ctx.new (cs := [.int .i64 a0, .string a1, .slice A2 l2.length c2, .slice A3 l3.length c3]) (t := 27) (Ctx.cons (uB w) (Below.refl _ _) (Ctx.nil)))
  simpa using e)
 clear h h2 h3;go_enter Tryd.func26, Tryd.ntmps26
 go_upto_region 1 with fail
 refine absW _ K.out ?_;clear K;intro w1 K;have K := Sdq.mk K
 obtain ⟨y0, y1, y2, y3⟩ : w1.cell? ⟨w.heap.size + 1, 0, none⟩ = some (.int .i64 0) ∧ w1.cell? ⟨w.heap.size + 1, 1, none⟩ = some (.string ⟨#[]⟩) ∧ w1.cell? ⟨w.heap.size + 1, 2, none⟩ = some (.slice none 0 0) ∧ w1.cell? ⟨w.heap.size + 1, 3, none⟩ = some (.slice none 0 0) := ⟨Ctx.blk K.out.1 0 rfl, Ctx.blk K.out.1 1 rfl, Ctx.blk K.out.1 2 rfl, Ctx.blk K.out.1 3 rfl⟩
 obtain ⟨x0, x2, x3⟩ : w1.cell? ⟨w.heap.size, 0, none⟩ = some (.int .i64 a0) ∧ w1.cell? ⟨w.heap.size, 2, none⟩ = some (.slice A2 l2.length c2) ∧ w1.cell? ⟨w.heap.size, 3, none⟩ = some (.slice A3 l3.length c3) := ⟨Ctx.blk K.out.2.1 0 rfl, Ctx.blk K.out.2.1 2 rfl, Ctx.blk K.out.2.1 3 rfl⟩
 have f0 := Ctx.frz K.out.1 0;have f1 := Ctx.frz K.out.1 1;have f2 := Ctx.frz K.out.1 2;have f3 := Ctx.frz K.out.1 3;have H2 := Sdq.mk (Kd.C_below H2.out K.out.2.2.1);have H3 := Sdq.mk (Kd.V_below H3.out K.out.2.2.1);have NO := json_Get.fin (t2 := []) (t3 := []) (B2 := none) (B3 := none) (m2 := 0) (m3 := 0) (P := P) K.out 0 ⟨#[]⟩ (Kd.V_nil _ _ _ _ _) (Kd.V_nil _ _ _ _ _) _ rfl;simp only [List.length_nil] at NO;have NO := Sdq.mk NO
 have none_ : ∀ (hg : json_Get.o a0 l2 l3 key = none), Sdq ((0, ⟨#[]⟩, [], [], false) = (r1, r2, r3, r4, r5)) := fun hg => by
  have := H.out;rw [hg] at this;exact ⟨this⟩
 by_cases h6 : a0 = 6
 case neg =>
  have no := none_ (by unfold json_Get.o; rw [if_neg (fun h => h6 h.1)]);clear none_ H
  go_wp2_with fail
  have F := NO.out;clear NO x0 x2 x3 y0 y1 y2 y3 f0 f1 f2 f3 K H2 H3;generalize World.setCell _ _ _ = wf at F ⊢;obtain ⟨⟨V2, V3, fb⟩, e0, e1, e2, e3⟩ := F
  obtain ⟨rfl, rfl, rfl, rfl, rfl⟩ := (by simpa using no.out : 0 = r1 ∧ ⟨#[]⟩ = r2 ∧ [] = r3 ∧ [] = r4 ∧ false = r5)
  exact bodyPost_ret (v := .tuple #[.agg #[.int .i64 0, .string ⟨#[]⟩, .slice none 0 0, .slice none 0 0], .bool false]) (by simp [results, Tryd.results26, go_sem, e0, e1, e2, e3]) rfl ⟨_, _, rfl, V2, V3, fb⟩
 subst h6;by_cases hll : l2.length = l3.length
 case neg =>
  have no := none_ (by unfold json_Get.o; rw [if_neg (fun h => hll h.2)]);clear none_ H
  have hll' : ¬ (l2.length : Int) = (l3.length : Int) := by omega
  go_wp2_with fail
  have F := NO.out;clear NO x0 x2 x3 y0 y1 y2 y3 f0 f1 f2 f3 K H2 H3;generalize World.setCell _ _ _ = wf at F ⊢;obtain ⟨⟨V2, V3, fb⟩, e0, e1, e2, e3⟩ := F
  obtain ⟨rfl, rfl, rfl, rfl, rfl⟩ := (by simpa using no.out : 0 = r1 ∧ ⟨#[]⟩ = r2 ∧ [] = r3 ∧ [] = r4 ∧ false = r5)
  exact bodyPost_ret (v := .tuple #[.agg #[.int .i64 0, .string ⟨#[]⟩, .slice none 0 0, .slice none 0 0], .bool false]) (by simp [results, Tryd.results26, go_sem, e0, e1, e2, e3]) rfl ⟨_, _, rfl, V2, V3, fb⟩
 have hll' : (l2.length : Int) = (l3.length : Int) := by omega
 have none_ : ∀ (hg : getT key l2 l3 = none), Sdq ((0, ⟨#[]⟩, [], [], false) = (r1, r2, r3, r4, r5)) := fun hg => none_ (by unfold json_Get.o; rw [if_pos ⟨rfl, hll⟩]; exact hg)
 have some_ : ∀ x (hg : getT key l2 l3 = some x), Sdq ((x.f0, x.f1, x.f2, x.f3, true) = (r1, r2, r3, r4, r5)) := fun x hg => by
  have := H.out;rw [show json_Get.o 6 l2 l3 key = some x by unfold json_Get.o; rw [if_pos ⟨rfl, hll⟩]; exact hg] at this;exact ⟨this⟩
 have none_ := Sdq.mk none_;have some_ := Sdq.mk some_;clear H;have HL := Sdq.mk hll;clear hll
 go_wp2_with fail
 go_loopg [23] l2.length (fun kq s4 wc => ∃ i : Nat, s4 = .int .i64 (i : Int) ∧ kq + i = l2.length ∧ Sdq (getT key l2 l3 = getT key (l2.drop i) (l3.drop i)) ∧ wc = w1)
 case atStart => exact ⟨0, rfl, by omega, ⟨rfl⟩, rfl⟩
 case round =>
  obtain ⟨i, rfl, hi, HG, rfl⟩ := hrel
  cases gk with
  | zero =>
   have hg := HG.out;rw [show l2.drop i = [] from List.drop_eq_nil_of_le (by omega)] at hg;have no := none_.out hg;clear none_ some_ hg HG
   go_wp2_with fail
   have F := NO.out;clear NO x0 x2 x3 y0 y1 y2 y3 f0 f1 f2 f3 K H2 H3;generalize World.setCell _ _ _ = wf at F ⊢;obtain ⟨⟨V2, V3, fb⟩, e0, e1, e2, e3⟩ := F
   obtain ⟨rfl, rfl, rfl, rfl, rfl⟩ := (by simpa using no.out : 0 = r1 ∧ ⟨#[]⟩ = r2 ∧ [] = r3 ∧ [] = r4 ∧ false = r5)
   exact bodyPost_ret (v := .tuple #[.agg #[.int .i64 0, .string ⟨#[]⟩, .slice none 0 0, .slice none 0 0], .bool false]) (by simp [results, Tryd.results26, go_sem, e0, e1, e2, e3]) rfl ⟨_, _, rfl, V2, V3, fb⟩
  | succ gk =>
   have hlt : i < l2.length := by omega
   have hlt3 : i < l3.length := by have := HL.out; omega
   have hiz : (i : Int) < (l2.length : Int) := by omega
   have hiz3 : (i : Int) < (l3.length : Int) := by omega
   have hw1 : wrap64 ((i : Int) + 1) = ((i + 1 : Nat) : Int) := by have := N2.out; unfold wrap64; omega
   obtain ⟨ad, hA, hkey⟩ := key_at0 H2.out hlt;subst hA;have hg := HG.out;clear HG;rw [List.drop_eq_getElem_cons hlt, List.drop_eq_getElem_cons hlt3, getT] at hg;by_cases hc : (l2[i]).toList = key.toList
   ·rw [if_pos hc] at hg
    have hcb : ((l2[i]).toList == key.toList) = true := beq_iff_eq.2 hc;have yes := some_.out _ hg;clear none_ some_ hg
    have q0 : (0 : Int) ≤ (i : Int) := by omega
    obtain ⟨ad3, B2, d2, B3, d3, rfl, g0, g1, g2, g3, -, -, -, -⟩ := at_T27 (Kd.V_reads' H3.out).2.2 (i : Int) q0 hiz3;obtain ⟨ce, -, hF, hcc⟩ := Kd.V_get H3.out z27 (i : Int) q0 hiz3;obtain ⟨C2, e2, C3, e3, rfl, k2, F2, k3, F3⟩ := k27_openF hF;have j2 := hcc 2 _ rfl;have j3 := hcc 3 _ rfl;rw [add_field _ _ 2 (by omega)] at j2;rw [add_field _ _ 3 (by omega)] at j3
    injection Option.some.inj (j2.symm.trans g2) with p1 _ p2
    injection Option.some.inj (j3.symm.trans g3) with p3 _ p4
    subst p1 p2 p3 p4;clear hcc j2 j3 hF
    have hx : rd_T27 l3 (i : Int) = l3[i] := by simp [rd_T27, hlt3]
    rw [show l3.getD (i : Int).toNat z27 = l3[i] by simp [hlt3]] at k2 F2 k3 F3;rw [hx, Int.toNat_natCast] at g0 g1 g2 g3;have FIN := Sdq.mk (json_Get.fin K.out (l3[i]).f0 (l3[i]).f1 (Kd.V_mk k2 F2) (Kd.V_mk k3 F3) _ rfl);generalize l3[i] = x at yes k2 F2 k3 F3 g0 g1 g2 g3 FIN;clear hx k2 F2 k3 F3 hw1 NO
    go_wp2_with fail
    have F := FIN.out;clear FIN x0 x2 x3 y0 y1 y2 y3 f0 f1 f2 f3 g0 g1 g2 g3 K H2 H3 hkey;generalize World.setCell _ _ _ = wf at F ⊢;obtain ⟨⟨V2, V3, fb⟩, e0, e1, e2, e3⟩ := F
    obtain ⟨rfl, rfl, rfl, rfl, rfl⟩ := (by simpa using yes.out : x.f0 = r1 ∧ x.f1 = r2 ∧ x.f2 = r3 ∧ x.f3 = r4 ∧ true = r5)
    exact bodyPost_ret (v := .tuple #[.agg #[.int .i64 x.f0, .string x.f1, .slice _ x.f2.length _, .slice _ x.f3.length _], .bool true]) (by simp [results, Tryd.results26, go_sem, e0, e1, e2, e3]) rfl ⟨_, _, rfl, V2, V3, fb⟩
   ·rw [if_neg hc] at hg
    have hcb : ((l2[i]).toList == key.toList) = false := beq_eq_false_iff_ne.2 hc;have HG := Sdq.mk hg;clear hg
    go_wp2_with fail
    go_roundg gk
    case measure => omega
    exact ⟨i + 1, by simp, by omega, HG, rfl⟩
def R4q_Get.o (a0 : Int) (l2 : List ByteArray) (l3 : List S44) (key : ByteArray) : Option S44 := if a0 = 6 ∧ l2.length = l3.length then getT key l2 l3 else none
def R4q_Get.f (_ : Nat) (a0 : Int) (_ : ByteArray) (l2 : List ByteArray) (l3 : List S44) (key : ByteArray) : Option (Int × ByteArray × List ByteArray × List S44 × Bool) :=
 some (match R4q_Get.o a0 l2 l3 key with | some x => (x.f0, x.f1, x.f2, x.f3, true) | none => (0, ⟨#[]⟩, [], [], false))
theorem R4q_Get.fin {w W : World} {a0 a1 a2 a3 : Value} {B2 B3 : Option Addr} {m2 m3 : Nat} {t2 : List ByteArray} {t3 : List S44} {P : Nat → Prop} (h : Ctx [uBlk (w.heap.size + 1) [.int .i64 0, .string ⟨#[]⟩, .slice none 0 0, .slice none 0 0] 44, uBlk w.heap.size [a0, a1, a2, a3] 44, uB w] W) (z0 : Int) (z1 : ByteArray)
  (h2 : Kd.V Kd.string 9 W 0 (fun k => P k ∧ k < w.heap.size) (.slice B2 t2.length m2) t2) (h3 : Kd.V k44 44 W 0 (fun k => P k ∧ k < w.heap.size) (.slice B3 t3.length m3) t3) (wf : World) (hw : wf = (((W.setCell ⟨w.heap.size + 1, 0, none⟩ (.int .i64 z0)).setCell ⟨w.heap.size + 1, 1, none⟩ (.string z1)).setCell ⟨w.heap.size + 1, 2, none⟩ (.slice B2 t2.length m2)).setCell ⟨w.heap.size + 1, 3, none⟩ (.slice B3 t3.length m3)) :
  (Kd.V Kd.string 9 wf w.heap.size (fun k => P k ∨ w.heap.size ≤ k) (.slice B2 t2.length m2) t2 ∧ Kd.V k44 44 wf w.heap.size (fun k => P k ∨ w.heap.size ≤ k) (.slice B3 t3.length m3) t3 ∧ Below w.heap.size w wf) ∧
  wf.cell? ⟨w.heap.size + 1, 0, none⟩ = some (.int .i64 z0) ∧ wf.cell? ⟨w.heap.size + 1, 1, none⟩ = some (.string z1) ∧ wf.cell? ⟨w.heap.size + 1, 2, none⟩ = some (.slice B2 t2.length m2) ∧ wf.cell? ⟨w.heap.size + 1, 3, none⟩ = some (.slice B3 t3.length m3) := by
 subst hw;obtain ⟨b2, b1, hB, _⟩ := h;have hp := Ctx.put (Ctx.put (Ctx.put (Ctx.put b2 0 (.int .i64 z0)) 1 (.string z1)) 2 (.slice B2 t2.length m2)) 3 (.slice B3 t3.length m3);have hg := Nat.le_succ w.heap.size
 have hne : ∀ k, P k ∧ k < w.heap.size → k ≠ w.heap.size + 1 := fun k hk => by omega
 refine ⟨⟨?_, ?_, bstq (bstq (bstq (bstq hB hg) hg) hg) hg⟩, Ctx.blk hp 0 rfl, Ctx.blk hp 1 rfl, Ctx.blk hp 2 rfl, Ctx.blk hp 3 rfl⟩
 ·exact Kd.V_mono (Kd.V_far (p := ⟨w.heap.size + 1, 3, none⟩) (Kd.V_far (p := ⟨w.heap.size + 1, 2, none⟩) (Kd.V_far (p := ⟨w.heap.size + 1, 1, none⟩) (Kd.V_far (p := ⟨w.heap.size + 1, 0, none⟩) h2 hne _) hne _) hne _) hne _) (fun k hk => .inl hk.1)
 ·exact Kd.V_mono (Kd.V_far (p := ⟨w.heap.size + 1, 3, none⟩) (Kd.V_far (p := ⟨w.heap.size + 1, 2, none⟩) (Kd.V_far (p := ⟨w.heap.size + 1, 1, none⟩) (Kd.V_far (p := ⟨w.heap.size + 1, 0, none⟩) h3 hne _) hne _) hne _) hne _) (fun k hk => .inl hk.1)
set_option maxRecDepth 100000 in
set_option maxHeartbeats 6400000 in
theorem R4q_Get.calls (k : Nat) (a0 : Int) (a1 : ByteArray) (A2 : Option Addr) (c2 : Nat) (l2 : List ByteArray) (P : Nat → Prop) (A3 : Option Addr) (c3 : Nat) (l3 : List S44) (key : ByteArray) (r1 : Int) (r2 : ByteArray) (r3 : List ByteArray) (r4 : List S44) (r5 : Bool) (w : World) (h2 : Kd.C Kd.string w A2 l2.length l2) (_ : l2.length ≤ c2) (h3 : Kd.V k44 44 w w.heap.size (fun k => P k) (.slice A3 l3.length c3) l3) (h : R4q_Get.f k a0 a1 l2 l3 key = some (r1, r2, r3, r4, r5)) :
  Calls Tryd.prog 27 #[.agg #[.int .i64 a0, .string a1, .slice A2 l2.length c2, .slice A3 l3.length c3], .string key] w fun e w' => ∃ v2 v3 : Value, e = .returned (.tuple #[.agg #[.int .i64 r1, .string r2, v2, v3], .bool r5]) ∧ Kd.V Kd.string 9 w' w.heap.size (fun k => P k ∨ w.heap.size ≤ k) v2 r3 ∧ Kd.V k44 44 w' w.heap.size (fun k => P k ∨ w.heap.size ≤ k) v3 r4 ∧ Below w.heap.size w w' := by
 have H := Sdq.mk (Option.some.inj h);have H2 := Sdq.mk h2;have H3 := Sdq.mk (show Kd.V k44 44 w 0 (fun k => P k ∧ k < w.heap.size) _ _ from Kd.V_bound h3);have N2 : Sdq (l2.length ≤ 9223372036854775807) := Sdq.mk h2.2.1
 have hl3 : (l3.length : Int) ≤ 9223372036854775807 := by have := (Kd.V_reads' h3).2.2.2.1; omega
 have K := Sdq.mk (show Ctx [uBlk (w.heap.size + 1) [.int .i64 0, .string ⟨#[]⟩, .slice none 0 0, .slice none 0 0] 44, uBlk w.heap.size [.int .i64 a0, .string a1, .slice A2 l2.length c2, .slice A3 l3.length c3] 44, uB w] ((w.alloc (.cells #[.int .i64 a0, .string a1, .slice A2 l2.length c2, .slice A3 l3.length c3] 44 (0, 0))).alloc (.cells #[.int .i64 0, .string ⟨#[]⟩, .slice none 0 0, .slice none 0 0] 44 (0, 0))) from by
  have e := Ctx.new (cs := [.int .i64 0, .string ⟨#[]⟩, .slice none 0 0, .slice none 0 0]) (t := 44) (Ctx.new (cs := [.int .i64 a0, .string a1, .slice A2 l2.length c2, .slice A3 l3.length c3]) (t := 44) (Ctx.cons (uB w) (Below.refl _ _) (Ctx.nil)))
  simpa using e)
 clear h h2 h3;go_enter Tryd.func27, Tryd.ntmps27
 go_upto_region 1 with fail
 refine absW _ K.out ?_;clear K;intro w1 K;have K := Sdq.mk K
 obtain ⟨y0, y1, y2, y3⟩ : w1.cell? ⟨w.heap.size + 1, 0, none⟩ = some (.int .i64 0) ∧ w1.cell? ⟨w.heap.size + 1, 1, none⟩ = some (.string ⟨#[]⟩) ∧ w1.cell? ⟨w.heap.size + 1, 2, none⟩ = some (.slice none 0 0) ∧ w1.cell? ⟨w.heap.size + 1, 3, none⟩ = some (.slice none 0 0) := ⟨Ctx.blk K.out.1 0 rfl, Ctx.blk K.out.1 1 rfl, Ctx.blk K.out.1 2 rfl, Ctx.blk K.out.1 3 rfl⟩
 obtain ⟨x0, x2, x3⟩ : w1.cell? ⟨w.heap.size, 0, none⟩ = some (.int .i64 a0) ∧ w1.cell? ⟨w.heap.size, 2, none⟩ = some (.slice A2 l2.length c2) ∧ w1.cell? ⟨w.heap.size, 3, none⟩ = some (.slice A3 l3.length c3) := ⟨Ctx.blk K.out.2.1 0 rfl, Ctx.blk K.out.2.1 2 rfl, Ctx.blk K.out.2.1 3 rfl⟩
 have f0 := Ctx.frz K.out.1 0;have f1 := Ctx.frz K.out.1 1;have f2 := Ctx.frz K.out.1 2;have f3 := Ctx.frz K.out.1 3;have H2 := Sdq.mk (Kd.C_below H2.out K.out.2.2.1);have H3 := Sdq.mk (Kd.V_below H3.out K.out.2.2.1);have NO := R4q_Get.fin (t2 := []) (t3 := []) (B2 := none) (B3 := none) (m2 := 0) (m3 := 0) (P := P) K.out 0 ⟨#[]⟩ (Kd.V_nil _ _ _ _ _) (Kd.V_nil _ _ _ _ _) _ rfl;simp only [List.length_nil] at NO;have NO := Sdq.mk NO
 have none_ : ∀ (hg : R4q_Get.o a0 l2 l3 key = none), Sdq ((0, ⟨#[]⟩, [], [], false) = (r1, r2, r3, r4, r5)) := fun hg => by
  have := H.out;rw [hg] at this;exact ⟨this⟩
 by_cases h6 : a0 = 6
 case neg =>
  have no := none_ (by unfold R4q_Get.o; rw [if_neg (fun h => h6 h.1)]);clear none_ H
  go_wp2_with fail
  have F := NO.out;clear NO x0 x2 x3 y0 y1 y2 y3 f0 f1 f2 f3 K H2 H3;generalize World.setCell _ _ _ = wf at F ⊢;obtain ⟨⟨V2, V3, fb⟩, e0, e1, e2, e3⟩ := F
  obtain ⟨rfl, rfl, rfl, rfl, rfl⟩ := (by simpa using no.out : 0 = r1 ∧ ⟨#[]⟩ = r2 ∧ [] = r3 ∧ [] = r4 ∧ false = r5)
  exact bodyPost_ret (v := .tuple #[.agg #[.int .i64 0, .string ⟨#[]⟩, .slice none 0 0, .slice none 0 0], .bool false]) (by simp [results, Tryd.results27, go_sem, e0, e1, e2, e3]) rfl ⟨_, _, rfl, V2, V3, fb⟩
 subst h6;by_cases hll : l2.length = l3.length
 case neg =>
  have no := none_ (by unfold R4q_Get.o; rw [if_neg (fun h => hll h.2)]);clear none_ H
  have hll' : ¬ (l2.length : Int) = (l3.length : Int) := by omega
  go_wp2_with fail
  have F := NO.out;clear NO x0 x2 x3 y0 y1 y2 y3 f0 f1 f2 f3 K H2 H3;generalize World.setCell _ _ _ = wf at F ⊢;obtain ⟨⟨V2, V3, fb⟩, e0, e1, e2, e3⟩ := F
  obtain ⟨rfl, rfl, rfl, rfl, rfl⟩ := (by simpa using no.out : 0 = r1 ∧ ⟨#[]⟩ = r2 ∧ [] = r3 ∧ [] = r4 ∧ false = r5)
  exact bodyPost_ret (v := .tuple #[.agg #[.int .i64 0, .string ⟨#[]⟩, .slice none 0 0, .slice none 0 0], .bool false]) (by simp [results, Tryd.results27, go_sem, e0, e1, e2, e3]) rfl ⟨_, _, rfl, V2, V3, fb⟩
 have hll' : (l2.length : Int) = (l3.length : Int) := by omega
 have none_ : ∀ (hg : getT key l2 l3 = none), Sdq ((0, ⟨#[]⟩, [], [], false) = (r1, r2, r3, r4, r5)) := fun hg => none_ (by unfold R4q_Get.o; rw [if_pos ⟨rfl, hll⟩]; exact hg)
 have some_ : ∀ x (hg : getT key l2 l3 = some x), Sdq ((x.f0, x.f1, x.f2, x.f3, true) = (r1, r2, r3, r4, r5)) := fun x hg => by
  have := H.out;rw [show R4q_Get.o 6 l2 l3 key = some x by unfold R4q_Get.o; rw [if_pos ⟨rfl, hll⟩]; exact hg] at this;exact ⟨this⟩
 have none_ := Sdq.mk none_;have some_ := Sdq.mk some_;clear H;have HL := Sdq.mk hll;clear hll
 go_wp2_with fail
 go_loopg [6] l2.length (fun kq s4 wc => ∃ i : Nat, s4 = .int .i64 (i : Int) ∧ kq + i = l2.length ∧ Sdq (getT key l2 l3 = getT key (l2.drop i) (l3.drop i)) ∧ wc = w1)
 case atStart => exact ⟨0, rfl, by omega, ⟨rfl⟩, rfl⟩
 case round =>
  obtain ⟨i, rfl, hi, HG, rfl⟩ := hrel
  cases gk with
  | zero =>
   have hg := HG.out;rw [show l2.drop i = [] from List.drop_eq_nil_of_le (by omega)] at hg;have no := none_.out hg;clear none_ some_ hg HG
   go_wp2_with fail
   have F := NO.out;clear NO x0 x2 x3 y0 y1 y2 y3 f0 f1 f2 f3 K H2 H3;generalize World.setCell _ _ _ = wf at F ⊢;obtain ⟨⟨V2, V3, fb⟩, e0, e1, e2, e3⟩ := F
   obtain ⟨rfl, rfl, rfl, rfl, rfl⟩ := (by simpa using no.out : 0 = r1 ∧ ⟨#[]⟩ = r2 ∧ [] = r3 ∧ [] = r4 ∧ false = r5)
   exact bodyPost_ret (v := .tuple #[.agg #[.int .i64 0, .string ⟨#[]⟩, .slice none 0 0, .slice none 0 0], .bool false]) (by simp [results, Tryd.results27, go_sem, e0, e1, e2, e3]) rfl ⟨_, _, rfl, V2, V3, fb⟩
  | succ gk =>
   have hlt : i < l2.length := by omega
   have hlt3 : i < l3.length := by have := HL.out; omega
   have hiz : (i : Int) < (l2.length : Int) := by omega
   have hiz3 : (i : Int) < (l3.length : Int) := by omega
   have hw1 : wrap64 ((i : Int) + 1) = ((i + 1 : Nat) : Int) := by have := N2.out; unfold wrap64; omega
   obtain ⟨ad, hA, hkey⟩ := key_at0 H2.out hlt;subst hA;have hg := HG.out;clear HG;rw [List.drop_eq_getElem_cons hlt, List.drop_eq_getElem_cons hlt3, getT] at hg;by_cases hc : (l2[i]).toList = key.toList
   ·rw [if_pos hc] at hg
    have hcb : ((l2[i]).toList == key.toList) = true := beq_iff_eq.2 hc;have yes := some_.out _ hg;clear none_ some_ hg
    have q0 : (0 : Int) ≤ (i : Int) := by omega
    obtain ⟨ad3, B2, d2, B3, d3, rfl, g0, g1, g2, g3, -, -, -, -⟩ := at_T44 (Kd.V_reads' H3.out).2.2 (i : Int) q0 hiz3;obtain ⟨ce, -, hF, hcc⟩ := Kd.V_get H3.out z44 (i : Int) q0 hiz3;obtain ⟨C2, e2, C3, e3, rfl, k2, F2, k3, F3⟩ := k44_openF hF;have j2 := hcc 2 _ rfl;have j3 := hcc 3 _ rfl;rw [add_field _ _ 2 (by omega)] at j2;rw [add_field _ _ 3 (by omega)] at j3
    injection Option.some.inj (j2.symm.trans g2) with p1 _ p2
    injection Option.some.inj (j3.symm.trans g3) with p3 _ p4
    subst p1 p2 p3 p4;clear hcc j2 j3 hF
    have hx : rd_T44 l3 (i : Int) = l3[i] := by simp [rd_T44, hlt3]
    rw [show l3.getD (i : Int).toNat z44 = l3[i] by simp [hlt3]] at k2 F2 k3 F3;rw [hx, Int.toNat_natCast] at g0 g1 g2 g3;have FIN := Sdq.mk (R4q_Get.fin K.out (l3[i]).f0 (l3[i]).f1 (Kd.V_mk k2 F2) (Kd.V_mk k3 F3) _ rfl);generalize l3[i] = x at yes k2 F2 k3 F3 g0 g1 g2 g3 FIN;clear hx k2 F2 k3 F3 hw1 NO
    go_wp2_with fail
    have F := FIN.out;clear FIN x0 x2 x3 y0 y1 y2 y3 f0 f1 f2 f3 g0 g1 g2 g3 K H2 H3 hkey;generalize World.setCell _ _ _ = wf at F ⊢;obtain ⟨⟨V2, V3, fb⟩, e0, e1, e2, e3⟩ := F
    obtain ⟨rfl, rfl, rfl, rfl, rfl⟩ := (by simpa using yes.out : x.f0 = r1 ∧ x.f1 = r2 ∧ x.f2 = r3 ∧ x.f3 = r4 ∧ true = r5)
    exact bodyPost_ret (v := .tuple #[.agg #[.int .i64 x.f0, .string x.f1, .slice _ x.f2.length _, .slice _ x.f3.length _], .bool true]) (by simp [results, Tryd.results27, go_sem, e0, e1, e2, e3]) rfl ⟨_, _, rfl, V2, V3, fb⟩
   ·rw [if_neg hc] at hg
    have hcb : ((l2[i]).toList == key.toList) = false := beq_eq_false_iff_ne.2 hc;have HG := Sdq.mk hg;clear hg
    go_wp2_with fail
    go_roundg gk
    case measure => omega
    exact ⟨i + 1, by simp, by omega, HG, rfl⟩
end Go.Proofs.YteighppcdpaekaaDoor.P
end
section
namespace Go.Proofs.YteighppcdpaekaaDoor.P
open Go.RowKit Go.Proofs.YteighppcdpaekaaDoorW.PrintWords Go.Proofs.YteighppcdpaekaaDoorW.PrintLast Go.Proofs.YteighppcdpaekaaDoorW.PrintMore
def eqT (a : Int) (s : ByteArray) (b : Int) (t : ByteArray) : Option Bool := if b = 4 then some (a == 4 && s.toList == t.toList) else none
set_option maxRecDepth 100000 in
set_option maxHeartbeats 3200000 in
theorem eqT_calls (a : Int) (s : ByteArray) (v2 v3 : Value) (b : Int) (t : ByteArray) (v4 v5 : Value) (r : Bool) (w : World) (h : eqT a s b t = some r) :
  Calls Tryd.prog 12 #[.agg #[.int .i64 a, .string s, v2, v3], .agg #[.int .i64 b, .string t, v4, v5]] w fun e w' => e = .returned (.bool r) ∧ Below w.heap.size w w' := by
 obtain rfl : b = 4 := by
  unfold eqT at h
  split at h
  ·assumption
  ·cases h
 unfold eqT at h;rw [if_pos rfl] at h;obtain rfl := Option.some.inj h;clear h;have hb := bal (bal (Below.refl w.heap.size w) (.cells #[.int .i64 a, .string s, v2, v3] 27 (0, 0))) (.cells #[.int .i64 4, .string t, v4, v5] 27 (0, 0));have B0 := blk_grown (blk_new w (.cells #[.int .i64 a, .string s, v2, v3] 27 (0, 0))) (World.grownBy_alloc _ (.cells #[.int .i64 4, .string t, v4, v5] 27 (0, 0)) none) (by simp);have B1 := blk_new (w.alloc (.cells #[.int .i64 a, .string s, v2, v3] 27 (0, 0))) (.cells #[.int .i64 4, .string t, v4, v5] 27 (0, 0));simp only [World.size_alloc] at B1;have c0 := (bceq B0 0).trans rfl;have c1 := (bceq B0 1).trans rfl;have d0 := (bceq B1 0).trans rfl;have d1 := (bceq B1 1).trans rfl;have hb := Sdq.mk hb;clear B0 B1;go_enter Tryd.func12, Tryd.ntmps12;by_cases ha : a = 4
 ·subst ha
  rcases Bool.eq_false_or_eq_true (s.toList == t.toList) with hs | hs
  ·rw [hs]
   have hs' : s.toList = t.toList := by simpa using hs
   go_wp2_with fail
   go_ret;exact ⟨rfl, hb.out⟩
  ·rw [hs]
   have hs' : s.toList ≠ t.toList := by simpa using hs
   go_wp2_with fail
   go_ret;exact ⟨rfl, hb.out⟩
 ·have ha2 : (a == 4) = false := by simpa using ha
  rw [ha2]
  go_wp2_with fail
  go_ret;exact ⟨rfl, hb.out⟩
end Go.Proofs.YteighppcdpaekaaDoor.P
end
section
namespace Go.Proofs.YteighppcdpaekaaDoor.P
open Go.RowKit Go.Proofs.YteighppcdpaekaaDoorW.PrintWords Go.Proofs.YteighppcdpaekaaDoorW.PrintLast Go.Proofs.YteighppcdpaekaaDoorW.PrintMore
attribute [local go_sem] max2_int min2_int max_two min_two max_three min_three max_four min_four
set_option linter.unusedVariables false
set_option linter.unusedSimpArgs false
def json_Text.f (a0 : ByteArray) : Option (Int × ByteArray × List ByteArray × (List (S27))) := some (4, a0, ([] : List ByteArray), ([] : List (S27)))
set_option maxHeartbeats 8000000 in
set_option maxRecDepth 100000 in
theorem json_Text.calls (a0 : ByteArray) (r1 : Int) (r2 : ByteArray) (r3 : List ByteArray) (r4 : List (S27)) (w : World) (h : json_Text.f a0 = some (r1, r2, r3, r4)) :
  Calls Tryd.prog 13 #[.string a0] w fun e w' => ∃ v2_ v3_ : Value, e = .returned (.agg #[.int .i64 r1, .string r2, v2_, v3_]) ∧ Kd.R Kd.string 9 w' w.heap.size (fun _ => True) v2_ r3 ∧ Kd.R k27 27 w' w.heap.size (fun k_ => some k_ ≠ (v2_ : Value).ownBlock) v3_ r4 ∧ Below w.heap.size w w' := by
 have hu27 := Tryd.underlying27;have HB := Sdq.mk (Below.refl w.heap.size w);have H : (some (4, a0, ([] : List ByteArray), ([] : List (S27)))) = some (r1, r2, r3, r4) := h;clear h;simp only [Option.some.injEq, Prod.mk.injEq] at H;obtain ⟨rfl, rfl, rfl, rfl⟩ := H;go_enter Tryd.func13, Tryd.ntmps13;go_wp2_with (first | ((with_reducible refine gate_dst (N := 2) rfl ?_); refine box_event ?hg (N := 2) ?hd (cs := #[.int .i64 0, .string (⟨#[]⟩ : ByteArray), .slice none 0 0, .slice none 0 0]) (t := 27) ?hr ?_; (case hd => rfl); (case hg => rfl); (case hr => first | (go_simp; done) | (go_simp; rfl)); intro gb175 hg w2 hbox hb; have n0_ := Sdq.mk (below_step (by repeat (first | (with_reducible first | exact HB.out | apply bal | apply pbdN | apply bdr1) | exact HB.out)) hb); have n1_ := Sdq.mk (hbox); have n2_ := Sdq.mk ((by rw [hg]; exact (below_size (by repeat (first | (with_reducible first | exact HB.out | apply bal | apply pbdN | apply bdr1) | exact HB.out))) : w.heap.size ≤ gb175)); have n3_ := Sdq.mk ((by rw [hg]; exact (below_size (by repeat (first | (with_reducible first | exact HB.out | apply bal | apply pbdN | apply bdr1) | exact HB.out))) : w.heap.size ≤ gb175)); clear HB; have HB := n0_; have BK175 := n1_; have GW175 := n2_; have GE175 := n3_; clear n0_ n1_ n2_ n3_; clear hb hbox hg; have hcz3_0 : w2.cell? ⟨gb175, 0, none⟩ = some (.int .i64 0) := (bceq BK175.out 0).trans rfl; have hcz3_1 : w2.cell? ⟨gb175, 1, none⟩ = some (.string (⟨#[]⟩ : ByteArray)) := (bceq BK175.out 1).trans rfl; have hcz3_2 : w2.cell? ⟨gb175, 2, none⟩ = some (.slice none 0 0) := (bceq BK175.out 2).trans rfl; have hcz3_3 : w2.cell? ⟨gb175, 3, none⟩ = some (.slice none 0 0) := (bceq BK175.out 3).trans rfl; have hfz3_0 := bfz BK175.out 0; have hfz3_1 := bfz BK175.out 1; have hfz3_2 := bfz BK175.out 2; have hfz3_3 := bfz BK175.out 3));refine bodyPost_ret (results_cell_row rfl _ _ gb175 27 #[.int .i64 4, .string a0, .slice none 0 0, .slice none 0 0] (0, 0) _ rfl (by (with_reducible repeat (first | refine blk_drewN ?_ _ | refine blk_drew ?_ | refine blk_alloc ?_ _)); refine blk_put (cs := #[.int .i64 4, .string a0, .slice none 0 0, .slice none 0 0]) ?_ 3 _ rfl; (with_reducible repeat (first | refine blk_drewN ?_ _ | refine blk_drew ?_ | refine blk_alloc ?_ _)); refine blk_put (cs := #[.int .i64 4, .string a0, .slice none 0 0, .slice none 0 0]) ?_ 2 _ rfl; (with_reducible repeat (first | refine blk_drewN ?_ _ | refine blk_drew ?_ | refine blk_alloc ?_ _)); refine blk_put (cs := #[.int .i64 4, .string (⟨#[]⟩ : ByteArray), .slice none 0 0, .slice none 0 0]) ?_ 1 _ rfl; (with_reducible repeat (first | refine blk_drewN ?_ _ | refine blk_drew ?_ | refine blk_alloc ?_ _)); refine blk_put (cs := #[.int .i64 0, .string (⟨#[]⟩ : ByteArray), .slice none 0 0, .slice none 0 0]) ?_ 0 _ rfl; (with_reducible repeat (first | refine blk_drewN ?_ _ | refine blk_drew ?_ | refine blk_alloc ?_ _)); exact BK175.out) Tryd.underlying27 rfl (by kernel_rfl)) rfl ?_
 exact ⟨_, _, by first | rfl | (simp [errW_none, errW_some] <;> rfl) | (simp [*, errW_none, errW_some] <;> rfl), by first | exact Kd.R_nil _ _ _ _ _ | exact Kd.N_nil _ _ _ _ _ | exact Kd.V_nil _ _ _ _ _ | exact Kd.Q_nil _ _ _ _ _ | exact Kd.S_nil _ _ _ _ _, by first | exact Kd.R_nil _ _ _ _ _ | exact Kd.N_nil _ _ _ _ _ | exact Kd.V_nil _ _ _ _ _ | exact Kd.Q_nil _ _ _ _ _ | exact Kd.S_nil _ _ _ _ _, by repeat (first | (with_reducible first | exact HB.out | apply bal | apply pbdN | apply bdr1 | refine bstq ?_ GE175.out) | exact HB.out)⟩
end Go.Proofs.YteighppcdpaekaaDoor.P
end
section
namespace Go.Proofs.YteighppcdpaekaaDoor.P
open Go.RowKit Go.Proofs.YteighppcdpaekaaDoorW.PrintWords Go.Proofs.YteighppcdpaekaaDoorW.PrintLast Go.Proofs.YteighppcdpaekaaDoorW.PrintMore
attribute [local go_sem] max2_int min2_int max_two min_two max_three min_three max_four min_four
set_option linter.unusedVariables false
set_option linter.unusedSimpArgs false
def rpc_isID.f (a0_0 : Int) (a0_1 : ByteArray) (l0_2 : List ByteArray) (l0_3 : List (S27)) : Option (Bool) := if a0_0 = 3 then ((json_Int.f a0_0 a0_1 l0_2 l0_3).bind fun bt335 => (some bt335.2)) else (some (a0_0 == 4))
set_option maxHeartbeats 8000000 in
set_option maxRecDepth 100000 in
theorem rpc_isID.calls (a0_0 : Int) (a0_1 : ByteArray) (A0_2 : Option Addr) (c0_2 : Nat) (l0_2 : List ByteArray) (A0_3 : Option Addr) (c0_3 : Nat) (l0_3 : List (S27)) (r : Bool) (w : World) (hr0_2 : Kd.C Kd.string w A0_2 l0_2.length l0_2) (hc0_2 : l0_2.length ≤ c0_2) (hr0_3 : Kd.C k27 w A0_3 l0_3.length l0_3) (hc0_3 : l0_3.length ≤ c0_3) (h : rpc_isID.f a0_0 a0_1 l0_2 l0_3 = some r) (hT : TabOk w) :
  Calls Tryd.prog 42 #[.agg #[.int .i64 a0_0, .string a0_1, .slice A0_2 l0_2.length c0_2, .slice A0_3 l0_3.length c0_3]] w fun e w' => e = .returned (.bool r) ∧ Below w.heap.size w w' := by
 have hu27 := Tryd.underlying27;have HR0_2 := Sdq.mk hr0_2;have HC0_2 := Sdq.mk hc0_2;clear hr0_2 hc0_2;have HR0_3 := Sdq.mk hr0_3;have HC0_3 := Sdq.mk hc0_3;clear hr0_3 hc0_3;have HB := Sdq.mk (Below.refl w.heap.size w);have H : (if a0_0 = 3 then ((json_Int.f a0_0 a0_1 l0_2 l0_3).bind fun bt335 => (some bt335.2)) else (some (a0_0 == 4))) = some r := h;clear h;by_cases c2 : a0_0 = 3
 ·rw [if_pos c2] at H
  have c2b0 : (a0_0 == 3) = true := beq_iff_eq.mpr c2;have c2b1 : (a0_0 != 3) = false := bne_eq_false_iff_eq.mpr c2;clear c2;replace H := Option.bind_eq_some_iff.mp H;obtain ⟨⟨t335, t336⟩, A30, H⟩ := H;replace H : (some t336) = some r := H;have A3 := Sdq.mk A30;clear A30;obtain rfl := Option.some.inj H;go_enter Tryd.func42, Tryd.ntmps42;go_wp2_with (first | ((with_reducible refine gate_dst (N := 1) rfl ?_); refine box_event ?hg (N := 1) ?hd (cs := #[.int .i64 a0_0, .string a0_1, .slice A0_2 l0_2.length c0_2, .slice A0_3 l0_3.length c0_3]) (t := 27) ?hr ?_; (case hd => rfl); (case hg => rfl); (case hr => first | (go_simp; done) | (go_simp; rfl)); intro gb334 hg w4 hbox hb; have n0_ := Sdq.mk (below_step (by repeat (first | (with_reducible first | exact HB.out | apply bal | apply pbdN | apply bdr1) | exact HB.out)) hb); have n1_ := Sdq.mk (hbox); have n2_ := Sdq.mk ((by rw [hg]; exact (below_size (by repeat (first | (with_reducible first | exact HB.out | apply bal | apply pbdN | apply bdr1) | exact HB.out))) : w.heap.size ≤ gb334)); have n3_ := Sdq.mk ((by rw [hg]; exact (below_size (by repeat (first | (with_reducible first | exact HB.out | apply bal | apply pbdN | apply bdr1) | exact HB.out))) : w.heap.size ≤ gb334)); clear HB; have HB := n0_; have BK334 := n1_; have GW334 := n2_; have GE334 := n3_; clear n0_ n1_ n2_ n3_; clear hb hbox hg; have hcz5_0 : w4.cell? ⟨gb334, 0, none⟩ = some (.int .i64 a0_0) := (bceq BK334.out 0).trans rfl; have hcz5_1 : w4.cell? ⟨gb334, 1, none⟩ = some (.string a0_1) := (bceq BK334.out 1).trans rfl; have hcz5_2 : w4.cell? ⟨gb334, 2, none⟩ = some (.slice A0_2 l0_2.length c0_2) := (bceq BK334.out 2).trans rfl; have hcz5_3 : w4.cell? ⟨gb334, 3, none⟩ = some (.slice A0_3 l0_3.length c0_3) := (bceq BK334.out 3).trans rfl; have hfz5_0 := bfz BK334.out 0; have hfz5_1 := bfz BK334.out 1; have hfz5_2 := bfz BK334.out 2; have hfz5_3 := bfz BK334.out 3) | ((with_reducible refine gate_callee (f := 29) rfl ?_); refine goesL_ (some 10) rfl rfl Tryd.func29 (by kernel_rfl) rfl #[.agg #[.int .i64 a0_0, .string a0_1, .slice A0_2 l0_2.length c0_2, .slice A0_3 l0_3.length c0_3]] rfl (by (try simp only [List.map_toArray, List.map_cons, List.map_nil]); first | done | rfl | (simp only [List.length_drop, List.length_take]; rfl)) ?_; (with_reducible refine (json_Int.calls a0_0 a0_1 _ _ l0_2 _ _ l0_3 t335 t336 _ ?side1 ?side2 ?side3 ?side4 A3.out ?sideT).mono ?_); (case sideT => exact hT.below (by repeat (first | (with_reducible first | exact HB.out | apply bal | apply pbdN | apply bdr1 | refine bstq ?_ GE334.out) | exact HB.out))); (case side1 => repeat (first | exact (Kd.C_below HR0_2.out HB.out) | (with_reducible refine Kd.C_alloc ?_ _) | (with_reducible refine Kd.C_drewN ?_ _) | (with_reducible refine Kd.C_drew ?_))); (case side2 => exact HC0_2.out); (case side3 => repeat (first | exact (Kd.C_below HR0_3.out HB.out) | (with_reducible refine Kd.C_alloc ?_ _) | (with_reducible refine Kd.C_drewN ?_ _) | (with_reducible refine Kd.C_drew ?_))); (case side4 => exact HC0_3.out); rintro e w6 ⟨rfl, hb⟩; refine ⟨_, rfl, ?_⟩; have n0_ := Sdq.mk (blk_below (g := gb334) (o := .cells #[.int .i64 a0_0, .string a0_1, .slice A0_2 l0_2.length c0_2, .slice A0_3 l0_3.length c0_3] 27 (0, 0)) (by (with_reducible repeat (first | refine blk_drewN ?_ _ | refine blk_drew ?_ | refine blk_alloc ?_ _)); exact BK334.out) hb); have n1_ := Sdq.mk (below_step (by repeat (first | (with_reducible first | exact HB.out | apply bal | apply pbdN | apply bdr1 | refine bstq ?_ GE334.out) | exact HB.out)) hb); clear BK334; clear HB; have BK334 := n0_; have HB := n1_; clear n0_ n1_; (try clear hb); (try clear hb2); (try clear hk); (try clear hi)))
  go_ret;exact ⟨by first | rfl | (simp [errW_none, errW_some] <;> rfl) | (simp [*, errW_none, errW_some] <;> rfl), by repeat (first | (with_reducible first | exact HB.out | apply bal | apply pbdN | apply bdr1 | refine bstq ?_ GE334.out) | exact HB.out)⟩
 ·rw [if_neg c2] at H
  have c2b0 : (a0_0 == 3) = false := beq_eq_false_iff_ne.mpr c2;have c2b1 : (a0_0 != 3) = true := bne_iff_ne.mpr c2;obtain rfl := Option.some.inj H;go_enter Tryd.func42, Tryd.ntmps42;go_wp2_with (first | ((with_reducible refine gate_dst (N := 1) rfl ?_); refine box_event ?hg (N := 1) ?hd (cs := #[.int .i64 a0_0, .string a0_1, .slice A0_2 l0_2.length c0_2, .slice A0_3 l0_3.length c0_3]) (t := 27) ?hr ?_; (case hd => rfl); (case hg => rfl); (case hr => first | (go_simp; done) | (go_simp; rfl)); intro gb334 hg w7 hbox hb; have n0_ := Sdq.mk (below_step (by repeat (first | (with_reducible first | exact HB.out | apply bal | apply pbdN | apply bdr1) | exact HB.out)) hb); have n1_ := Sdq.mk (hbox); have n2_ := Sdq.mk ((by rw [hg]; exact (below_size (by repeat (first | (with_reducible first | exact HB.out | apply bal | apply pbdN | apply bdr1) | exact HB.out))) : w.heap.size ≤ gb334)); have n3_ := Sdq.mk ((by rw [hg]; exact (below_size (by repeat (first | (with_reducible first | exact HB.out | apply bal | apply pbdN | apply bdr1) | exact HB.out))) : w.heap.size ≤ gb334)); clear HB; have HB := n0_; have BK334 := n1_; have GW334 := n2_; have GE334 := n3_; clear n0_ n1_ n2_ n3_; clear hb hbox hg; have hcz8_0 : w7.cell? ⟨gb334, 0, none⟩ = some (.int .i64 a0_0) := (bceq BK334.out 0).trans rfl; have hcz8_1 : w7.cell? ⟨gb334, 1, none⟩ = some (.string a0_1) := (bceq BK334.out 1).trans rfl; have hcz8_2 : w7.cell? ⟨gb334, 2, none⟩ = some (.slice A0_2 l0_2.length c0_2) := (bceq BK334.out 2).trans rfl; have hcz8_3 : w7.cell? ⟨gb334, 3, none⟩ = some (.slice A0_3 l0_3.length c0_3) := (bceq BK334.out 3).trans rfl; have hfz8_0 := bfz BK334.out 0; have hfz8_1 := bfz BK334.out 1; have hfz8_2 := bfz BK334.out 2; have hfz8_3 := bfz BK334.out 3));go_ret;exact ⟨by first | rfl | (simp [errW_none, errW_some] <;> rfl) | (simp [*, errW_none, errW_some] <;> rfl), by repeat (first | (with_reducible first | exact HB.out | apply bal | apply pbdN | apply bdr1 | refine bstq ?_ GE334.out) | exact HB.out)⟩
end Go.Proofs.YteighppcdpaekaaDoor.P
end
