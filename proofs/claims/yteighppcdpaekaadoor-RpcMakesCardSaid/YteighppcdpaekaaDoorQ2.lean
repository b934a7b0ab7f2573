/- Walks and words of this session, put together by a program of this session (pack.py). Conditions: as each text says. -/
import Derived.Test.YteighppcdpaekaaDoorProg
import Derived.Below
import Derived.Deep.Draws
import Derived.Deep.AppendLies
import Derived.Maps.AppendAt
import Derived.OwnWalk
import Derived.Laws.BytesArg
import Derived.Laws.MakeOwn
import Derived.Laws.OwnMore
import Derived.Deep.OwnRows
import Derived.Tactics
import Derived.Lib.ConvBytes
import Derived.Laws.Slices
import Derived.WalkKit
import Derived.KernelRfl
import Derived.RowKit3
import Derived.Deep.LoopGhost
import Derived.Deep.QuietTactic
import Derived.BigQuiet
import Derived.WideLaws
import Derived.Deep.DeepCutAuto
import Derived.Deep.CutBlock
import Derived.Deep.RegionHeld3
import Derived.Laws.Rows
import Derived.Lib.AppendStr
import Derived.ArgAppend
import Derived.Laws.IdiomCopy
import Derived.OrdersHeld
import Derived.Laws.BitsLemmas
import Derived.RowKit
import Derived.Laws.StructEq
import Derived.Lib.SmallJoins
import Derived.Deep.Slices
import Derived.SliceStrings
import Derived.ChangeArms
import Derived.Shelf.Strconv.Atoi
import Derived.Shelf.Strconv.Itoa0
import Derived.Shelf.Strconv.Itoa1
import Derived.Shelf.LaysM
import Derived.Shelf.Strconv.Itoa2
import Derived.Shelf.Strconv.Itoa3
import Derived.Shelf.Strconv.AtoiErrFast
import Derived.Shelf.Strconv.ParseIntEmpty
import Derived.Shelf.Strconv.AtoiFail
import Derived.Shelf.Strconv.Clone
import Derived.Shelf.Strconv.SyntaxError
import Derived.Shelf.LaysC
import Derived.Shelf.Strconv.ToError
import Derived.Shelf.Strconv.Lower
import Derived.Shelf.Strconv.ParseUint10
import Derived.Shelf.Strconv.ParseUint10Empty
import Derived.Shelf.Strconv.ParseUint10Any
import Derived.Shelf.Strconv.ParseInt10
import Derived.Shelf.Strconv.AtoiLong
import Derived.Shelf.Strconv.AtoiInnerAll
import Derived.Shelf.Strconv.RangeError
import Derived.Shelf.Strconv.ToErrorRange
import Derived.Shelf.Strconv.AtoiAll
import Derived.Shelf.Strconv.ErrVarAll
import Derived.Shelf.Strconv.ParseUintEmpty
import Derived.Shelf.Strconv.ParseUint10b64
import Derived.Shelf.Strconv.ParseUint10b32
import Derived.Shelf.Strconv.ParseUint10b16
import Derived.Shelf.Strconv.ParseUint10b8
import Derived.Lib.Hide
import Derived.Test.YteighppcdpaekaaDoorCards
import Derived.Test.YteighppcdpaekaaDoorTie
import Derived.ProofKit
import Derived.OpenShut
import Derived.ChangeMaps5
import Derived.JoinedCond
import Derived.ChangeOld
import Derived.LaidLaws
import Derived.MakeChecks
import Derived.Deep.DeepHandedRow
import Derived.Deep.DeepWitnessRowRef
import Derived.Stop.LaidErr
import Derived.Lib.LaidTab
import Derived.Test.YteighppcdpaekaaDoorQ0
import Derived.Test.YteighppcdpaekaaDoorQ1
set_option linter.unusedVariables false
set_option linter.unusedSimpArgs false
section
namespace Go.Proofs.YteighppcdpaekaaDoor.P
open Go.RowKit Go.Proofs.YteighppcdpaekaaDoorW.PrintWords Go.Proofs.YteighppcdpaekaaDoorW.PrintLast Go.Proofs.YteighppcdpaekaaDoorW.PrintMore
attribute [local go_sem] max2_int min2_int max_two min_two max_three min_three max_four min_four
set_option linter.unusedVariables false
set_option linter.unusedSimpArgs false
def errW : Option Int → Value
 | none => .nilIface
 | some c => .iface 0 (.int .i64 c)
theorem errW_none : errW none = .nilIface := rfl
theorem errW_some (c : Int) : errW (some c) = .iface 0 (.int .i64 c) := rfl
theorem info5 : (Tryd.prog.info? 5).map (fun i => (i.zero, i.size, i.bytes)) = some (some (.int .u8 0), 1, 1) := by kernel_rfl
theorem info9 : (Tryd.prog.info? 9).map (fun i => (i.zero, i.size, i.bytes)) = some (some (.string ⟨#[]⟩), 1, 16) := by kernel_rfl
theorem info27 : (Tryd.prog.info? 27).map (fun i => (i.zero, i.size, i.bytes)) = some (some (.agg #[(.int .i64 0), (.string ⟨#[]⟩), (.slice none 0 0), (.slice none 0 0)]), 4, 72) := by kernel_rfl
theorem info44 : (Tryd.prog.info? 44).map (fun i => (i.zero, i.size, i.bytes)) = some (some (.agg #[(.int .i64 0), (.string ⟨#[]⟩), (.slice none 0 0), (.slice none 0 0)]), 4, 72) := by kernel_rfl
theorem info123 : (Tryd.prog.info? 123).map (fun i => (i.zero, i.size, i.bytes)) = some (some (.agg #[(.int .i64 0), (.int .i64 0), (.int .i64 0)]), 3, 24) := by kernel_rfl
structure S27 where
 f0 : Int
 f1 : ByteArray
 f2 : (List ByteArray)
 f3 : (List S27)
def z27 : S27 := ⟨(0 : Int), (⟨#[]⟩ : ByteArray), ([] : List ByteArray), ([] : List S27)⟩
def F27 (d : Kd S27) : Kd S27 := Kd.iso (Kd.pair (Kd.int .i64) (Kd.pair Kd.string (Kd.pair (Kd.slice 9 Kd.string) (Kd.slice 27 d)))) (fun x : S27 => (x.f0, x.f1, x.f2, x.f3))
theorem mono27 : Kd.Mono F27 := Kd.mono_iso _ (Kd.mono_pair (Kd.mono_const _) (Kd.mono_pair (Kd.mono_const _) (Kd.mono_pair (Kd.mono_const _) (Kd.mono_slice 27 Kd.mono_id))))
theorem sub27 : Kd.Sub F27 [9, 27] := Kd.sub_iso _ (Kd.sub_pair (Kd.sub_const _ (by decide)) (Kd.sub_pair (Kd.sub_const _ (by decide)) (Kd.sub_pair (Kd.sub_const _ (by decide)) (Kd.sub_slice 27 (by decide) Kd.sub_id))))
theorem sz27 : ∀ n, (Kd.upto F27 4 [9, 27] n).sz = 4 := Kd.upto_sz (fun _ => rfl)
def k27 : Kd S27 := Kd.fix F27 4 [9, 27] sz27 (Kd.upto_E sub27)
theorem k27_open {w : World} {x : S27} {cs : List Value} (h : k27.K w x cs) : ∃ A2 c2 A3 c3, cs = [.int .i64 x.f0, .string x.f1, .slice A2 x.f2.length c2, .slice A3 x.f3.length c3] ∧ x.f2.length ≤ c2 ∧ Kd.string.C w A2 x.f2.length x.f2 ∧ x.f3.length ≤ c3 ∧ k27.C w A3 x.f3.length x.f3 := by
 obtain ⟨n, h⟩ := h
 cases n with
 | zero => exact h.elim
 | succ n =>
  obtain ⟨_, _, rfl, rfl, ⟨_, _, rfl, rfl, ⟨_, _, rfl, ⟨A2, c2, rfl, l2, g2⟩, ⟨A3, c3, rfl, l3, g3⟩⟩⟩⟩ := h;exact ⟨A2, c2, A3, c3, rfl, l2, g2, l3, Kd.fix_C g3⟩
theorem k27_openM {w : World} {base : Nat} {ok : Nat → Prop} {x : S27} {cs : List Value} (h : k27.M w base ok x cs) : ∃ v2 v3, cs = [.int .i64 x.f0, .string x.f1, v2, v3] ∧ Kd.string.R 9 w base ok v2 x.f2 ∧ k27.R 27 w base ok v3 x.f3 := by
 obtain ⟨n, h⟩ := h
 cases n with
 | zero => exact h.elim
 | succ n =>
  obtain ⟨_, _, rfl, rfl, ⟨_, _, rfl, rfl, ⟨_, _, rfl, ⟨v2, rfl, g2⟩, ⟨v3, rfl, g3⟩⟩⟩⟩ := h;exact ⟨v2, v3, rfl, g2, Kd.fix_R g3⟩
theorem k27_mk (w : World) (x : S27) {A2 : Option Addr} {c2 : Nat} (l2 : x.f2.length ≤ c2) (g2 : Kd.string.C w A2 x.f2.length x.f2) {A3 : Option Addr} {c3 : Nat} (l3 : x.f3.length ≤ c3) (g3 : k27.C w A3 x.f3.length x.f3) : k27.K w x [.int .i64 x.f0, .string x.f1, .slice A2 x.f2.length c2, .slice A3 x.f3.length c3] := by
 obtain ⟨n3, q3⟩ := Kd.fix_C_back mono27 g3;have r3 := Kd.upto_C_le mono27 sz27 (show n3 ≤ n3 by omega) q3;exact ⟨n3 + 1, ⟨[.int .i64 x.f0], [.string x.f1, .slice A2 x.f2.length c2, .slice A3 x.f3.length c3], rfl, rfl, ⟨[.string x.f1], [.slice A2 x.f2.length c2, .slice A3 x.f3.length c3], rfl, rfl, ⟨[.slice A2 x.f2.length c2], [.slice A3 x.f3.length c3], rfl, ⟨A2, c2, rfl, l2, g2⟩, ⟨A3, c3, rfl, l3, r3⟩⟩⟩⟩⟩
theorem k27_mkM (w : World) (base : Nat) (ok : Nat → Prop) (x : S27) {v2 : Value} (g2 : Kd.string.R 9 w base ok v2 x.f2) {v3 : Value} (g3 : k27.R 27 w base ok v3 x.f3) : k27.M w base ok x [.int .i64 x.f0, .string x.f1, v2, v3] := by
 obtain ⟨n3, q3⟩ := Kd.fix_R_back mono27 g3;have r3 := Kd.upto_R_le mono27 sz27 (show n3 ≤ n3 by omega) q3;exact ⟨n3 + 1, ⟨[.int .i64 x.f0], [.string x.f1, v2, v3], rfl, rfl, ⟨[.string x.f1], [v2, v3], rfl, rfl, ⟨[v2], [v3], rfl, ⟨v2, rfl, g2⟩, ⟨v3, rfl, r3⟩⟩⟩⟩⟩
theorem k27_openF {W : World} {ok : Nat → Prop} {x : S27} {cs : List Value} (h : Kd.FK k27 W ok x cs) : ∃ A2 c2 A3 c3, cs = [.int .i64 x.f0, .string x.f1, .slice A2 x.f2.length c2, .slice A3 x.f3.length c3] ∧ x.f2.length ≤ c2 ∧ Kd.F Kd.string W ok A2 x.f2.length x.f2 ∧ x.f3.length ≤ c3 ∧ Kd.F k27 W ok A3 x.f3.length x.f3 := by
 obtain ⟨A2, c2, A3, c3, rfl, l2, _, l3, _⟩ := k27_open (Kd.FK_now h);exact ⟨A2, c2, A3, c3, rfl, l2, (fun W' hW => by obtain ⟨A2_, c2_, A3_, c3_, he, l2_, g2_, l3_, g3_⟩ := k27_open (h W' hW); injection (Option.some.inj (show some (Value.slice A2 x.f2.length c2) = some (Value.slice A2_ x.f2.length c2_) from congrArg (fun l => l[2]?) he)) with ha_ _ _; rw [ha_]; exact g2_), l3, (fun W' hW => by obtain ⟨A2_, c2_, A3_, c3_, he, l2_, g2_, l3_, g3_⟩ := k27_open (h W' hW); injection (Option.some.inj (show some (Value.slice A3 x.f3.length c3) = some (Value.slice A3_ x.f3.length c3_) from congrArg (fun l => l[3]?) he)) with ha_ _ _; rw [ha_]; exact g3_)⟩
theorem k27_mkF (W : World) (ok : Nat → Prop) (x : S27) {A2 : Option Addr} {c2 : Nat} (l2 : x.f2.length ≤ c2) (g2 : Kd.F Kd.string W ok A2 x.f2.length x.f2) {A3 : Option Addr} {c3 : Nat} (l3 : x.f3.length ≤ c3) (g3 : Kd.F k27 W ok A3 x.f3.length x.f3) : Kd.FK k27 W ok x [.int .i64 x.f0, .string x.f1, .slice A2 x.f2.length c2, .slice A3 x.f3.length c3] := fun W2 hW => k27_mk W2 x l2 (g2 W2 hW) l3 (g3 W2 hW)
def rd_T27 (xs : List S27) (i : Int) : S27 := xs.getD i.toNat z27
theorem at_T27 {w : World} {A : Option Addr} {n : Nat} {xs : List S27} (h : Kd.C k27 w A n xs) (i : Int) (h0 : 0 ≤ i) (h1 : i < n) : ∃ ad A2 c2 A3 c3, A = some ad ∧ w.cell? (ad.add (i.toNat * 4)) = some (.int .i64 (rd_T27 xs i).f0) ∧ w.cell? ⟨(ad.add (i.toNat * 4)).block, (ad.add (i.toNat * 4)).off + 1, none⟩ = some (.string (rd_T27 xs i).f1) ∧ w.cell? ⟨(ad.add (i.toNat * 4)).block, (ad.add (i.toNat * 4)).off + 2, none⟩ = some (.slice A2 (rd_T27 xs i).f2.length c2) ∧ w.cell? ⟨(ad.add (i.toNat * 4)).block, (ad.add (i.toNat * 4)).off + 3, none⟩ = some (.slice A3 (rd_T27 xs i).f3.length c3) ∧ (rd_T27 xs i).f2.length ≤ c2 ∧ Kd.string.C w A2 (rd_T27 xs i).f2.length (rd_T27 xs i).f2 ∧ (rd_T27 xs i).f3.length ≤ c3 ∧ k27.C w A3 (rd_T27 xs i).f3.length (rd_T27 xs i).f3 := by
 obtain ⟨ad, c, e, _, hK, hc0⟩ := Kd.C_get h z27 i h0 h1;have hc : ∀ j u, c[j]? = some u → w.cell? (ad.add (i.toNat * 4 + j)) = some u := hc0;obtain ⟨A2, c2, A3, c3, rfl, l2, g2, l3, g3⟩ := k27_open hK;exact ⟨ad, A2, c2, A3, c3, e, hc 0 _ rfl, by rw [← add_field _ _ 1 (by omega)]; exact hc 1 _ rfl, by rw [← add_field _ _ 2 (by omega)]; exact hc 2 _ rfl, by rw [← add_field _ _ 3 (by omega)]; exact hc 3 _ rfl, l2, g2, l3, g3⟩
structure S30 where
 f0 : ByteArray
 f1 : S27
def z30 : S30 := ⟨(⟨#[]⟩ : ByteArray), z27⟩
def k30 : Kd S30 := Kd.iso (Kd.pair Kd.string k27) (fun x : S30 => (x.f0, x.f1))
theorem k30_open {w : World} {x : S30} {cs : List Value} (h : k30.K w x cs) : ∃ A3 c3 A4 c4, cs = [.string x.f0, .int .i64 x.f1.f0, .string x.f1.f1, .slice A3 x.f1.f2.length c3, .slice A4 x.f1.f3.length c4] ∧ x.f1.f2.length ≤ c3 ∧ Kd.string.C w A3 x.f1.f2.length x.f1.f2 ∧ x.f1.f3.length ≤ c4 ∧ k27.C w A4 x.f1.f3.length x.f1.f3 := by
 obtain ⟨_, _, rfl, rfl, s1⟩ := h;obtain ⟨A3, c3, A4, c4, rfl, l3, g3, l4, g4⟩ := k27_open s1;exact ⟨A3, c3, A4, c4, rfl, l3, g3, l4, g4⟩
theorem k30_mk (w : World) (x : S30) {A3 : Option Addr} {c3 : Nat} (l3 : x.f1.f2.length ≤ c3) (g3 : Kd.string.C w A3 x.f1.f2.length x.f1.f2) {A4 : Option Addr} {c4 : Nat} (l4 : x.f1.f3.length ≤ c4) (g4 : k27.C w A4 x.f1.f3.length x.f1.f3) : k30.K w x [.string x.f0, .int .i64 x.f1.f0, .string x.f1.f1, .slice A3 x.f1.f2.length c3, .slice A4 x.f1.f3.length c4] := ⟨[.string x.f0], [.int .i64 x.f1.f0, .string x.f1.f1, .slice A3 x.f1.f2.length c3, .slice A4 x.f1.f3.length c4], rfl, rfl, (k27_mk w x.f1 l3 g3 l4 g4)⟩
theorem k30_openF {W : World} {ok : Nat → Prop} {x : S30} {cs : List Value} (h : Kd.FK k30 W ok x cs) : ∃ A3 c3 A4 c4, cs = [.string x.f0, .int .i64 x.f1.f0, .string x.f1.f1, .slice A3 x.f1.f2.length c3, .slice A4 x.f1.f3.length c4] ∧ x.f1.f2.length ≤ c3 ∧ Kd.F Kd.string W ok A3 x.f1.f2.length x.f1.f2 ∧ x.f1.f3.length ≤ c4 ∧ Kd.F k27 W ok A4 x.f1.f3.length x.f1.f3 := by
 obtain ⟨A3, c3, A4, c4, rfl, l3, _, l4, _⟩ := k30_open (Kd.FK_now h);exact ⟨A3, c3, A4, c4, rfl, l3, (fun W' hW => by obtain ⟨A3_, c3_, A4_, c4_, he, l3_, g3_, l4_, g4_⟩ := k30_open (h W' hW); injection (Option.some.inj (show some (Value.slice A3 x.f1.f2.length c3) = some (Value.slice A3_ x.f1.f2.length c3_) from congrArg (fun l => l[3]?) he)) with ha_ _ _; rw [ha_]; exact g3_), l4, (fun W' hW => by obtain ⟨A3_, c3_, A4_, c4_, he, l3_, g3_, l4_, g4_⟩ := k30_open (h W' hW); injection (Option.some.inj (show some (Value.slice A4 x.f1.f3.length c4) = some (Value.slice A4_ x.f1.f3.length c4_) from congrArg (fun l => l[4]?) he)) with ha_ _ _; rw [ha_]; exact g4_)⟩
theorem k30_mkF (W : World) (ok : Nat → Prop) (x : S30) {A3 : Option Addr} {c3 : Nat} (l3 : x.f1.f2.length ≤ c3) (g3 : Kd.F Kd.string W ok A3 x.f1.f2.length x.f1.f2) {A4 : Option Addr} {c4 : Nat} (l4 : x.f1.f3.length ≤ c4) (g4 : Kd.F k27 W ok A4 x.f1.f3.length x.f1.f3) : Kd.FK k30 W ok x [.string x.f0, .int .i64 x.f1.f0, .string x.f1.f1, .slice A3 x.f1.f2.length c3, .slice A4 x.f1.f3.length c4] := fun W2 hW => k30_mk W2 x l3 (g3 W2 hW) l4 (g4 W2 hW)
def rd_T30 (xs : List S30) (i : Int) : S30 := xs.getD i.toNat z30
theorem at_T30 {w : World} {A : Option Addr} {n : Nat} {xs : List S30} (h : Kd.C k30 w A n xs) (i : Int) (h0 : 0 ≤ i) (h1 : i < n) : ∃ ad A3 c3 A4 c4, A = some ad ∧ w.cell? (ad.add (i.toNat * 5)) = some (.string (rd_T30 xs i).f0) ∧ w.cell? ⟨(ad.add (i.toNat * 5)).block, (ad.add (i.toNat * 5)).off + 1, none⟩ = some (.int .i64 (rd_T30 xs i).f1.f0) ∧ w.cell? ⟨(ad.add (i.toNat * 5)).block, (ad.add (i.toNat * 5)).off + 2, none⟩ = some (.string (rd_T30 xs i).f1.f1) ∧ w.cell? ⟨(ad.add (i.toNat * 5)).block, (ad.add (i.toNat * 5)).off + 3, none⟩ = some (.slice A3 (rd_T30 xs i).f1.f2.length c3) ∧ w.cell? ⟨(ad.add (i.toNat * 5)).block, (ad.add (i.toNat * 5)).off + 4, none⟩ = some (.slice A4 (rd_T30 xs i).f1.f3.length c4) ∧ (rd_T30 xs i).f1.f2.length ≤ c3 ∧ Kd.string.C w A3 (rd_T30 xs i).f1.f2.length (rd_T30 xs i).f1.f2 ∧ (rd_T30 xs i).f1.f3.length ≤ c4 ∧ k27.C w A4 (rd_T30 xs i).f1.f3.length (rd_T30 xs i).f1.f3 := by
 obtain ⟨ad, c, e, _, hK, hc0⟩ := Kd.C_get h z30 i h0 h1;have hc : ∀ j u, c[j]? = some u → w.cell? (ad.add (i.toNat * 5 + j)) = some u := hc0;obtain ⟨A3, c3, A4, c4, rfl, l3, g3, l4, g4⟩ := k30_open hK;exact ⟨ad, A3, c3, A4, c4, e, hc 0 _ rfl, by rw [← add_field _ _ 1 (by omega)]; exact hc 1 _ rfl, by rw [← add_field _ _ 2 (by omega)]; exact hc 2 _ rfl, by rw [← add_field _ _ 3 (by omega)]; exact hc 3 _ rfl, by rw [← add_field _ _ 4 (by omega)]; exact hc 4 _ rfl, l3, g3, l4, g4⟩
structure S44 where
 f0 : Int
 f1 : ByteArray
 f2 : (List ByteArray)
 f3 : (List S44)
def z44 : S44 := ⟨(0 : Int), (⟨#[]⟩ : ByteArray), ([] : List ByteArray), ([] : List S44)⟩
def F44 (d : Kd S44) : Kd S44 := Kd.iso (Kd.pair (Kd.int .i64) (Kd.pair Kd.string (Kd.pair (Kd.slice 9 Kd.string) (Kd.slice 44 d)))) (fun x : S44 => (x.f0, x.f1, x.f2, x.f3))
theorem mono44 : Kd.Mono F44 := Kd.mono_iso _ (Kd.mono_pair (Kd.mono_const _) (Kd.mono_pair (Kd.mono_const _) (Kd.mono_pair (Kd.mono_const _) (Kd.mono_slice 44 Kd.mono_id))))
theorem sub44 : Kd.Sub F44 [9, 44] := Kd.sub_iso _ (Kd.sub_pair (Kd.sub_const _ (by decide)) (Kd.sub_pair (Kd.sub_const _ (by decide)) (Kd.sub_pair (Kd.sub_const _ (by decide)) (Kd.sub_slice 44 (by decide) Kd.sub_id))))
theorem sz44 : ∀ n, (Kd.upto F44 4 [9, 44] n).sz = 4 := Kd.upto_sz (fun _ => rfl)
def k44 : Kd S44 := Kd.fix F44 4 [9, 44] sz44 (Kd.upto_E sub44)
theorem k44_open {w : World} {x : S44} {cs : List Value} (h : k44.K w x cs) : ∃ A2 c2 A3 c3, cs = [.int .i64 x.f0, .string x.f1, .slice A2 x.f2.length c2, .slice A3 x.f3.length c3] ∧ x.f2.length ≤ c2 ∧ Kd.string.C w A2 x.f2.length x.f2 ∧ x.f3.length ≤ c3 ∧ k44.C w A3 x.f3.length x.f3 := by
 obtain ⟨n, h⟩ := h
 cases n with
 | zero => exact h.elim
 | succ n =>
  obtain ⟨_, _, rfl, rfl, ⟨_, _, rfl, rfl, ⟨_, _, rfl, ⟨A2, c2, rfl, l2, g2⟩, ⟨A3, c3, rfl, l3, g3⟩⟩⟩⟩ := h;exact ⟨A2, c2, A3, c3, rfl, l2, g2, l3, Kd.fix_C g3⟩
theorem k44_mk (w : World) (x : S44) {A2 : Option Addr} {c2 : Nat} (l2 : x.f2.length ≤ c2) (g2 : Kd.string.C w A2 x.f2.length x.f2) {A3 : Option Addr} {c3 : Nat} (l3 : x.f3.length ≤ c3) (g3 : k44.C w A3 x.f3.length x.f3) : k44.K w x [.int .i64 x.f0, .string x.f1, .slice A2 x.f2.length c2, .slice A3 x.f3.length c3] := by
 obtain ⟨n3, q3⟩ := Kd.fix_C_back mono44 g3;have r3 := Kd.upto_C_le mono44 sz44 (show n3 ≤ n3 by omega) q3;exact ⟨n3 + 1, ⟨[.int .i64 x.f0], [.string x.f1, .slice A2 x.f2.length c2, .slice A3 x.f3.length c3], rfl, rfl, ⟨[.string x.f1], [.slice A2 x.f2.length c2, .slice A3 x.f3.length c3], rfl, rfl, ⟨[.slice A2 x.f2.length c2], [.slice A3 x.f3.length c3], rfl, ⟨A2, c2, rfl, l2, g2⟩, ⟨A3, c3, rfl, l3, r3⟩⟩⟩⟩⟩
theorem k44_mkM (w : World) (base : Nat) (ok : Nat → Prop) (x : S44) {v2 : Value} (g2 : Kd.string.R 9 w base ok v2 x.f2) {v3 : Value} (g3 : k44.R 44 w base ok v3 x.f3) : k44.M w base ok x [.int .i64 x.f0, .string x.f1, v2, v3] := by
 obtain ⟨n3, q3⟩ := Kd.fix_R_back mono44 g3;have r3 := Kd.upto_R_le mono44 sz44 (show n3 ≤ n3 by omega) q3;exact ⟨n3 + 1, ⟨[.int .i64 x.f0], [.string x.f1, v2, v3], rfl, rfl, ⟨[.string x.f1], [v2, v3], rfl, rfl, ⟨[v2], [v3], rfl, ⟨v2, rfl, g2⟩, ⟨v3, rfl, r3⟩⟩⟩⟩⟩
theorem k44_openF {W : World} {ok : Nat → Prop} {x : S44} {cs : List Value} (h : Kd.FK k44 W ok x cs) : ∃ A2 c2 A3 c3, cs = [.int .i64 x.f0, .string x.f1, .slice A2 x.f2.length c2, .slice A3 x.f3.length c3] ∧ x.f2.length ≤ c2 ∧ Kd.F Kd.string W ok A2 x.f2.length x.f2 ∧ x.f3.length ≤ c3 ∧ Kd.F k44 W ok A3 x.f3.length x.f3 := by
 obtain ⟨A2, c2, A3, c3, rfl, l2, _, l3, _⟩ := k44_open (Kd.FK_now h);exact ⟨A2, c2, A3, c3, rfl, l2, (fun W' hW => by obtain ⟨A2_, c2_, A3_, c3_, he, l2_, g2_, l3_, g3_⟩ := k44_open (h W' hW); injection (Option.some.inj (show some (Value.slice A2 x.f2.length c2) = some (Value.slice A2_ x.f2.length c2_) from congrArg (fun l => l[2]?) he)) with ha_ _ _; rw [ha_]; exact g2_), l3, (fun W' hW => by obtain ⟨A2_, c2_, A3_, c3_, he, l2_, g2_, l3_, g3_⟩ := k44_open (h W' hW); injection (Option.some.inj (show some (Value.slice A3 x.f3.length c3) = some (Value.slice A3_ x.f3.length c3_) from congrArg (fun l => l[3]?) he)) with ha_ _ _; rw [ha_]; exact g3_)⟩
theorem k44_mkF (W : World) (ok : Nat → Prop) (x : S44) {A2 : Option Addr} {c2 : Nat} (l2 : x.f2.length ≤ c2) (g2 : Kd.F Kd.string W ok A2 x.f2.length x.f2) {A3 : Option Addr} {c3 : Nat} (l3 : x.f3.length ≤ c3) (g3 : Kd.F k44 W ok A3 x.f3.length x.f3) : Kd.FK k44 W ok x [.int .i64 x.f0, .string x.f1, .slice A2 x.f2.length c2, .slice A3 x.f3.length c3] := fun W2 hW => k44_mk W2 x l2 (g2 W2 hW) l3 (g3 W2 hW)
def rd_T44 (xs : List S44) (i : Int) : S44 := xs.getD i.toNat z44
theorem at_T44 {w : World} {A : Option Addr} {n : Nat} {xs : List S44} (h : Kd.C k44 w A n xs) (i : Int) (h0 : 0 ≤ i) (h1 : i < n) : ∃ ad A2 c2 A3 c3, A = some ad ∧ w.cell? (ad.add (i.toNat * 4)) = some (.int .i64 (rd_T44 xs i).f0) ∧ w.cell? ⟨(ad.add (i.toNat * 4)).block, (ad.add (i.toNat * 4)).off + 1, none⟩ = some (.string (rd_T44 xs i).f1) ∧ w.cell? ⟨(ad.add (i.toNat * 4)).block, (ad.add (i.toNat * 4)).off + 2, none⟩ = some (.slice A2 (rd_T44 xs i).f2.length c2) ∧ w.cell? ⟨(ad.add (i.toNat * 4)).block, (ad.add (i.toNat * 4)).off + 3, none⟩ = some (.slice A3 (rd_T44 xs i).f3.length c3) ∧ (rd_T44 xs i).f2.length ≤ c2 ∧ Kd.string.C w A2 (rd_T44 xs i).f2.length (rd_T44 xs i).f2 ∧ (rd_T44 xs i).f3.length ≤ c3 ∧ k44.C w A3 (rd_T44 xs i).f3.length (rd_T44 xs i).f3 := by
 obtain ⟨ad, c, e, _, hK, hc0⟩ := Kd.C_get h z44 i h0 h1;have hc : ∀ j u, c[j]? = some u → w.cell? (ad.add (i.toNat * 4 + j)) = some u := hc0;obtain ⟨A2, c2, A3, c3, rfl, l2, g2, l3, g3⟩ := k44_open hK;exact ⟨ad, A2, c2, A3, c3, e, hc 0 _ rfl, by rw [← add_field _ _ 1 (by omega)]; exact hc 1 _ rfl, by rw [← add_field _ _ 2 (by omega)]; exact hc 2 _ rfl, by rw [← add_field _ _ 3 (by omega)]; exact hc 3 _ rfl, l2, g2, l3, g3⟩
structure S37 where
 f0 : Bool
 f1 : S27
 f2 : ByteArray
 f3 : S27
def z37 : S37 := ⟨false, z27, (⟨#[]⟩ : ByteArray), z27⟩
structure S123 where
 f0 : Int
 f1 : Int
 f2 : Int
def z123 : S123 := ⟨(0 : Int), (0 : Int), (0 : Int)⟩
def k123 : Kd S123 := Kd.iso (Kd.pair (Kd.int .i64) (Kd.pair (Kd.int .i64) (Kd.int .i64))) (fun x : S123 => (x.f0, x.f1, x.f2))
theorem k123_open {w : World} {x : S123} {cs : List Value} (h : k123.K w x cs) : cs = [.int .i64 x.f0, .int .i64 x.f1, .int .i64 x.f2] := by
 obtain ⟨_, _, rfl, rfl, ⟨_, _, rfl, rfl, rfl⟩⟩ := h;exact rfl
theorem k123_mkM (w : World) (base : Nat) (ok : Nat → Prop) (x : S123)  : k123.M w base ok x [.int .i64 x.f0, .int .i64 x.f1, .int .i64 x.f2] := ⟨[.int .i64 x.f0], [.int .i64 x.f1, .int .i64 x.f2], rfl, rfl, ⟨[.int .i64 x.f1], [.int .i64 x.f2], rfl, rfl, rfl⟩⟩
def rd_T123 (xs : List S123) (i : Int) : S123 := xs.getD i.toNat z123
theorem at_T123 {w : World} {A : Option Addr} {n : Nat} {xs : List S123} (h : Kd.C k123 w A n xs) (i : Int) (h0 : 0 ≤ i) (h1 : i < n) : ∃ ad , A = some ad ∧ w.cell? (ad.add (i.toNat * 3)) = some (.int .i64 (rd_T123 xs i).f0) ∧ w.cell? ⟨(ad.add (i.toNat * 3)).block, (ad.add (i.toNat * 3)).off + 1, none⟩ = some (.int .i64 (rd_T123 xs i).f1) ∧ w.cell? ⟨(ad.add (i.toNat * 3)).block, (ad.add (i.toNat * 3)).off + 2, none⟩ = some (.int .i64 (rd_T123 xs i).f2) := by
 obtain ⟨ad, c, e, _, hK, hc0⟩ := Kd.C_get h z123 i h0 h1;have hc : ∀ j u, c[j]? = some u → w.cell? (ad.add (i.toNat * 3 + j)) = some u := hc0;obtain rfl := k123_open hK;exact ⟨ad, e, hc 0 _ rfl, by rw [← add_field _ _ 1 (by omega)]; exact hc 1 _ rfl, by rw [← add_field _ _ 2 (by omega)]; exact hc 2 _ rfl⟩
structure S46 where
 f0 : Bool
 f1 : S44
 f2 : ByteArray
 f3 : S44
def z46 : S46 := ⟨false, z44, (⟨#[]⟩ : ByteArray), z44⟩
structure S48 where
 f0 : Int
 f1 : S44
def z48 : S48 := ⟨(0 : Int), z44⟩
end Go.Proofs.YteighppcdpaekaaDoor.P
end
section
namespace Go.Proofs.YteighppcdpaekaaDoor.P
open Go.RowKit Go.Proofs.YteighppcdpaekaaDoorW.PrintWords
open Go.ChangeShapes Go.WideShapes
set_option maxRecDepth 100000
instance : Inhabited S27 := ⟨z27⟩
section
variable {H : Type} {enc : TypeId × Value → H} {W : World} {sp : Nat → Bool} {held : Bool}
end
end Go.Proofs.YteighppcdpaekaaDoor.P
end
section
namespace Go.Proofs.YteighppcdpaekaaDoor
open Go.Shelf Go.RowKit Go.Sort Go.Lib
def Tryd.laysM171_ren : Go.Shelf.Ren := ⟨fun | 171 => 41 | 243 => 62 | 246 => 84 | 283 => 102 | 284 => 103 | 285 => 104 | 286 => 105 | 129 => 114 | 317 => 113 | 318 => 115 | 319 => 116 | 320 => 117 | 337 => 122 | 338 => 123 | n => n, fun | 3 => 3 | 9 => 9 | 2 => 2 | 4 => 4 | 171 => 149 | 0 => 0 | 53 => 150 | 37 => 35 | 5 => 5 | 173 => 153 | 212 => 166 | 51 => 167 | 20 => 20 | 213 => 168 | 46 => 146 | 232 => 178 | 233 => 179 | n => n, fun | 17 => 2 | 18 => 3 | 19 => 4 | n => n⟩
theorem Tryd.laysM171 : Go.Proofs.LaysM.n171 Tryd.prog Tryd.laysM171_ren := {
 mixed := by kernel_rfl
 f129 := Tryd.func114.trans (congrArg some (by kernel_rfl))
 f171 := Tryd.func41.trans (congrArg some (by kernel_rfl))
 f243 := Tryd.func62.trans (congrArg some (by kernel_rfl))
 f246 := Tryd.func84.trans (congrArg some (by kernel_rfl))
 f283 := Tryd.func102.trans (congrArg some (by kernel_rfl))
 f284 := Tryd.func103.trans (congrArg some (by kernel_rfl))
 f285 := Tryd.func104.trans (congrArg some (by kernel_rfl))
 f286 := Tryd.func105.trans (congrArg some (by kernel_rfl))
 f317 := Tryd.func113.trans (congrArg some (by kernel_rfl))
 f318 := Tryd.func115.trans (congrArg some (by kernel_rfl))
 f319 := Tryd.func116.trans (congrArg some (by kernel_rfl))
 f320 := Tryd.func117.trans (congrArg some (by kernel_rfl))
 f337 := Tryd.func122.trans (congrArg some (by kernel_rfl))
 f338 := Tryd.func123.trans (congrArg some (by kernel_rfl))
 t0 := Tryd.underlying0
 a0 := Tryd.isAgg0
 z0 := Tryd.sizeOf0
 v0 := Tryd.zeroValue0
 t2 := Tryd.underlying2
 a2 := Tryd.isAgg2
 z2 := Tryd.sizeOf2
 v2 := Tryd.zeroValue2
 t3 := Tryd.underlying3
 a3 := Tryd.isAgg3
 z3 := Tryd.sizeOf3
 v3 := Tryd.zeroValue3
 t4 := Tryd.underlying4
 a4 := Tryd.isAgg4
 z4 := Tryd.sizeOf4
 v4 := Tryd.zeroValue4
 t5 := Tryd.underlying5
 a5 := Tryd.isAgg5
 z5 := Tryd.sizeOf5
 v5 := Tryd.zeroValue5
 t9 := Tryd.underlying9
 a9 := Tryd.isAgg9
 z9 := Tryd.sizeOf9
 v9 := Tryd.zeroValue9
 t20 := Tryd.underlying20
 a20 := Tryd.isAgg20
 z20 := Tryd.sizeOf20
 v20 := Tryd.zeroValue20
 t37 := Tryd.underlying35
 a37 := Tryd.isAgg35
 z37 := Tryd.sizeOf35
 v37 := Tryd.zeroValue35
 t46 := Tryd.underlying146
 a46 := Tryd.isAgg146
 z46 := Tryd.sizeOf146
 v46 := Tryd.zeroValue146
 t51 := Tryd.underlying167
 a51 := Tryd.isAgg167
 z51 := Tryd.sizeOf167
 v51 := Tryd.zeroValue167
 t53 := Tryd.underlying150
 a53 := Tryd.isAgg150
 z53 := Tryd.sizeOf150
 v53 := Tryd.zeroValue150
 t171 := Tryd.underlying149
 a171 := Tryd.isAgg149
 z171 := Tryd.sizeOf149
 v171 := Tryd.zeroValue149
 t173 := Tryd.underlying153
 a173 := Tryd.isAgg153
 z173 := Tryd.sizeOf153
 v173 := Tryd.zeroValue153
 t212 := Tryd.underlying166
 a212 := Tryd.isAgg166
 z212 := Tryd.sizeOf166
 v212 := Tryd.zeroValue166
 t213 := Tryd.underlying168
 a213 := Tryd.isAgg168
 z213 := Tryd.sizeOf168
 t232 := Tryd.underlying178
 a232 := Tryd.isAgg178
 z232 := Tryd.sizeOf178
 v232 := Tryd.zeroValue178
 t233 := Tryd.underlying179
 a233 := Tryd.isAgg179
 z233 := Tryd.sizeOf179
 v233 := Tryd.zeroValue179
 g17 := by kernel_rfl
 g18 := by kernel_rfl
 g19 := by kernel_rfl
 i0 := by kernel_rfl
 i2 := by kernel_rfl
 i3 := by kernel_rfl
 i4 := by kernel_rfl
 i5 := by kernel_rfl
 i9 := by kernel_rfl
 i20 := by kernel_rfl
 i37 := by kernel_rfl
 i46 := by kernel_rfl
 i51 := by kernel_rfl
 i53 := by kernel_rfl
 i171 := by kernel_rfl
 i173 := by kernel_rfl
 i212 := by kernel_rfl
 i232 := by kernel_rfl
 i233 := by kernel_rfl
 m17 := by kernel_rfl
 m18 := by kernel_rfl
 m19 := by kernel_rfl }
theorem Tryd.strconv_Itoa (n : Int) (h0 : -9223372036854775808 ≤ n) (h1 : n ≤ 9223372036854775807) (w : World) (htab : Lib.TabIs Tryd.prog w "internal/strconv.uint64pow10" .u64 Lib.pow10Tab) :
  Calls Tryd.prog 41 #[.int .i64 n] w fun e w' => e = .returned (.string ⟨(Lib.itoa n).toArray⟩) ∧ ∃ k os, w' = grow (w.drewN k) os := Any.strconv_Itoa Tryd.laysM171 n h0 h1 w htab
def Tryd.laysC172_ren : Go.Shelf.Ren := ⟨fun | 172 => 49 | 244 => 71 | 245 => 72 | 247 => 91 | 279 => 92 | 280 => 93 | 281 => 94 | 282 => 95 | 287 => 109 | 316 => 110 | 171 => 41 | 205 => 111 | 321 => 118 | 322 => 119 | 243 => 62 | 246 => 84 | 283 => 102 | 284 => 103 | 285 => 104 | 286 => 105 | 129 => 114 | 317 => 113 | 318 => 115 | 319 => 116 | 320 => 117 | 337 => 122 | 338 => 123 | n => n, fun | 9 => 9 | 3 => 3 | 75 => 102 | 76 => 103 | 4 => 4 | 5 => 5 | 167 => 139 | 37 => 35 | 0 => 0 | 85 => 140 | 2 => 2 | 168 => 142 | 53 => 150 | 175 => 158 | 46 => 146 | 210 => 162 | 127 => 171 | 145 => 174 | 143 => 172 | 21 => 21 | 171 => 149 | 173 => 153 | 212 => 166 | 51 => 167 | 20 => 20 | 213 => 168 | 232 => 178 | 233 => 179 | 80 => 125 | n => n, fun | 15 => 0 | 16 => 1 | 17 => 2 | 18 => 3 | 19 => 4 | n => n⟩
theorem Tryd.laysC172 : Go.Proofs.LaysC.n172 Tryd.prog Tryd.laysC172_ren := {
 mixed := by kernel_rfl
 f129 := Tryd.func114.trans (congrArg some (by kernel_rfl))
 f171 := Tryd.func41.trans (congrArg some (by kernel_rfl))
 f172 := Tryd.func49.trans (congrArg some (by kernel_rfl))
 f205 := Tryd.func111.trans (congrArg some (by kernel_rfl))
 f243 := Tryd.func62.trans (congrArg some (by kernel_rfl))
 f244 := Tryd.func71.trans (congrArg some (by kernel_rfl))
 f245 := Tryd.func72.trans (congrArg some (by kernel_rfl))
 f246 := Tryd.func84.trans (congrArg some (by kernel_rfl))
 f247 := Tryd.func91.trans (congrArg some (by kernel_rfl))
 f279 := Tryd.func92.trans (congrArg some (by kernel_rfl))
 f280 := Tryd.func93.trans (congrArg some (by kernel_rfl))
 f281 := Tryd.func94.trans (congrArg some (by kernel_rfl))
 f282 := Tryd.func95.trans (congrArg some (by kernel_rfl))
 f283 := Tryd.func102.trans (congrArg some (by kernel_rfl))
 f284 := Tryd.func103.trans (congrArg some (by kernel_rfl))
 f285 := Tryd.func104.trans (congrArg some (by kernel_rfl))
 f286 := Tryd.func105.trans (congrArg some (by kernel_rfl))
 f287 := Tryd.func109.trans (congrArg some (by kernel_rfl))
 f316 := Tryd.func110.trans (congrArg some (by kernel_rfl))
 f317 := Tryd.func113.trans (congrArg some (by kernel_rfl))
 f318 := Tryd.func115.trans (congrArg some (by kernel_rfl))
 f319 := Tryd.func116.trans (congrArg some (by kernel_rfl))
 f320 := Tryd.func117.trans (congrArg some (by kernel_rfl))
 f321 := Tryd.func118.trans (congrArg some (by kernel_rfl))
 f322 := Tryd.func119.trans (congrArg some (by kernel_rfl))
 f337 := Tryd.func122.trans (congrArg some (by kernel_rfl))
 f338 := Tryd.func123.trans (congrArg some (by kernel_rfl))
 t0 := Tryd.underlying0
 a0 := Tryd.isAgg0
 z0 := Tryd.sizeOf0
 v0 := Tryd.zeroValue0
 t2 := Tryd.underlying2
 a2 := Tryd.isAgg2
 z2 := Tryd.sizeOf2
 v2 := Tryd.zeroValue2
 t3 := Tryd.underlying3
 a3 := Tryd.isAgg3
 z3 := Tryd.sizeOf3
 v3 := Tryd.zeroValue3
 t4 := Tryd.underlying4
 a4 := Tryd.isAgg4
 z4 := Tryd.sizeOf4
 v4 := Tryd.zeroValue4
 t5 := Tryd.underlying5
 a5 := Tryd.isAgg5
 z5 := Tryd.sizeOf5
 v5 := Tryd.zeroValue5
 t9 := Tryd.underlying9
 a9 := Tryd.isAgg9
 z9 := Tryd.sizeOf9
 v9 := Tryd.zeroValue9
 t20 := Tryd.underlying20
 a20 := Tryd.isAgg20
 z20 := Tryd.sizeOf20
 v20 := Tryd.zeroValue20
 t21 := Tryd.underlying21
 a21 := Tryd.isAgg21
 z21 := Tryd.sizeOf21
 v21 := Tryd.zeroValue21
 t37 := Tryd.underlying35
 a37 := Tryd.isAgg35
 z37 := Tryd.sizeOf35
 v37 := Tryd.zeroValue35
 t46 := Tryd.underlying146
 a46 := Tryd.isAgg146
 z46 := Tryd.sizeOf146
 v46 := Tryd.zeroValue146
 t51 := Tryd.underlying167
 a51 := Tryd.isAgg167
 z51 := Tryd.sizeOf167
 v51 := Tryd.zeroValue167
 t53 := Tryd.underlying150
 a53 := Tryd.isAgg150
 z53 := Tryd.sizeOf150
 v53 := Tryd.zeroValue150
 t75 := Tryd.underlying102
 a75 := Tryd.isAgg102
 z75 := Tryd.sizeOf102
 v75 := Tryd.zeroValue102
 t76 := Tryd.underlying103
 a76 := Tryd.isAgg103
 z76 := Tryd.sizeOf103
 v76 := Tryd.zeroValue103
 t85 := Tryd.underlying140
 a85 := Tryd.isAgg140
 z85 := Tryd.sizeOf140
 v85 := Tryd.zeroValue140
 t127 := Tryd.underlying171
 a127 := Tryd.isAgg171
 z127 := Tryd.sizeOf171
 v127 := Tryd.zeroValue171
 t143 := Tryd.underlying172
 a143 := Tryd.isAgg172
 z143 := Tryd.sizeOf172
 v143 := Tryd.zeroValue172
 t145 := Tryd.underlying174
 a145 := Tryd.isAgg174
 z145 := Tryd.sizeOf174
 v145 := Tryd.zeroValue174
 t167 := Tryd.underlying139
 a167 := Tryd.isAgg139
 z167 := Tryd.sizeOf139
 v167 := Tryd.zeroValue139
 t168 := Tryd.underlying142
 a168 := Tryd.isAgg142
 z168 := Tryd.sizeOf142
 v168 := Tryd.zeroValue142
 t171 := Tryd.underlying149
 a171 := Tryd.isAgg149
 z171 := Tryd.sizeOf149
 v171 := Tryd.zeroValue149
 t173 := Tryd.underlying153
 a173 := Tryd.isAgg153
 z173 := Tryd.sizeOf153
 v173 := Tryd.zeroValue153
 t175 := Tryd.underlying158
 a175 := Tryd.isAgg158
 z175 := Tryd.sizeOf158
 v175 := Tryd.zeroValue158
 t210 := Tryd.underlying162
 a210 := Tryd.isAgg162
 z210 := Tryd.sizeOf162
 v210 := Tryd.zeroValue162
 t212 := Tryd.underlying166
 a212 := Tryd.isAgg166
 z212 := Tryd.sizeOf166
 v212 := Tryd.zeroValue166
 t213 := Tryd.underlying168
 a213 := Tryd.isAgg168
 z213 := Tryd.sizeOf168
 t232 := Tryd.underlying178
 a232 := Tryd.isAgg178
 z232 := Tryd.sizeOf178
 v232 := Tryd.zeroValue178
 t233 := Tryd.underlying179
 a233 := Tryd.isAgg179
 z233 := Tryd.sizeOf179
 v233 := Tryd.zeroValue179
 g15 := by kernel_rfl
 g16 := by kernel_rfl
 g17 := by kernel_rfl
 g18 := by kernel_rfl
 g19 := by kernel_rfl
 t80 := Tryd.underlying125
 a80 := Tryd.isAgg125
 z80 := Tryd.sizeOf125
 v80 := Tryd.zeroValue125
 i0 := by kernel_rfl
 i2 := by kernel_rfl
 i3 := by kernel_rfl
 i4 := by kernel_rfl
 i5 := by kernel_rfl
 i9 := by kernel_rfl
 i20 := by kernel_rfl
 i21 := by kernel_rfl
 i37 := by kernel_rfl
 i46 := by kernel_rfl
 i51 := by kernel_rfl
 i53 := by kernel_rfl
 i75 := by kernel_rfl
 i76 := by kernel_rfl
 i80 := by kernel_rfl
 i85 := by kernel_rfl
 i127 := by kernel_rfl
 i143 := by kernel_rfl
 i145 := by kernel_rfl
 i167 := by kernel_rfl
 i168 := by kernel_rfl
 i171 := by kernel_rfl
 i173 := by kernel_rfl
 i175 := by kernel_rfl
 i210 := by kernel_rfl
 i212 := by kernel_rfl
 i232 := by kernel_rfl
 i233 := by kernel_rfl
 m15 := by kernel_rfl
 m16 := by kernel_rfl
 m17 := by kernel_rfl
 m18 := by kernel_rfl
 m19 := by kernel_rfl
 c0 := by kernel_rfl
 c2 := by kernel_rfl
 c3 := by kernel_rfl
 c4 := by kernel_rfl
 c5 := by kernel_rfl
 c9 := by kernel_rfl
 c20 := by kernel_rfl
 c21 := by kernel_rfl
 c37 := by kernel_rfl
 c46 := by kernel_rfl
 c51 := by kernel_rfl
 c53 := by kernel_rfl
 c75 := by kernel_rfl
 c76 := by kernel_rfl
 c80 := by kernel_rfl
 c85 := by kernel_rfl
 c127 := by kernel_rfl
 c143 := by kernel_rfl
 c145 := by kernel_rfl
 c167 := by kernel_rfl
 c168 := by kernel_rfl
 c171 := by kernel_rfl
 c173 := by kernel_rfl
 c175 := by kernel_rfl
 c210 := by kernel_rfl
 c212 := by kernel_rfl
 c213 := by kernel_rfl
 c232 := by kernel_rfl
 c233 := by kernel_rfl }
theorem Tryd.strconv_Atoi_ok (s : ByteArray) (hmax : s.size ≤ 9223372036854775806) (v : Int) (h : Lib.atoiAll s.data.toList = .ok v) (w : World) :
  Calls Tryd.prog 49 #[.string s] w fun e w' => e = .returned (.tuple #[.int .i64 v, .nilIface]) ∧ (w' = w ∨ ∃ t, w' = Lib.bytesWorld w 5 t) := Any.strconv_Atoi_ok Tryd.laysC172 s hmax v h w
theorem Tryd.strconv_Atoi_syntax_var (s : ByteArray) (hlim : s.size ≤ 281474976710656) (h : Lib.atoiAll s.data.toList = Lib.NumEnd.syntax) (tp : TypeId) (p : Value) (w : World) (hvar : w.var? Tryd.prog "strconv.ErrSyntax" = some #[.iface tp p]) :
  Calls Tryd.prog 49 #[.string s] w fun e w' => ∃ N, e = .returned (.tuple #[.int .i64 0, .iface 142 (.pointer (some ⟨N, 0, none⟩))]) ∧ w.heap.size ≤ N ∧ w'.heap[N]? = some (.cells #[.string ⟨#[65, 116, 111, 105]⟩, .string s, .iface tp p] 162 (0, 0)) ∧ Below w.heap.size w w' := Any.strconv_Atoi_syntax_var Tryd.laysC172 s hlim h tp p w hvar
theorem Tryd.strconv_Atoi_range_var (s : ByteArray) (hlim : s.size ≤ 281474976710656) (h : Lib.atoiAll s.data.toList = .range) (tp : TypeId) (p : Value) (w : World) (hvar : w.var? Tryd.prog "strconv.ErrRange" = some #[.iface tp p]) :
  Calls Tryd.prog 49 #[.string s] w fun e w' => ∃ N, e = .returned (.tuple #[.int .i64 (Lib.atoiSat s.data.toList), .iface 142 (.pointer (some ⟨N, 0, none⟩))]) ∧ w.heap.size ≤ N ∧ w'.heap[N]? = some (.cells #[.string ⟨#[65, 116, 111, 105]⟩, .string s, .iface tp p] 162 (0, 0)) ∧ Below w.heap.size w w' := Any.strconv_Atoi_range_var Tryd.laysC172 s hlim h tp p w hvar
end Go.Proofs.YteighppcdpaekaaDoor
end
section
namespace Go.Proofs.YteighppcdpaekaaDoor.P
open Go.RowKit Go.Proofs.YteighppcdpaekaaDoorW.PrintWords Go.Proofs.YteighppcdpaekaaDoorW.PrintLast Go.Proofs.YteighppcdpaekaaDoorW.PrintMore
structure TabOk (w : World) : Prop where
 pow : Lib.TabIs Tryd.prog w "internal/strconv.uint64pow10" .u64 Lib.pow10Tab
 syn : ∃ tp p, w.var? Tryd.prog "strconv.ErrSyntax" = some #[.iface tp p]
 ran : ∃ tp p, w.var? Tryd.prog "strconv.ErrRange" = some #[.iface tp p]
theorem var_below {n : String} {cs : Array Value} {w w' : World} (h : w.var? Tryd.prog n = some cs) (hb : Below w.heap.size w w') : w'.var? Tryd.prog n = some cs := by
 unfold World.var? at h ⊢
 cases hg : Tryd.prog.globalNamed n with
 | none => rw [hg] at h; cases h
 | some g =>
  rw [hg] at h;simp only [Option.bind_some] at h ⊢
  cases hh : w.heap[g]? with
  | none => rw [hh] at h; cases h
  | some o => rw [hb.block g (Array.getElem?_eq_some_iff.1 hh).1, hh]; rw [hh] at h; exact h
theorem TabOk.below {w w' : World} (h : TabOk w) (hb : Below w.heap.size w w') : TabOk w' := by
 obtain ⟨a, ⟨b1, b2, b⟩, ⟨c1, c2, c⟩⟩ := h;exact ⟨var_below a hb, ⟨b1, b2, var_below b hb⟩, ⟨c1, c2, var_below c hb⟩⟩
theorem itoa_below (n : Int) (h0 : -9223372036854775808 ≤ n) (h1 : n ≤ 9223372036854775807) (w : World) (hT : TabOk w) :
  Calls Tryd.prog 41 #[.int .i64 n] w fun e w' => e = .returned (.string ⟨(Lib.itoa n).toArray⟩) ∧ Below w.heap.size w w' := by
 refine (Tryd.strconv_Itoa n h0 h1 w hT.pow).mono ?_;rintro e w' ⟨he, k, os, rfl⟩;refine ⟨he, rfl, rfl, rfl, ?_, fun j hj => ?_⟩
 ·show w.heap.size ≤ ((w.drewN k).heap ++ os).size
  rw [Array.size_append];exact Nat.le_add_right _ _
 ·show ((w.drewN k).heap ++ os)[j]? = _
  exact Array.getElem?_append_left hj
def json_Of.f (a0 : Int) : Option (Int × ByteArray × List ByteArray × (List (S27))) := if -9223372036854775808 ≤ a0 ∧ a0 ≤ 9223372036854775807 then some (3, ⟨(Lib.itoa a0).toArray⟩, [], []) else none
set_option maxHeartbeats 1600000 in
set_option maxRecDepth 100000 in
theorem json_Of.calls (a0 : Int) (r1 : Int) (r2 : ByteArray) (r3 : List ByteArray) (r4 : List (S27)) (w : World) (h : json_Of.f a0 = some (r1, r2, r3, r4)) (hT : TabOk w) :
  Calls Tryd.prog 10 #[.int .i64 a0] w fun e w' => ∃ v2_ v3_ : Value, e = .returned (.agg #[.int .i64 r1, .string r2, v2_, v3_]) ∧ Kd.R Kd.string 9 w' w.heap.size (fun _ => True) v2_ r3 ∧ Kd.R k27 27 w' w.heap.size (fun k_ => some k_ ≠ (v2_ : Value).ownBlock) v3_ r4 ∧ Below w.heap.size w w' := by
 unfold json_Of.f at h
 split at h
 ·rename_i hb
  simp only [Option.some.injEq, Prod.mk.injEq] at h;obtain ⟨rfl, rfl, rfl, rfl⟩ := h;generalize hS : (⟨(Lib.itoa a0).toArray⟩ : ByteArray) = S
  have hz : ∀ W, TabOk W → Calls Tryd.prog 41 #[.int .i64 a0] W fun e w' => e = .returned (.string S) ∧ Below W.heap.size W w' := fun W hW => by rw [← hS]; exact itoa_below a0 hb.1 hb.2 W hW
  have hb0 := blk_new w (.cells #[.int .i64 0, .string ⟨#[]⟩, .slice none 0 0, .slice none 0 0] 27);have hT1 := hT.below (bal (Below.refl _ _) (.cells #[.int .i64 0, .string ⟨#[]⟩, .slice none 0 0, .slice none 0 0] 27));have hB1 := bal (Below.refl w.heap.size w) (.cells #[.int .i64 0, .string ⟨#[]⟩, .slice none 0 0, .slice none 0 0] 27);go_enter Tryd.func10, Tryd.ntmps10;go_wp2_with (go_at_call 41; refine (hz _ hT1).mono ?_; rintro e w1 ⟨rfl, hB2⟩; have hb1 := (hB2.block _ (blk_lt hb0)).trans hb0; have c0 : w1.cell? ⟨w.heap.size, 0, none⟩ = some (.int .i64 0) := bceq hb1 0; have c1 : w1.cell? ⟨w.heap.size, 1, none⟩ = some (.string ⟨#[]⟩) := bceq hb1 1; have c2 : w1.cell? ⟨w.heap.size, 2, none⟩ = some (.slice none 0 0) := bceq hb1 2; have c3 : w1.cell? ⟨w.heap.size, 3, none⟩ = some (.slice none 0 0) := bceq hb1 3; have x0 := bfz hb1 0; have x1 := bfz hb1 1; have x2 := bfz hb1 2; have x3 := bfz hb1 3);have hb4 := blk_put (blk_put (blk_put (blk_put hb1 0 (.int .i64 3) rfl) 1 (.string S) rfl) 2 (.slice none 0 0) rfl) 3 (.slice none 0 0) rfl;refine bodyPost_ret (results_cell_row rfl _ _ w.heap.size 27 #[.int .i64 3, .string S, .slice none 0 0, .slice none 0 0] (0, 0) _ rfl hb4 Tryd.underlying27 rfl (by kernel_rfl)) rfl ?_;refine ⟨_, _, rfl, Kd.R_nil _ _ _ _ _, Kd.R_nil _ _ _ _ _, ?_⟩;exact bstq (bstq (bstq (bstq (below_step hB1 hB2) (Nat.le_refl _)) (Nat.le_refl _)) (Nat.le_refl _)) (Nat.le_refl _)
 ·cases h
end Go.Proofs.YteighppcdpaekaaDoor.P
end
section
namespace Go.Proofs.YteighppcdpaekaaDoor.P
set_option linter.unusedVariables false
set_option linter.unusedSimpArgs false
open Go.RowKit Go.Proofs.YteighppcdpaekaaDoorW.PrintWords Go.Proofs.YteighppcdpaekaaDoorW.PrintLast Go.Proofs.YteighppcdpaekaaDoorW.PrintMore
def intT (t : List UInt8) : Int × Bool := match Lib.atoiAll t with
 | .ok v => if Lib.itoa v = t ∧ -999999999 ≤ v ∧ v ≤ 999999999 then (v, true) else (0, false)
 | _ => (0, false)
def json_Int.f (a0_0 : Int) (a0_1 : ByteArray) (l0_2 : List ByteArray) (l0_3 : List S27) : Option (Int × Bool) := if a0_1.size ≤ 1000000 then some (if a0_0 = 3 then intT a0_1.data.toList else (0, false)) else none
set_option maxHeartbeats 1600000 in
set_option maxRecDepth 100000 in
theorem int_no (k : Int) (hk : k ≠ 3) (s : ByteArray) (v2 v3 : Value) (w : World) :
  Calls Tryd.prog 29 #[.agg #[.int .i64 k, .string s, v2, v3]] w fun e w' => e = .returned (.tuple #[.int .i64 0, .bool false]) ∧ Below w.heap.size w w' := by
 have hB1 := bal (Below.refl w.heap.size w) (.cells #[.int .i64 k, .string s, v2, v3] 27);have hk1 : (k != 3) = true := bne_iff_ne.mpr hk;go_enter Tryd.func29, Tryd.ntmps29;go_wp2;refine bodyPost_ret (v := .tuple #[.int .i64 0, .bool false]) (by simp [results, Tryd.results29, go_sem]) rfl ?_;exact ⟨rfl, hB1⟩
set_option maxHeartbeats 1600000 in
set_option maxRecDepth 100000 in
theorem int_err (s : ByteArray) (hs : s.size ≤ 1000000) (v2 v3 : Value) (w : World) (hT : TabOk w) (hn : ∀ v, Lib.atoiAll s.data.toList ≠ .ok v) :
  Calls Tryd.prog 29 #[.agg #[.int .i64 3, .string s, v2, v3]] w fun e w' => e = .returned (.tuple #[.int .i64 0, .bool false]) ∧ Below w.heap.size w w' := by
 have hB1 := bal (Below.refl w.heap.size w) (.cells #[.int .i64 3, .string s, v2, v3] 27);have hT1 := hT.below hB1
 have hA : ∃ (z : Int), Calls Tryd.prog 49 #[.string s] (w.alloc (.cells #[.int .i64 3, .string s, v2, v3] 27)) fun e w' => ∃ N, e = .returned (.tuple #[.int .i64 z, .iface 142 (.pointer (some ⟨N, 0, none⟩))]) ∧ Below (w.alloc (.cells #[.int .i64 3, .string s, v2, v3] 27)).heap.size (w.alloc (.cells #[.int .i64 3, .string s, v2, v3] 27)) w' := by
  obtain ⟨_, ⟨tp, p, hp⟩, ⟨tq, q, hq⟩⟩ := hT1
  rcases ha : Lib.atoiAll s.data.toList with v | _ | _
  ·exact absurd ha (hn v)
  ·exact ⟨0, (Tryd.strconv_Atoi_syntax_var s (by omega) ha tp p _ hp).mono (fun e w' ⟨N, h1, _, _, h4⟩ => ⟨N, h1, h4⟩)⟩
  ·exact ⟨Lib.atoiSat s.data.toList, (Tryd.strconv_Atoi_range_var s (by omega) ha tq q _ hq).mono (fun e w' ⟨N, h1, _, _, h4⟩ => ⟨N, h1, h4⟩)⟩
 obtain ⟨z, hz⟩ := hA;go_enter Tryd.func29, Tryd.ntmps29;go_wp2_with (go_at_call 49; refine hz.mono ?_; rintro e w1 ⟨N, rfl, hB2⟩);have hB3 := below_step hB1 hB2;clear hz hB1 hB2 hT hT1
 go_quiet (fail)
 go_wp2;refine bodyPost_ret (v := .tuple #[.int .i64 0, .bool false]) (by simp [results, Tryd.results29, go_sem]) rfl ?_;exact ⟨rfl, by repeat (first | exact hB3 | apply pbdN | apply bdr1)⟩
set_option maxHeartbeats 1600000 in
set_option maxRecDepth 100000 in
theorem int_ok (s : ByteArray) (hs : s.size ≤ 1000000) (v2 v3 : Value) (w : World) (hT : TabOk w) (v : Int) (hn : Lib.atoiAll s.data.toList = .ok v) :
  Calls Tryd.prog 29 #[.agg #[.int .i64 3, .string s, v2, v3]] w fun e w' => e = .returned (.tuple #[.int .i64 (if Lib.itoa v = s.data.toList ∧ -999999999 ≤ v ∧ v ≤ 999999999 then v else 0), .bool (decide (Lib.itoa v = s.data.toList ∧ -999999999 ≤ v ∧ v ≤ 999999999))]) ∧ Below w.heap.size w w' := by
 have hb0 := blk_new w (.cells #[.int .i64 3, .string s, v2, v3] 27);have hB1 := bal (Below.refl w.heap.size w) (.cells #[.int .i64 3, .string s, v2, v3] 27);have hT1 := hT.below hB1;have hbd := Lib.atoiAll_bounds hn
 have hz : Calls Tryd.prog 49 #[.string s] (w.alloc (.cells #[.int .i64 3, .string s, v2, v3] 27)) fun e w' => e = .returned (.tuple #[.int .i64 v, .nilIface]) ∧ Below (w.alloc (.cells #[.int .i64 3, .string s, v2, v3] 27)).heap.size (w.alloc (.cells #[.int .i64 3, .string s, v2, v3] 27)) w' :=
  (Tryd.strconv_Atoi_ok s (by omega) v hn _).mono (fun e w' ⟨h1, h2⟩ => ⟨h1, by
   rcases h2 with rfl | ⟨t, rfl⟩
   ·exact Below.refl _ _
   ·exact Lib.bytesWorld_below _ _ _⟩)
 generalize hS : (⟨(Lib.itoa v).toArray⟩ : ByteArray) = S
 have hSt : S.data.toList = Lib.itoa v := by rw [← hS]
 have hi : ∀ W, TabOk W → Calls Tryd.prog 41 #[.int .i64 v] W fun e w' => e = .returned (.string S) ∧ Below W.heap.size W w' := fun W hW => by rw [← hS]; exact itoa_below v hbd.1 hbd.2 W hW
 have hSe : (S.toList = s.toList) ↔ Lib.itoa v = s.data.toList := by rw [← hSt, ByteArray.toList_eq s, ByteArray.toList_eq S]
 clear hS hSt hn;by_cases h1 : S.toList = s.toList
 ·have h1b : (S.toList == s.toList) = true := beq_iff_eq.mpr h1
  by_cases h2 : v ≤ 999999999
  ·have h2b : decide ((999999999 : Int) < v) = false := decide_eq_false (by omega)
   by_cases h3 : -999999999 ≤ v
   ·have h3b : decide (v < (-999999999 : Int)) = false := decide_eq_false (by omega)
    rw [if_pos ⟨hSe.1 h1, h3, h2⟩, decide_eq_true (show Lib.itoa v = s.data.toList ∧ -999999999 ≤ v ∧ v ≤ 999999999 from ⟨hSe.1 h1, h3, h2⟩)];clear hSe;go_enter Tryd.func29, Tryd.ntmps29;go_wp2_with (go_at_call 49; refine hz.mono ?_; rintro e w1 ⟨rfl, hB2⟩);have hB3 := below_step hB1 hB2;have hT2 := hT1.below hB2;have hb1 := (hB2.block _ (blk_lt hb0)).trans hb0;have hc1 : w1.cell? ⟨w.heap.size, 1, none⟩ = some (.string s) := bceq hb1 1;have hlt := blk_lt hb1;clear hz hB1 hB2 hT hT1 hb0;have hTd := hT2.below (below_drew (Below.refl w1.heap.size w1));have hcd : w1.drew.cell? ⟨w.heap.size, 1, none⟩ = some (.string s) := hc1;refine start_ (n := 17) (S := fun w' => w'.cell? ⟨w.heap.size, 1, none⟩ = some (.string s)) (ds := []) #[false, false, false, false, false, false, false, false, false, false, false, false, false, false, false, false, false] (by kernel_rfl) rfl rfl hcd (fun hHeld => ?_);refine pure_ (i := 0) (N := some 15) (v := ?_) (a' := ?_) #[true, false, false, false, false, false, false, false, false, false, false, false, false, false, false, false, false] rfl rfl (by kernel_rfl) (fun _ _ _ h => h) (Or.inl ⟨by rfl, ?_⟩) ?_ ?_
    rotate_left
    ·intro w'
     go_simp
     with_reducible rfl
    rotate_left
    ·simp only [Act.put, List.setIfInBounds_toArray, List.set_cons_zero, List.set_cons_succ, i64_w, i32_w]
     rfl
    refine pure_ (i := 1) (N := some 16) (v := ?_) (a' := ?_) #[true, true, false, false, false, false, false, false, false, false, false, false, false, false, false, false, false] rfl rfl (by kernel_rfl) (fun _ _ _ h => h) (Or.inl ⟨by rfl, ?_⟩) ?_ ?_
    rotate_left
    ·intro w'
     go_simp
     with_reducible rfl
    rotate_left
    ·simp only [Act.put, List.setIfInBounds_toArray, List.set_cons_zero, List.set_cons_succ, i64_w, i32_w]
     rfl
    refine pure_ (i := 2) (N := some 17) (v := ?_) (a' := ?_) #[true, true, true, false, false, false, false, false, false, false, false, false, false, false, false, false, false] rfl rfl (by kernel_rfl) (fun _ _ _ h => h) (Or.inl ⟨by rfl, ?_⟩) ?_ ?_
    rotate_left
    ·intro w'
     go_simp
     with_reducible rfl
    rotate_left
    ·simp only [Act.put, List.setIfInBounds_toArray, List.set_cons_zero, List.set_cons_succ, i64_w, i32_w]
     rfl
    refine pure_ (i := 3) (N := some 18) (v := ?_) (a' := ?_) #[true, true, true, true, false, false, false, false, false, false, false, false, false, false, false, false, false] rfl rfl (by kernel_rfl) (fun _ _ _ h => h) (Or.inl ⟨by rfl, ?_⟩) ?_ ?_
    rotate_left
    ·intro w'
     go_simp
     with_reducible rfl
    rotate_left
    ·simp only [Act.put, List.setIfInBounds_toArray, List.set_cons_zero, List.set_cons_succ, i64_w, i32_w]
     rfl
    refine pure_ (i := 5) (N := some 20) (v := ?_) (a' := ?_) #[true, true, true, true, false, true, false, false, false, false, false, false, false, false, false, false, false] rfl rfl (by kernel_rfl) (fun _ _ _ h => h) (Or.inl ⟨by rfl, ?_⟩) ?_ ?_
    rotate_left
    ·intro w'
     go_simp
     with_reducible rfl
    rotate_left
    ·simp only [Act.put, List.setIfInBounds_toArray, List.set_cons_zero, List.set_cons_succ, i64_w, i32_w]
     rfl
    refine take_ (i := 6) (N := some 21) (v := ?_) (a' := ?_) #[true, true, true, true, false, true, true, false, false, false, false, false, false, false, false, false, false] rfl rfl (by kernel_rfl) (fun _ _ _ h => h) (Or.inl ⟨by rfl, ?_⟩) hHeld ?_ ?_
    rotate_left
    ·intro w' s0
     go_simp
     with_reducible rfl
    rotate_left
    ·simp only [Act.put, List.setIfInBounds_toArray, List.set_cons_zero, List.set_cons_succ, i64_w, i32_w]
     rfl
    refine one_ (i := 4) (N := some 19) #[true, true, true, true, true, true, true, false, false, false, false, false, false, false, false, false, false] rfl rfl (by kernel_rfl) (by decide) (fun K hK => ?_);refine goes_ Tryd.func41 (by kernel_rfl) rfl #[.int .i64 v] (by rfl) rfl rfl (by (try simp only [List.map_toArray, List.map_cons, List.map_nil]); first | done | rfl) ?_;refine (hi _ hTd).mono ?_;rintro e w2 ⟨rfl, hB4⟩;refine ⟨_, rfl, ?_⟩;refine hK.out _ _ (bceq ((hB4.block _ hlt).trans hb1) 1) (fun hHeld => ?_);clear hK K;refine norm_ (a' := ?_) ?_ ?_
    rotate_left
    ·show Act.put _ (some 19) _ = _
     simp only [Act.put, List.setIfInBounds_toArray, List.set_cons_zero, List.set_cons_succ, i64_w, i32_w]
     rfl
    refine pure_ (i := 7) (N := some 22) (v := (.bool false)) (a' := ?_) #[true, true, true, true, true, true, true, true, false, false, false, false, false, false, false, false, false] rfl rfl (by kernel_rfl) (fun _ _ _ h => h) (Or.inl ⟨by rfl, ?_⟩) ?_ ?_
    ·intro w'
     first | (go_simp; done) | (go_simp; with_reducible rfl) | (go_simp; simp [*]; done)
    rotate_left
    ·simp only [Act.put, List.setIfInBounds_toArray, List.set_cons_zero, List.set_cons_succ, i64_w, i32_w]
     rfl
    refine pure_ (i := 8) (N := some 23) (v := ?_) (a' := ?_) #[true, true, true, true, true, true, true, true, true, false, false, false, false, false, false, false, false] rfl rfl (by kernel_rfl) (fun _ _ _ h => h) (Or.inl ⟨by rfl, ?_⟩) ?_ ?_
    rotate_left
    ·intro w'
     go_simp
     with_reducible rfl
    rotate_left
    ·simp only [Act.put, List.setIfInBounds_toArray, List.set_cons_zero, List.set_cons_succ, i64_w, i32_w]
     rfl
    refine pure_ (i := 9) (N := some 24) (v := ?_) (a' := ?_) #[true, true, true, true, true, true, true, true, true, true, false, false, false, false, false, false, false] rfl rfl (by kernel_rfl) (fun _ _ _ h => h) (Or.inl ⟨by rfl, ?_⟩) ?_ ?_
    rotate_left
    ·intro w'
     go_simp
     with_reducible rfl
    rotate_left
    ·simp only [Act.put, List.setIfInBounds_toArray, List.set_cons_zero, List.set_cons_succ, i64_w, i32_w]
     rfl
    refine pure_ (i := 10) (N := some 25) (v := ?_) (a' := ?_) #[true, true, true, true, true, true, true, true, true, true, true, false, false, false, false, false, false] rfl rfl (by kernel_rfl) (fun _ _ _ h => h) (Or.inl ⟨by rfl, ?_⟩) ?_ ?_
    rotate_left
    ·intro w'
     go_simp
     with_reducible rfl
    rotate_left
    ·simp only [Act.put, List.setIfInBounds_toArray, List.set_cons_zero, List.set_cons_succ, i64_w, i32_w]
     rfl
    refine pure_ (i := 11) (N := some 26) (v := (.bool false)) (a' := ?_) #[true, true, true, true, true, true, true, true, true, true, true, true, false, false, false, false, false] rfl rfl (by kernel_rfl) (fun _ _ _ h => h) (Or.inl ⟨by rfl, ?_⟩) ?_ ?_
    ·intro w'
     first | (go_simp; done) | (go_simp; with_reducible rfl) | (go_simp; simp [*]; done)
    rotate_left
    ·simp only [Act.put, List.setIfInBounds_toArray, List.set_cons_zero, List.set_cons_succ, i64_w, i32_w]
     rfl
    refine pure_ (i := 12) (N := some 27) (v := ?_) (a' := ?_) #[true, true, true, true, true, true, true, true, true, true, true, true, true, false, false, false, false] rfl rfl (by kernel_rfl) (fun _ _ _ h => h) (Or.inl ⟨by rfl, ?_⟩) ?_ ?_
    rotate_left
    ·intro w'
     go_simp
     with_reducible rfl
    rotate_left
    ·simp only [Act.put, List.setIfInBounds_toArray, List.set_cons_zero, List.set_cons_succ, i64_w, i32_w]
     rfl
    refine pure_ (i := 13) (N := some 28) (v := ?_) (a' := ?_) #[true, true, true, true, true, true, true, true, true, true, true, true, true, true, false, false, false] rfl rfl (by kernel_rfl) (fun _ _ _ h => h) (Or.inl ⟨by rfl, ?_⟩) ?_ ?_
    rotate_left
    ·intro w'
     go_simp
     with_reducible rfl
    rotate_left
    ·simp only [Act.put, List.setIfInBounds_toArray, List.set_cons_zero, List.set_cons_succ, i64_w, i32_w]
     rfl
    refine pure_ (i := 14) (N := some 29) (v := ?_) (a' := ?_) #[true, true, true, true, true, true, true, true, true, true, true, true, true, true, true, false, false] rfl rfl (by kernel_rfl) (fun _ _ _ h => h) (Or.inl ⟨by rfl, ?_⟩) ?_ ?_
    rotate_left
    ·intro w'
     go_simp
     with_reducible rfl
    rotate_left
    ·simp only [Act.put, List.setIfInBounds_toArray, List.set_cons_zero, List.set_cons_succ, i64_w, i32_w]
     rfl
    refine pure_ (i := 15) (N := some 30) (v := (.bool false)) (a' := ?_) #[true, true, true, true, true, true, true, true, true, true, true, true, true, true, true, true, false] rfl rfl (by kernel_rfl) (fun _ _ _ h => h) (Or.inl ⟨by rfl, ?_⟩) ?_ ?_
    ·intro w'
     first | (go_simp; done) | (go_simp; with_reducible rfl) | (go_simp; simp [*]; done)
    rotate_left
    ·simp only [Act.put, List.setIfInBounds_toArray, List.set_cons_zero, List.set_cons_succ, i64_w, i32_w]
     rfl
    refine pure_ (i := 16) (N := some 31) (v := ?_) (a' := ?_) #[true, true, true, true, true, true, true, true, true, true, true, true, true, true, true, true, true] rfl rfl (by kernel_rfl) (fun _ _ _ h => h) (Or.inl ⟨by rfl, ?_⟩) ?_ ?_
    rotate_left
    ·intro w'
     go_simp
     with_reducible rfl
    rotate_left
    ·simp only [Act.put, List.setIfInBounds_toArray, List.set_cons_zero, List.set_cons_succ, i64_w, i32_w]
     rfl
    refine done_ (by kernel_rfl) ?_;go_wp2;refine bodyPost_ret (v := .tuple #[.int .i64 v, .bool true]) (by simp [results, Tryd.results29, go_sem]) rfl ?_;exact ⟨rfl, below_step (below_drew hB3) hB4⟩
   ·have h3b : decide (v < (-999999999 : Int)) = true := decide_eq_true (by omega)
    rw [if_neg (fun h => h3 h.2.1), decide_eq_false (fun h : Lib.itoa v = s.data.toList ∧ -999999999 ≤ v ∧ v ≤ 999999999 => h3 h.2.1)]; clear hSe;go_enter Tryd.func29, Tryd.ntmps29;go_wp2_with (go_at_call 49; refine hz.mono ?_; rintro e w1 ⟨rfl, hB2⟩);have hB3 := below_step hB1 hB2;have hT2 := hT1.below hB2;have hb1 := (hB2.block _ (blk_lt hb0)).trans hb0;have hc1 : w1.cell? ⟨w.heap.size, 1, none⟩ = some (.string s) := bceq hb1 1;have hlt := blk_lt hb1;clear hz hB1 hB2 hT hT1 hb0;have hTd := hT2.below (below_drew (Below.refl w1.heap.size w1));have hcd : w1.drew.cell? ⟨w.heap.size, 1, none⟩ = some (.string s) := hc1;refine start_ (n := 17) (S := fun w' => w'.cell? ⟨w.heap.size, 1, none⟩ = some (.string s)) (ds := []) #[false, false, false, false, false, false, false, false, false, false, false, false, false, false, false, false, false] (by kernel_rfl) rfl rfl hcd (fun hHeld => ?_);refine pure_ (i := 0) (N := some 15) (v := ?_) (a' := ?_) #[true, false, false, false, false, false, false, false, false, false, false, false, false, false, false, false, false] rfl rfl (by kernel_rfl) (fun _ _ _ h => h) (Or.inl ⟨by rfl, ?_⟩) ?_ ?_
    rotate_left
    ·intro w'
     go_simp
     with_reducible rfl
    rotate_left
    ·simp only [Act.put, List.setIfInBounds_toArray, List.set_cons_zero, List.set_cons_succ, i64_w, i32_w]
     rfl
    refine pure_ (i := 1) (N := some 16) (v := ?_) (a' := ?_) #[true, true, false, false, false, false, false, false, false, false, false, false, false, false, false, false, false] rfl rfl (by kernel_rfl) (fun _ _ _ h => h) (Or.inl ⟨by rfl, ?_⟩) ?_ ?_
    rotate_left
    ·intro w'
     go_simp
     with_reducible rfl
    rotate_left
    ·simp only [Act.put, List.setIfInBounds_toArray, List.set_cons_zero, List.set_cons_succ, i64_w, i32_w]
     rfl
    refine pure_ (i := 2) (N := some 17) (v := ?_) (a' := ?_) #[true, true, true, false, false, false, false, false, false, false, false, false, false, false, false, false, false] rfl rfl (by kernel_rfl) (fun _ _ _ h => h) (Or.inl ⟨by rfl, ?_⟩) ?_ ?_
    rotate_left
    ·intro w'
     go_simp
     with_reducible rfl
    rotate_left
    ·simp only [Act.put, List.setIfInBounds_toArray, List.set_cons_zero, List.set_cons_succ, i64_w, i32_w]
     rfl
    refine pure_ (i := 3) (N := some 18) (v := ?_) (a' := ?_) #[true, true, true, true, false, false, false, false, false, false, false, false, false, false, false, false, false] rfl rfl (by kernel_rfl) (fun _ _ _ h => h) (Or.inl ⟨by rfl, ?_⟩) ?_ ?_
    rotate_left
    ·intro w'
     go_simp
     with_reducible rfl
    rotate_left
    ·simp only [Act.put, List.setIfInBounds_toArray, List.set_cons_zero, List.set_cons_succ, i64_w, i32_w]
     rfl
    refine pure_ (i := 5) (N := some 20) (v := ?_) (a' := ?_) #[true, true, true, true, false, true, false, false, false, false, false, false, false, false, false, false, false] rfl rfl (by kernel_rfl) (fun _ _ _ h => h) (Or.inl ⟨by rfl, ?_⟩) ?_ ?_
    rotate_left
    ·intro w'
     go_simp
     with_reducible rfl
    rotate_left
    ·simp only [Act.put, List.setIfInBounds_toArray, List.set_cons_zero, List.set_cons_succ, i64_w, i32_w]
     rfl
    refine take_ (i := 6) (N := some 21) (v := ?_) (a' := ?_) #[true, true, true, true, false, true, true, false, false, false, false, false, false, false, false, false, false] rfl rfl (by kernel_rfl) (fun _ _ _ h => h) (Or.inl ⟨by rfl, ?_⟩) hHeld ?_ ?_
    rotate_left
    ·intro w' s0
     go_simp
     with_reducible rfl
    rotate_left
    ·simp only [Act.put, List.setIfInBounds_toArray, List.set_cons_zero, List.set_cons_succ, i64_w, i32_w]
     rfl
    refine one_ (i := 4) (N := some 19) #[true, true, true, true, true, true, true, false, false, false, false, false, false, false, false, false, false] rfl rfl (by kernel_rfl) (by decide) (fun K hK => ?_);refine goes_ Tryd.func41 (by kernel_rfl) rfl #[.int .i64 v] (by rfl) rfl rfl (by (try simp only [List.map_toArray, List.map_cons, List.map_nil]); first | done | rfl) ?_;refine (hi _ hTd).mono ?_;rintro e w2 ⟨rfl, hB4⟩;refine ⟨_, rfl, ?_⟩;refine hK.out _ _ (bceq ((hB4.block _ hlt).trans hb1) 1) (fun hHeld => ?_);clear hK K;refine norm_ (a' := ?_) ?_ ?_
    rotate_left
    ·show Act.put _ (some 19) _ = _
     simp only [Act.put, List.setIfInBounds_toArray, List.set_cons_zero, List.set_cons_succ, i64_w, i32_w]
     rfl
    refine pure_ (i := 7) (N := some 22) (v := (.bool false)) (a' := ?_) #[true, true, true, true, true, true, true, true, false, false, false, false, false, false, false, false, false] rfl rfl (by kernel_rfl) (fun _ _ _ h => h) (Or.inl ⟨by rfl, ?_⟩) ?_ ?_
    ·intro w'
     first | (go_simp; done) | (go_simp; with_reducible rfl) | (go_simp; simp [*]; done)
    rotate_left
    ·simp only [Act.put, List.setIfInBounds_toArray, List.set_cons_zero, List.set_cons_succ, i64_w, i32_w]
     rfl
    refine pure_ (i := 8) (N := some 23) (v := ?_) (a' := ?_) #[true, true, true, true, true, true, true, true, true, false, false, false, false, false, false, false, false] rfl rfl (by kernel_rfl) (fun _ _ _ h => h) (Or.inl ⟨by rfl, ?_⟩) ?_ ?_
    rotate_left
    ·intro w'
     go_simp
     with_reducible rfl
    rotate_left
    ·simp only [Act.put, List.setIfInBounds_toArray, List.set_cons_zero, List.set_cons_succ, i64_w, i32_w]
     rfl
    refine pure_ (i := 9) (N := some 24) (v := ?_) (a' := ?_) #[true, true, true, true, true, true, true, true, true, true, false, false, false, false, false, false, false] rfl rfl (by kernel_rfl) (fun _ _ _ h => h) (Or.inl ⟨by rfl, ?_⟩) ?_ ?_
    rotate_left
    ·intro w'
     go_simp
     with_reducible rfl
    rotate_left
    ·simp only [Act.put, List.setIfInBounds_toArray, List.set_cons_zero, List.set_cons_succ, i64_w, i32_w]
     rfl
    refine pure_ (i := 10) (N := some 25) (v := ?_) (a' := ?_) #[true, true, true, true, true, true, true, true, true, true, true, false, false, false, false, false, false] rfl rfl (by kernel_rfl) (fun _ _ _ h => h) (Or.inl ⟨by rfl, ?_⟩) ?_ ?_
    rotate_left
    ·intro w'
     go_simp
     with_reducible rfl
    rotate_left
    ·simp only [Act.put, List.setIfInBounds_toArray, List.set_cons_zero, List.set_cons_succ, i64_w, i32_w]
     rfl
    refine pure_ (i := 11) (N := some 26) (v := (.bool false)) (a' := ?_) #[true, true, true, true, true, true, true, true, true, true, true, true, false, false, false, false, false] rfl rfl (by kernel_rfl) (fun _ _ _ h => h) (Or.inl ⟨by rfl, ?_⟩) ?_ ?_
    ·intro w'
     first | (go_simp; done) | (go_simp; with_reducible rfl) | (go_simp; simp [*]; done)
    rotate_left
    ·simp only [Act.put, List.setIfInBounds_toArray, List.set_cons_zero, List.set_cons_succ, i64_w, i32_w]
     rfl
    refine pure_ (i := 12) (N := some 27) (v := ?_) (a' := ?_) #[true, true, true, true, true, true, true, true, true, true, true, true, true, false, false, false, false] rfl rfl (by kernel_rfl) (fun _ _ _ h => h) (Or.inl ⟨by rfl, ?_⟩) ?_ ?_
    rotate_left
    ·intro w'
     go_simp
     with_reducible rfl
    rotate_left
    ·simp only [Act.put, List.setIfInBounds_toArray, List.set_cons_zero, List.set_cons_succ, i64_w, i32_w]
     rfl
    refine pure_ (i := 13) (N := some 28) (v := ?_) (a' := ?_) #[true, true, true, true, true, true, true, true, true, true, true, true, true, true, false, false, false] rfl rfl (by kernel_rfl) (fun _ _ _ h => h) (Or.inl ⟨by rfl, ?_⟩) ?_ ?_
    rotate_left
    ·intro w'
     go_simp
     with_reducible rfl
    rotate_left
    ·simp only [Act.put, List.setIfInBounds_toArray, List.set_cons_zero, List.set_cons_succ, i64_w, i32_w]
     rfl
    refine pure_ (i := 14) (N := some 29) (v := ?_) (a' := ?_) #[true, true, true, true, true, true, true, true, true, true, true, true, true, true, true, false, false] rfl rfl (by kernel_rfl) (fun _ _ _ h => h) (Or.inl ⟨by rfl, ?_⟩) ?_ ?_
    rotate_left
    ·intro w'
     go_simp
     with_reducible rfl
    rotate_left
    ·simp only [Act.put, List.setIfInBounds_toArray, List.set_cons_zero, List.set_cons_succ, i64_w, i32_w]
     rfl
    refine pure_ (i := 15) (N := some 30) (v := (.bool true)) (a' := ?_) #[true, true, true, true, true, true, true, true, true, true, true, true, true, true, true, true, false] rfl rfl (by kernel_rfl) (fun _ _ _ h => h) (Or.inl ⟨by rfl, ?_⟩) ?_ ?_
    ·intro w'
     first | (go_simp; done) | (go_simp; with_reducible rfl) | (go_simp; simp [*]; done)
    rotate_left
    ·simp only [Act.put, List.setIfInBounds_toArray, List.set_cons_zero, List.set_cons_succ, i64_w, i32_w]
     rfl
    refine pure_ (i := 16) (N := some 31) (v := ?_) (a' := ?_) #[true, true, true, true, true, true, true, true, true, true, true, true, true, true, true, true, true] rfl rfl (by kernel_rfl) (fun _ _ _ h => h) (Or.inl ⟨by rfl, ?_⟩) ?_ ?_
    rotate_left
    ·intro w'
     go_simp
     with_reducible rfl
    rotate_left
    ·simp only [Act.put, List.setIfInBounds_toArray, List.set_cons_zero, List.set_cons_succ, i64_w, i32_w]
     rfl
    refine done_ (by kernel_rfl) ?_;go_wp2;refine bodyPost_ret (v := .tuple #[.int .i64 0, .bool false]) (by simp [results, Tryd.results29, go_sem]) rfl ?_;exact ⟨rfl, below_step (below_drew hB3) hB4⟩
  ·have h2b : decide ((999999999 : Int) < v) = true := decide_eq_true (by omega)
   rw [if_neg (fun h => h2 h.2.2), decide_eq_false (fun h : Lib.itoa v = s.data.toList ∧ -999999999 ≤ v ∧ v ≤ 999999999 => h2 h.2.2)]; clear hSe;go_enter Tryd.func29, Tryd.ntmps29;go_wp2_with (go_at_call 49; refine hz.mono ?_; rintro e w1 ⟨rfl, hB2⟩);have hB3 := below_step hB1 hB2;have hT2 := hT1.below hB2;have hb1 := (hB2.block _ (blk_lt hb0)).trans hb0;have hc1 : w1.cell? ⟨w.heap.size, 1, none⟩ = some (.string s) := bceq hb1 1;have hlt := blk_lt hb1;clear hz hB1 hB2 hT hT1 hb0;have hTd := hT2.below (below_drew (Below.refl w1.heap.size w1));have hcd : w1.drew.cell? ⟨w.heap.size, 1, none⟩ = some (.string s) := hc1;refine start_ (n := 17) (S := fun w' => w'.cell? ⟨w.heap.size, 1, none⟩ = some (.string s)) (ds := []) #[false, false, false, false, false, false, false, false, false, false, false, false, false, false, false, false, false] (by kernel_rfl) rfl rfl hcd (fun hHeld => ?_);refine pure_ (i := 0) (N := some 15) (v := ?_) (a' := ?_) #[true, false, false, false, false, false, false, false, false, false, false, false, false, false, false, false, false] rfl rfl (by kernel_rfl) (fun _ _ _ h => h) (Or.inl ⟨by rfl, ?_⟩) ?_ ?_
   rotate_left
   ·intro w'
    go_simp
    with_reducible rfl
   rotate_left
   ·simp only [Act.put, List.setIfInBounds_toArray, List.set_cons_zero, List.set_cons_succ, i64_w, i32_w]
    rfl
   refine pure_ (i := 1) (N := some 16) (v := ?_) (a' := ?_) #[true, true, false, false, false, false, false, false, false, false, false, false, false, false, false, false, false] rfl rfl (by kernel_rfl) (fun _ _ _ h => h) (Or.inl ⟨by rfl, ?_⟩) ?_ ?_
   rotate_left
   ·intro w'
    go_simp
    with_reducible rfl
   rotate_left
   ·simp only [Act.put, List.setIfInBounds_toArray, List.set_cons_zero, List.set_cons_succ, i64_w, i32_w]
    rfl
   refine pure_ (i := 2) (N := some 17) (v := ?_) (a' := ?_) #[true, true, true, false, false, false, false, false, false, false, false, false, false, false, false, false, false] rfl rfl (by kernel_rfl) (fun _ _ _ h => h) (Or.inl ⟨by rfl, ?_⟩) ?_ ?_
   rotate_left
   ·intro w'
    go_simp
    with_reducible rfl
   rotate_left
   ·simp only [Act.put, List.setIfInBounds_toArray, List.set_cons_zero, List.set_cons_succ, i64_w, i32_w]
    rfl
   refine pure_ (i := 3) (N := some 18) (v := ?_) (a' := ?_) #[true, true, true, true, false, false, false, false, false, false, false, false, false, false, false, false, false] rfl rfl (by kernel_rfl) (fun _ _ _ h => h) (Or.inl ⟨by rfl, ?_⟩) ?_ ?_
   rotate_left
   ·intro w'
    go_simp
    with_reducible rfl
   rotate_left
   ·simp only [Act.put, List.setIfInBounds_toArray, List.set_cons_zero, List.set_cons_succ, i64_w, i32_w]
    rfl
   refine pure_ (i := 5) (N := some 20) (v := ?_) (a' := ?_) #[true, true, true, true, false, true, false, false, false, false, false, false, false, false, false, false, false] rfl rfl (by kernel_rfl) (fun _ _ _ h => h) (Or.inl ⟨by rfl, ?_⟩) ?_ ?_
   rotate_left
   ·intro w'
    go_simp
    with_reducible rfl
   rotate_left
   ·simp only [Act.put, List.setIfInBounds_toArray, List.set_cons_zero, List.set_cons_succ, i64_w, i32_w]
    rfl
   refine take_ (i := 6) (N := some 21) (v := ?_) (a' := ?_) #[true, true, true, true, false, true, true, false, false, false, false, false, false, false, false, false, false] rfl rfl (by kernel_rfl) (fun _ _ _ h => h) (Or.inl ⟨by rfl, ?_⟩) hHeld ?_ ?_
   rotate_left
   ·intro w' s0
    go_simp
    with_reducible rfl
   rotate_left
   ·simp only [Act.put, List.setIfInBounds_toArray, List.set_cons_zero, List.set_cons_succ, i64_w, i32_w]
    rfl
   refine one_ (i := 4) (N := some 19) #[true, true, true, true, true, true, true, false, false, false, false, false, false, false, false, false, false] rfl rfl (by kernel_rfl) (by decide) (fun K hK => ?_);refine goes_ Tryd.func41 (by kernel_rfl) rfl #[.int .i64 v] (by rfl) rfl rfl (by (try simp only [List.map_toArray, List.map_cons, List.map_nil]); first | done | rfl) ?_;refine (hi _ hTd).mono ?_;rintro e w2 ⟨rfl, hB4⟩;refine ⟨_, rfl, ?_⟩;refine hK.out _ _ (bceq ((hB4.block _ hlt).trans hb1) 1) (fun hHeld => ?_);clear hK K;refine norm_ (a' := ?_) ?_ ?_
   rotate_left
   ·show Act.put _ (some 19) _ = _
    simp only [Act.put, List.setIfInBounds_toArray, List.set_cons_zero, List.set_cons_succ, i64_w, i32_w]
    rfl
   refine pure_ (i := 7) (N := some 22) (v := (.bool false)) (a' := ?_) #[true, true, true, true, true, true, true, true, false, false, false, false, false, false, false, false, false] rfl rfl (by kernel_rfl) (fun _ _ _ h => h) (Or.inl ⟨by rfl, ?_⟩) ?_ ?_
   ·intro w'
    first | (go_simp; done) | (go_simp; with_reducible rfl) | (go_simp; simp [*]; done)
   rotate_left
   ·simp only [Act.put, List.setIfInBounds_toArray, List.set_cons_zero, List.set_cons_succ, i64_w, i32_w]
    rfl
   refine pure_ (i := 8) (N := some 23) (v := ?_) (a' := ?_) #[true, true, true, true, true, true, true, true, true, false, false, false, false, false, false, false, false] rfl rfl (by kernel_rfl) (fun _ _ _ h => h) (Or.inl ⟨by rfl, ?_⟩) ?_ ?_
   rotate_left
   ·intro w'
    go_simp
    with_reducible rfl
   rotate_left
   ·simp only [Act.put, List.setIfInBounds_toArray, List.set_cons_zero, List.set_cons_succ, i64_w, i32_w]
    rfl
   refine pure_ (i := 9) (N := some 24) (v := ?_) (a' := ?_) #[true, true, true, true, true, true, true, true, true, true, false, false, false, false, false, false, false] rfl rfl (by kernel_rfl) (fun _ _ _ h => h) (Or.inl ⟨by rfl, ?_⟩) ?_ ?_
   rotate_left
   ·intro w'
    go_simp
    with_reducible rfl
   rotate_left
   ·simp only [Act.put, List.setIfInBounds_toArray, List.set_cons_zero, List.set_cons_succ, i64_w, i32_w]
    rfl
   refine pure_ (i := 10) (N := some 25) (v := ?_) (a' := ?_) #[true, true, true, true, true, true, true, true, true, true, true, false, false, false, false, false, false] rfl rfl (by kernel_rfl) (fun _ _ _ h => h) (Or.inl ⟨by rfl, ?_⟩) ?_ ?_
   rotate_left
   ·intro w'
    go_simp
    with_reducible rfl
   rotate_left
   ·simp only [Act.put, List.setIfInBounds_toArray, List.set_cons_zero, List.set_cons_succ, i64_w, i32_w]
    rfl
   refine pure_ (i := 11) (N := some 26) (v := (.bool true)) (a' := ?_) #[true, true, true, true, true, true, true, true, true, true, true, true, false, false, false, false, false] rfl rfl (by kernel_rfl) (fun _ _ _ h => h) (Or.inl ⟨by rfl, ?_⟩) ?_ ?_
   ·intro w'
    first | (go_simp; done) | (go_simp; with_reducible rfl) | (go_simp; simp [*]; done)
   rotate_left
   ·simp only [Act.put, List.setIfInBounds_toArray, List.set_cons_zero, List.set_cons_succ, i64_w, i32_w]
    rfl
   refine pure_ (i := 12) (N := some 27) (v := ?_) (a' := ?_) #[true, true, true, true, true, true, true, true, true, true, true, true, true, false, false, false, false] rfl rfl (by kernel_rfl) (fun _ _ _ h => h) (Or.inl ⟨by rfl, ?_⟩) ?_ ?_
   rotate_left
   ·intro w'
    go_simp
    with_reducible rfl
   rotate_left
   ·simp only [Act.put, List.setIfInBounds_toArray, List.set_cons_zero, List.set_cons_succ, i64_w, i32_w]
    rfl
   refine pure_ (i := 13) (N := some 28) (v := ?_) (a' := ?_) #[true, true, true, true, true, true, true, true, true, true, true, true, true, true, false, false, false] rfl rfl (by kernel_rfl) (fun _ _ _ h => h) (Or.inl ⟨by rfl, ?_⟩) ?_ ?_
   rotate_left
   ·intro w'
    go_simp
    with_reducible rfl
   rotate_left
   ·simp only [Act.put, List.setIfInBounds_toArray, List.set_cons_zero, List.set_cons_succ, i64_w, i32_w]
    rfl
   refine pure_ (i := 14) (N := some 29) (v := undef) (a' := ?_) #[true, true, true, true, true, true, true, true, true, true, true, true, true, true, true, false, false] rfl rfl (by kernel_rfl) (fun _ _ _ h => h) (Or.inr ⟨by rfl, rfl⟩) ?_ ?_
   rotate_left
   ·simp only [Act.put, List.setIfInBounds_toArray, List.set_cons_zero, List.set_cons_succ, i64_w, i32_w]
    rfl
   refine pure_ (i := 15) (N := some 30) (v := undef) (a' := ?_) #[true, true, true, true, true, true, true, true, true, true, true, true, true, true, true, true, false] rfl rfl (by kernel_rfl) (fun _ _ _ h => h) (Or.inr ⟨by rfl, rfl⟩) ?_ ?_
   rotate_left
   ·simp only [Act.put, List.setIfInBounds_toArray, List.set_cons_zero, List.set_cons_succ, i64_w, i32_w]
    rfl
   refine pure_ (i := 16) (N := some 31) (v := ?_) (a' := ?_) #[true, true, true, true, true, true, true, true, true, true, true, true, true, true, true, true, true] rfl rfl (by kernel_rfl) (fun _ _ _ h => h) (Or.inl ⟨by rfl, ?_⟩) ?_ ?_
   rotate_left
   ·intro w'
    go_simp
    with_reducible rfl
   rotate_left
   ·simp only [Act.put, List.setIfInBounds_toArray, List.set_cons_zero, List.set_cons_succ, i64_w, i32_w]
    rfl
   refine done_ (by kernel_rfl) ?_;go_wp2;refine bodyPost_ret (v := .tuple #[.int .i64 0, .bool false]) (by simp [results, Tryd.results29, go_sem]) rfl ?_;exact ⟨rfl, below_step (below_drew hB3) hB4⟩
 ·have h1b : (S.toList == s.toList) = false := beq_eq_false_iff_ne.mpr h1
  rw [if_neg (fun h => h1 (hSe.2 h.1)), decide_eq_false (fun h : Lib.itoa v = s.data.toList ∧ -999999999 ≤ v ∧ v ≤ 999999999 => h1 (hSe.2 h.1))]; clear hSe;go_enter Tryd.func29, Tryd.ntmps29;go_wp2_with (go_at_call 49; refine hz.mono ?_; rintro e w1 ⟨rfl, hB2⟩);have hB3 := below_step hB1 hB2;have hT2 := hT1.below hB2;have hb1 := (hB2.block _ (blk_lt hb0)).trans hb0;have hc1 : w1.cell? ⟨w.heap.size, 1, none⟩ = some (.string s) := bceq hb1 1;have hlt := blk_lt hb1;clear hz hB1 hB2 hT hT1 hb0;have hTd := hT2.below (below_drew (Below.refl w1.heap.size w1));have hcd : w1.drew.cell? ⟨w.heap.size, 1, none⟩ = some (.string s) := hc1;refine start_ (n := 17) (S := fun w' => w'.cell? ⟨w.heap.size, 1, none⟩ = some (.string s)) (ds := []) #[false, false, false, false, false, false, false, false, false, false, false, false, false, false, false, false, false] (by kernel_rfl) rfl rfl hcd (fun hHeld => ?_);refine pure_ (i := 0) (N := some 15) (v := ?_) (a' := ?_) #[true, false, false, false, false, false, false, false, false, false, false, false, false, false, false, false, false] rfl rfl (by kernel_rfl) (fun _ _ _ h => h) (Or.inl ⟨by rfl, ?_⟩) ?_ ?_
  rotate_left
  ·intro w'
   go_simp
   with_reducible rfl
  rotate_left
  ·simp only [Act.put, List.setIfInBounds_toArray, List.set_cons_zero, List.set_cons_succ, i64_w, i32_w]
   rfl
  refine pure_ (i := 1) (N := some 16) (v := ?_) (a' := ?_) #[true, true, false, false, false, false, false, false, false, false, false, false, false, false, false, false, false] rfl rfl (by kernel_rfl) (fun _ _ _ h => h) (Or.inl ⟨by rfl, ?_⟩) ?_ ?_
  rotate_left
  ·intro w'
   go_simp
   with_reducible rfl
  rotate_left
  ·simp only [Act.put, List.setIfInBounds_toArray, List.set_cons_zero, List.set_cons_succ, i64_w, i32_w]
   rfl
  refine pure_ (i := 2) (N := some 17) (v := ?_) (a' := ?_) #[true, true, true, false, false, false, false, false, false, false, false, false, false, false, false, false, false] rfl rfl (by kernel_rfl) (fun _ _ _ h => h) (Or.inl ⟨by rfl, ?_⟩) ?_ ?_
  rotate_left
  ·intro w'
   go_simp
   with_reducible rfl
  rotate_left
  ·simp only [Act.put, List.setIfInBounds_toArray, List.set_cons_zero, List.set_cons_succ, i64_w, i32_w]
   rfl
  refine pure_ (i := 3) (N := some 18) (v := ?_) (a' := ?_) #[true, true, true, true, false, false, false, false, false, false, false, false, false, false, false, false, false] rfl rfl (by kernel_rfl) (fun _ _ _ h => h) (Or.inl ⟨by rfl, ?_⟩) ?_ ?_
  rotate_left
  ·intro w'
   go_simp
   with_reducible rfl
  rotate_left
  ·simp only [Act.put, List.setIfInBounds_toArray, List.set_cons_zero, List.set_cons_succ, i64_w, i32_w]
   rfl
  refine pure_ (i := 5) (N := some 20) (v := ?_) (a' := ?_) #[true, true, true, true, false, true, false, false, false, false, false, false, false, false, false, false, false] rfl rfl (by kernel_rfl) (fun _ _ _ h => h) (Or.inl ⟨by rfl, ?_⟩) ?_ ?_
  rotate_left
  ·intro w'
   go_simp
   with_reducible rfl
  rotate_left
  ·simp only [Act.put, List.setIfInBounds_toArray, List.set_cons_zero, List.set_cons_succ, i64_w, i32_w]
   rfl
  refine take_ (i := 6) (N := some 21) (v := ?_) (a' := ?_) #[true, true, true, true, false, true, true, false, false, false, false, false, false, false, false, false, false] rfl rfl (by kernel_rfl) (fun _ _ _ h => h) (Or.inl ⟨by rfl, ?_⟩) hHeld ?_ ?_
  rotate_left
  ·intro w' s0
   go_simp
   with_reducible rfl
  rotate_left
  ·simp only [Act.put, List.setIfInBounds_toArray, List.set_cons_zero, List.set_cons_succ, i64_w, i32_w]
   rfl
  refine one_ (i := 4) (N := some 19) #[true, true, true, true, true, true, true, false, false, false, false, false, false, false, false, false, false] rfl rfl (by kernel_rfl) (by decide) (fun K hK => ?_);refine goes_ Tryd.func41 (by kernel_rfl) rfl #[.int .i64 v] (by rfl) rfl rfl (by (try simp only [List.map_toArray, List.map_cons, List.map_nil]); first | done | rfl) ?_;refine (hi _ hTd).mono ?_;rintro e w2 ⟨rfl, hB4⟩;refine ⟨_, rfl, ?_⟩;refine hK.out _ _ (bceq ((hB4.block _ hlt).trans hb1) 1) (fun hHeld => ?_);clear hK K;refine norm_ (a' := ?_) ?_ ?_
  rotate_left
  ·show Act.put _ (some 19) _ = _
   simp only [Act.put, List.setIfInBounds_toArray, List.set_cons_zero, List.set_cons_succ, i64_w, i32_w]
   rfl
  refine pure_ (i := 7) (N := some 22) (v := (.bool true)) (a' := ?_) #[true, true, true, true, true, true, true, true, false, false, false, false, false, false, false, false, false] rfl rfl (by kernel_rfl) (fun _ _ _ h => h) (Or.inl ⟨by rfl, ?_⟩) ?_ ?_
  ·intro w'
   first | (go_simp; done) | (go_simp; with_reducible rfl) | (go_simp; simp [*]; done)
  rotate_left
  ·simp only [Act.put, List.setIfInBounds_toArray, List.set_cons_zero, List.set_cons_succ, i64_w, i32_w]
   rfl
  refine pure_ (i := 8) (N := some 23) (v := ?_) (a' := ?_) #[true, true, true, true, true, true, true, true, true, false, false, false, false, false, false, false, false] rfl rfl (by kernel_rfl) (fun _ _ _ h => h) (Or.inl ⟨by rfl, ?_⟩) ?_ ?_
  rotate_left
  ·intro w'
   go_simp
   with_reducible rfl
  rotate_left
  ·simp only [Act.put, List.setIfInBounds_toArray, List.set_cons_zero, List.set_cons_succ, i64_w, i32_w]
   rfl
  refine pure_ (i := 9) (N := some 24) (v := ?_) (a' := ?_) #[true, true, true, true, true, true, true, true, true, true, false, false, false, false, false, false, false] rfl rfl (by kernel_rfl) (fun _ _ _ h => h) (Or.inl ⟨by rfl, ?_⟩) ?_ ?_
  rotate_left
  ·intro w'
   go_simp
   with_reducible rfl
  rotate_left
  ·simp only [Act.put, List.setIfInBounds_toArray, List.set_cons_zero, List.set_cons_succ, i64_w, i32_w]
   rfl
  refine pure_ (i := 10) (N := some 25) (v := undef) (a' := ?_) #[true, true, true, true, true, true, true, true, true, true, true, false, false, false, false, false, false] rfl rfl (by kernel_rfl) (fun _ _ _ h => h) (Or.inr ⟨by rfl, rfl⟩) ?_ ?_
  rotate_left
  ·simp only [Act.put, List.setIfInBounds_toArray, List.set_cons_zero, List.set_cons_succ, i64_w, i32_w]
   rfl
  refine pure_ (i := 11) (N := some 26) (v := undef) (a' := ?_) #[true, true, true, true, true, true, true, true, true, true, true, true, false, false, false, false, false] rfl rfl (by kernel_rfl) (fun _ _ _ h => h) (Or.inr ⟨by rfl, rfl⟩) ?_ ?_
  rotate_left
  ·simp only [Act.put, List.setIfInBounds_toArray, List.set_cons_zero, List.set_cons_succ, i64_w, i32_w]
   rfl
  refine pure_ (i := 12) (N := some 27) (v := ?_) (a' := ?_) #[true, true, true, true, true, true, true, true, true, true, true, true, true, false, false, false, false] rfl rfl (by kernel_rfl) (fun _ _ _ h => h) (Or.inl ⟨by rfl, ?_⟩) ?_ ?_
  rotate_left
  ·intro w'
   go_simp
   with_reducible rfl
  rotate_left
  ·simp only [Act.put, List.setIfInBounds_toArray, List.set_cons_zero, List.set_cons_succ, i64_w, i32_w]
   rfl
  refine pure_ (i := 13) (N := some 28) (v := ?_) (a' := ?_) #[true, true, true, true, true, true, true, true, true, true, true, true, true, true, false, false, false] rfl rfl (by kernel_rfl) (fun _ _ _ h => h) (Or.inl ⟨by rfl, ?_⟩) ?_ ?_
  rotate_left
  ·intro w'
   go_simp
   with_reducible rfl
  rotate_left
  ·simp only [Act.put, List.setIfInBounds_toArray, List.set_cons_zero, List.set_cons_succ, i64_w, i32_w]
   rfl
  refine pure_ (i := 14) (N := some 29) (v := undef) (a' := ?_) #[true, true, true, true, true, true, true, true, true, true, true, true, true, true, true, false, false] rfl rfl (by kernel_rfl) (fun _ _ _ h => h) (Or.inr ⟨by rfl, rfl⟩) ?_ ?_
  rotate_left
  ·simp only [Act.put, List.setIfInBounds_toArray, List.set_cons_zero, List.set_cons_succ, i64_w, i32_w]
   rfl
  refine pure_ (i := 15) (N := some 30) (v := undef) (a' := ?_) #[true, true, true, true, true, true, true, true, true, true, true, true, true, true, true, true, false] rfl rfl (by kernel_rfl) (fun _ _ _ h => h) (Or.inr ⟨by rfl, rfl⟩) ?_ ?_
  rotate_left
  ·simp only [Act.put, List.setIfInBounds_toArray, List.set_cons_zero, List.set_cons_succ, i64_w, i32_w]
   rfl
  refine pure_ (i := 16) (N := some 31) (v := ?_) (a' := ?_) #[true, true, true, true, true, true, true, true, true, true, true, true, true, true, true, true, true] rfl rfl (by kernel_rfl) (fun _ _ _ h => h) (Or.inl ⟨by rfl, ?_⟩) ?_ ?_
  rotate_left
  ·intro w'
   go_simp
   with_reducible rfl
  rotate_left
  ·simp only [Act.put, List.setIfInBounds_toArray, List.set_cons_zero, List.set_cons_succ, i64_w, i32_w]
   rfl
  refine done_ (by kernel_rfl) ?_;go_wp2;refine bodyPost_ret (v := .tuple #[.int .i64 0, .bool false]) (by simp [results, Tryd.results29, go_sem]) rfl ?_;exact ⟨rfl, below_step (below_drew hB3) hB4⟩
theorem json_Int.calls (a0_0 : Int) (a0_1 : ByteArray) (A0_2 : Option Addr) (c0_2 : Nat) (l0_2 : List ByteArray) (A0_3 : Option Addr) (c0_3 : Nat) (l0_3 : List S27) (r1 : Int) (r2 : Bool) (w : World) (hr0_2 : Kd.C Kd.string w A0_2 l0_2.length l0_2) (hc0_2 : l0_2.length ≤ c0_2) (hr0_3 : Kd.C k27 w A0_3 l0_3.length l0_3) (hc0_3 : l0_3.length ≤ c0_3) (h : json_Int.f a0_0 a0_1 l0_2 l0_3 = some (r1, r2)) (hT : TabOk w) :
  Calls Tryd.prog 29 #[.agg #[.int .i64 a0_0, .string a0_1, .slice A0_2 l0_2.length c0_2, .slice A0_3 l0_3.length c0_3]] w fun e w' => e = .returned (.tuple #[.int .i64 r1, .bool r2]) ∧ Below w.heap.size w w' := by
 unfold json_Int.f at h
 split at h
 case isFalse => cases h
 rename_i hs
 have h := Option.some.inj h;by_cases hk : a0_0 = 3
 ·subst hk
  rw [if_pos rfl] at h;unfold intT at h
  rcases ha : Lib.atoiAll a0_1.data.toList with v | _ | _
  ·rw [ha] at h
   have := int_ok a0_1 hs (.slice A0_2 l0_2.length c0_2) (.slice A0_3 l0_3.length c0_3) w hT v ha
   dsimp only at h
   split at h
   ·rename_i hc
    rw [if_pos hc, decide_eq_true hc] at this;cases h;exact this
   ·rename_i hc
    rw [if_neg hc, decide_eq_false hc] at this;cases h;exact this
  ·rw [ha] at h; cases h; exact int_err a0_1 hs _ _ w hT (fun v e => by rw [ha] at e; cases e)
  ·rw [ha] at h; cases h; exact int_err a0_1 hs _ _ w hT (fun v e => by rw [ha] at e; cases e)
 ·rw [if_neg hk] at h
  cases h;exact int_no a0_0 hk a0_1 _ _ w
end Go.Proofs.YteighppcdpaekaaDoor.P
end
section
namespace Go.Proofs.YteighppcdpaekaaDoor.laidFive
open Go.ChangeShapes Go.WideShapes Go.ChangeAt Go.RowKit Go.Proofs.YteighppcdpaekaaDoorW.PrintWords Go.Proofs.YteighppcdpaekaaDoor.P
set_option linter.unusedVariables false
set_option maxRecDepth 100000
def five : List (String × DataW Unit) := [("math/bits.deBruijn32tab", Rows.laid_math_bits_deBruijn32tab), ("math/bits.deBruijn64tab", Rows.laid_math_bits_deBruijn64tab), ("internal/strconv.uint64pow10", Rows.laid_internal_strconv_uint64pow10), ("strconv.ErrRange", Rows.laid_strconv_ErrRange), ("strconv.ErrSyntax", Rows.laid_strconv_ErrSyntax)]
theorem gTab : Tryd.prog.globalNamed "internal/strconv.uint64pow10" = some 2 := by kernel_rfl
theorem gTabType : (Tryd.prog.globals[2]?).map (·.type) = some 166 := by kernel_rfl
theorem cells150 : Tryd.prog.cellsOf 150 = 1 := by kernel_rfl
theorem gES : Tryd.prog.globalNamed "strconv.ErrSyntax" = some 0 := by kernel_rfl
theorem gESType : (Tryd.prog.globals[0]?).map (·.type) = some 102 := by kernel_rfl
theorem gER : Tryd.prog.globalNamed "strconv.ErrRange" = some 1 := by kernel_rfl
theorem gERType : (Tryd.prog.globals[1]?).map (·.type) = some 102 := by kernel_rfl
theorem star : "*" ++ "errors.errorString" = "*errors.errorString" := by decide
theorem row172 (u : TypeId) (h : Tryd.prog.typeName? 3 u = some "*errors.errorString") : u = 172 :=
 typeName_ptr_named (nm := "errors.errorString") (by rw [star]; kernel_rfl) (by kernel_rfl) (by decide) u (by rw [star]; exact h)
theorem cells174 : Tryd.prog.cellsOf 174 = 1 := by kernel_rfl
theorem cells9 : Tryd.prog.cellsOf 9 = 1 := by kernel_rfl
theorem tabs {W : World} (h : laidMetH Tryd.prog five W) : TabOk W := by
 have hm : laidMet Tryd.prog five W := by rw [← MakeChecks.laidMetH_plain Tryd.prog five W (by kernel_rfl)]; exact h
 have h3 : laidMet Tryd.prog [("internal/strconv.uint64pow10", Rows.laid_internal_strconv_uint64pow10), ("strconv.ErrRange", Rows.laid_strconv_ErrRange), ("strconv.ErrSyntax", Rows.laid_strconv_ErrSyntax)] W := hm.tail.tail;obtain ⟨a1, s1, hv1, -, -, -⟩ := laid_sentinel h3.tail gER gERType Tryd.underlying102 row172 Tryd.underlying172 Tryd.underlying174 rfl rfl Tryd.underlying9 cells174 cells9;obtain ⟨a0, s0, hv0, -, -, -⟩ := laid_sentinel h3.tail.tail gES gESType Tryd.underlying102 row172 Tryd.underlying172 Tryd.underlying174 rfl rfl Tryd.underlying9 cells174 cells9;refine ⟨?_, ⟨_, _, hv0⟩, ⟨_, _, hv1⟩⟩;exact Lib.tabIs_of_head (rest := _) gTab gTabType Tryd.underlying166 Tryd.underlying150 cells150 (by kernel_rfl) h3
def lits {H : Type} : DataW H → List Value
 | .agg l => l.map fun d => match d with
  | .lit (.int k z) => .int k z
  | _ => undef
 | _ => []
def putTab (h : Array Obj) (i : Nat) (cs : List Value) : Array Obj := h.modify i fun
 | .cells _ t frozen => .cells cs.toArray t frozen
 | o => o
def synS : ByteArray := { data := #[105, 110, 118, 97, 108, 105, 100, 32, 115, 121, 110, 116, 97, 120] }
def rngS : ByteArray := { data := #[118, 97, 108, 117, 101, 32, 111, 117, 116, 32, 111, 102, 32, 114, 97, 110, 103, 101] }
noncomputable def low : Nat := (World.holding Tryd.prog default ⟨#[], #[], []⟩).heap.size
noncomputable def laidWorld (os : Os) : World :=
 let w0 := World.holding Tryd.prog os ⟨#[.cells #[.string synS] 174, .cells #[.string rngS] 174], #[], []⟩
 { w0 with heap := putTab (putTab (putTab (putTab (putTab w0.heap 2 (lits (H := Unit) Rows.laid_internal_strconv_uint64pow10)) 3 (lits (H := Unit) Rows.laid_math_bits_deBruijn32tab)) 4 (lits (H := Unit) Rows.laid_math_bits_deBruijn64tab)) 0 [.iface 172 (.pointer (some ⟨low, 0, none⟩))]) 1 [.iface 172 (.pointer (some ⟨low + 1, 0, none⟩))] }
end Go.Proofs.YteighppcdpaekaaDoor.laidFive
end
section
namespace Go.Proofs.YteighppcdpaekaaDoor.P
open Go.RowKit Go.Proofs.YteighppcdpaekaaDoorW.PrintWords Go.Proofs.YteighppcdpaekaaDoorW.PrintLast Go.Proofs.YteighppcdpaekaaDoorW.PrintMore
structure UpP where
 p : World → Prop
 up : ∀ W W' : World, p W → Below W.heap.size W W' → p W'
def Ctx : List UpP → World → Prop
 | [], _ => True
 | u :: l, W => u.p W ∧ Ctx l W
theorem Ctx.below {W W' : World} (hb : Below W.heap.size W W') : ∀ {l : List UpP}, Ctx l W → Ctx l W'
 | [], _ => trivial
 | u :: _, h => ⟨u.up W W' h.1 hb, Ctx.below hb h.2⟩
theorem Ctx.alloc {W : World} {l : List UpP} (h : Ctx l W) (o : Obj) : Ctx l (W.alloc o) := h.below (bal (Below.refl _ _) o)
theorem Ctx.drew {W : World} {l : List UpP} (h : Ctx l W) : Ctx l W.drew := h.below (below_drew (Below.refl _ _))
theorem Ctx.drewN {W : World} {l : List UpP} (h : Ctx l W) (n : Nat) : Ctx l (W.drewN n) := h.below (pbdN (Below.refl _ _) n)
theorem Ctx.cons {W : World} {l : List UpP} (u : UpP) (h1 : u.p W) (h : Ctx l W) : Ctx (u :: l) W := ⟨h1, h⟩
def uBlk (g : Nat) (cs : List Value) (t : Nat) : UpP := ⟨fun W => W.heap[g]? = some (.cells cs.toArray t (0, 0)), fun W W' h hb => by
 have hlt : g < W.heap.size := (Array.getElem?_eq_some_iff.1 h).1
 rw [hb.block g hlt]; exact h⟩
def uTab : UpP := ⟨TabOk, fun _ _ h hb => h.below hb⟩
def uV {α : Type} (d : Kd α) (e base : Nat) (v : Value) (xs : List α) : UpP := ⟨fun W => Kd.V d e W base (fun k => base ≤ k) v xs, fun _ _ h hb => Kd.V_below h hb⟩
def uC {α : Type} (d : Kd α) (A : Option Addr) (n : Nat) (xs : List α) : UpP := ⟨fun W => Kd.C d W A n xs, fun _ _ h hb => Kd.C_below h hb⟩
def uB (w : World) : UpP := ⟨fun W => Below w.heap.size w W, fun _ _ h hb => below_step h hb⟩
theorem Ctx.blk {W : World} {g : Nat} {cs : List Value} {t : Nat} (h : (uBlk g cs t).p W) (i : Nat) {v : Value} (hv : cs[i]? = some v) : W.cell? ⟨g, i, none⟩ = some v := by
 have h' : W.heap[g]? = some (.cells cs.toArray t (0, 0)) := h
 simp [World.cell?, h', hv]
theorem Ctx.frz {W : World} {g : Nat} {cs : List Value} {t : Nat} (h : (uBlk g cs t).p W) (i : Nat) : W.frozen? ⟨g, i, none⟩ = false := by
 have h' : W.heap[g]? = some (.cells cs.toArray t (0, 0)) := h
 simp [World.frozen?, h']
theorem Ctx.new {W : World} {l : List UpP} {cs : List Value} {t : Nat} (h : Ctx l W) : Ctx (uBlk W.heap.size cs t :: l) (W.alloc (.cells cs.toArray t (0, 0))) :=
 ⟨by show (W.alloc _).heap[W.heap.size]? = _; exact blk_new W _, h.alloc _⟩
end Go.Proofs.YteighppcdpaekaaDoor.P
namespace Go.Proofs.YteighppcdpaekaaDoor.P
open Go.RowKit
theorem absW {P : Program} {c : Code} {Q : Exit → Act → World → Prop} {a : Act} {W : World} (l : List UpP) (h : Ctx l W) (hk : ∀ W', Ctx l W' → c.wp P Q a W') : c.wp P Q a W := hk W h
theorem Ctx.ne {W : World} {g g' t t' : Nat} {cs cs' : List Value} (h : (uBlk g cs t).p W) (h' : (uBlk g' cs' t').p W) (ht : t ≠ t') : g ≠ g' := by
 rintro rfl;have e := Option.some.inj ((show W.heap[g]? = _ from h).symm.trans h')
 injection e with _ e
 exact ht e
end Go.Proofs.YteighppcdpaekaaDoor.P
namespace Go.Proofs.YteighppcdpaekaaDoor.P
open Go.RowKit Go.Proofs.YteighppcdpaekaaDoorW.PrintWords
theorem absB {P : Program} {fn : Func} {R : Ending → World → Prop} {e : Exit} {a : Act} {W : World} (l : List UpP) (h : Ctx l W) (hk : ∀ W', Ctx l W' → bodyPost P fn R e a W') : bodyPost P fn R e a W := hk W h
theorem Ctx.put {W : World} {g t : Nat} {cs : List Value} (h : (uBlk g cs t).p W) (i : Nat) (v : Value) : (uBlk g (cs.set i v) t).p (W.setCell ⟨g, i, none⟩ v) := by
 have h' : W.heap[g]? = some (.cells cs.toArray t (0, 0)) := h;exact blk_put h' i v (by simp)
theorem Ctx.far {W : World} {g g' t : Nat} {cs : List Value} (h : (uBlk g cs t).p W) (i : Nat) (v : Value) (hn : g ≠ g') : (uBlk g cs t).p (W.setCell ⟨g', i, none⟩ v) := by
 have h' : W.heap[g]? = some (.cells cs.toArray t (0, 0)) := h;exact blk_far h' hn v
end Go.Proofs.YteighppcdpaekaaDoor.P
namespace Go.Proofs.YteighppcdpaekaaDoor.P
open Go.RowKit Go.Proofs.YteighppcdpaekaaDoorW.PrintWords
theorem results_cct {P : Program} {fn : Func} {p p' u : Tmp} {ty ty' : TypeId} (h : fn.results = #[.cell p ty, .cell p' ty', .tmp u]) (tmps : Array Value) (w : World) (g g' : Nat) (t t' : TypeId) (cs cs' : Array Value) (fr fr' : Nat × Nat) (d d' : TypeDesc) (v : Value)
  (hp : tmps.getD p undef = .pointer (some ⟨g, 0, none⟩)) (hg : w.heap[g]? = some (.cells cs t fr))
  (hu : P.underlying ty = some d) (hd : (match d with | .struct _ | .array _ _ => true | _ => false) = true) (hi : (P.info? ty).map (·.size) = some cs.size)
  (hp' : tmps.getD p' undef = .pointer (some ⟨g', 0, none⟩)) (hg' : w.heap[g']? = some (.cells cs' t' fr'))
  (hu' : P.underlying ty' = some d') (hd' : (match d' with | .struct _ | .array _ _ => true | _ => false) = true) (hi' : (P.info? ty').map (·.size) = some cs'.size) (hv : tmps.getD u undef = v) :
  (results fn tmps).run P w = .ok (.tuple #[.agg cs, .agg cs', v]) w := by
 have h1 : tmps[p]?.getD undef = .pointer (some ⟨g, 0, none⟩) := by simpa using hp
 have h2 : tmps[p']?.getD undef = .pointer (some ⟨g', 0, none⟩) := by simpa using hp'
 have h3 : tmps[u]?.getD undef = v := by simpa using hv
 simp [results, h, h1, h2, h3, asAddr, run_loadVar_row w g t ty cs fr d hg hu hd hi, run_loadVar_row w g' t' ty' cs' fr' d' hg' hu' hd' hi']
end Go.Proofs.YteighppcdpaekaaDoor.P
namespace Go.Proofs.YteighppcdpaekaaDoor.P
open Go.RowKit Go.Proofs.YteighppcdpaekaaDoorW.PrintWords
theorem vC {α : Type} {d : Kd α} {e base n c : Nat} {A : Option Addr} {xs : List α} {W : World} (h : (uV d e base (.slice A n c) xs).p W) : Kd.C d W A n xs := by
 have h2 := Kd.V_reads' (base := base) (e := e) h;obtain rfl := h2.1;exact h2.2.2
theorem vle {α : Type} {d : Kd α} {e base n c : Nat} {A : Option Addr} {xs : List α} {W : World} (h : (uV d e base (.slice A n c) xs).p W) : n ≤ c := (Kd.V_reads' (base := base) (e := e) h).2.1
theorem vR {α : Type} {d : Kd α} {e base b : Nat} {ok : Nat → Prop} {v : Value} {xs : List α} {W : World} (h : Kd.R d e W b ok v xs) (hb : base ≤ b) : (uV d e base v xs).p W :=
 Kd.V_mono (Kd.R_V (base' := base) (Kd.R_bound h)) (fun _ hk => Nat.le_trans hb hk.2.1)
theorem vV {α : Type} {d : Kd α} {e base b m : Nat} {v : Value} {xs : List α} {W : World} (h : Kd.V d e W b (fun k => base ≤ k ∨ m ≤ k) v xs) (hb : base ≤ m) : (uV d e base v xs).p W :=
 Kd.V_mono (show Kd.V d e W base _ v xs from h) (fun _ hk => hk.elim id (Nat.le_trans hb))
theorem vfar {α : Type} {d : Kd α} {e base g i : Nat} {v : Value} {xs : List α} {W : World} (h : (uV d e base v xs).p W) (u : Value) (hg : g < base) : (uV d e base v xs).p (W.setCell ⟨g, i, none⟩ u) :=
 Kd.V_far (p := ⟨g, i, none⟩) (show Kd.V d e W base _ v xs from h) (fun k hk => fun he => Nat.lt_irrefl k (Nat.lt_of_lt_of_le (he ▸ hg) hk)) u
theorem vT {α : Type} {d : Kd α} {e base : Nat} {v : Value} {xs : List α} {W : World} (h : (uV d e base v xs).p W) : Kd.V d e W 0 (fun _ => True) v xs := Kd.V_mono (show Kd.V d e W 0 _ v xs from h) (fun _ _ => trivial)
end Go.Proofs.YteighppcdpaekaaDoor.P
namespace Go.Proofs.YteighppcdpaekaaDoor.P
open Go.RowKit Go.Proofs.YteighppcdpaekaaDoorW.PrintWords
theorem Ctx.ne' {W : World} {g g' t t' : Nat} {cs cs' : List Value} (h : (uBlk g cs t).p W) (h' : (uBlk g' cs' t').p W) (hc : cs ≠ cs') : g ≠ g' := by
 rintro rfl;have e := Option.some.inj ((show W.heap[g]? = _ from h).symm.trans h')
 injection e with e _
 exact hc (by simpa using e)
end Go.Proofs.YteighppcdpaekaaDoor.P
namespace Go.Proofs.YteighppcdpaekaaDoor.P
theorem Ctx.nil {W : World} : Ctx [] W := True.intro
end Go.Proofs.YteighppcdpaekaaDoor.P
end
section
namespace Go.Proofs.YteighppcdpaekaaDoor.P
open Go.RowKit Go.Proofs.YteighppcdpaekaaDoorW.PrintWords
def fill : List (Option Tmp) → Nat → (Nat → Value) → (Nat → Bool) → Act → Act
 | [], _, _, _, a => a
 | d :: D, k, e, l, a => fill D (k + 1) e l (if l k then a.put d (e k) else a)
theorem put_comm {a : Act} {d d' : Option Tmp} {v v' : Value} (h : d = none ∨ d' = none ∨ d ≠ d') : (a.put d v).put d' v' = (a.put d' v').put d v := by
 cases d with
 | none => rfl
 | some d =>
  cases d' with
  | none => rfl
  | some d' =>
   have hne : d ≠ d' := by simpa using h
   show Act.mk _ _ = Act.mk _ _
   congr 1
   exact Array.setIfInBounds_comm v v' hne
theorem fill_put {d : Option Tmp} {v : Value} {e : Nat → Value} {l : Nat → Bool} : ∀ (D : List (Option Tmp)) (k : Nat) (a : Act), (∀ x ∈ D, d = none ∨ x = none ∨ d ≠ x) → fill D k e l (a.put d v) = (fill D k e l a).put d v
 | [], _, _, _ => rfl
 | x :: D, k, a, h => by
  simp only [fill]
  have h2 := fun y hy => h y (List.mem_cons_of_mem x hy)
  split
  ·rw [put_comm (h x (List.mem_cons_self ..))]; exact fill_put D (k + 1) _ h2
  ·exact fill_put D (k + 1) _ h2
theorem fill_congr {e e' : Nat → Value} {l l' : Nat → Bool} : ∀ (D : List (Option Tmp)) (k : Nat) (a : Act), (∀ j, k ≤ j → j < k + D.length → l j = l' j ∧ (l j = true → e j = e' j)) → fill D k e l a = fill D k e' l' a
 | [], _, _, _ => rfl
 | x :: D, k, a, h => by
  simp only [fill];obtain ⟨h1, h2⟩ := h k (Nat.le_refl _) (by simp);rw [← h1]
  have hr := fun a => fill_congr (e := e) (e' := e') (l := l) (l' := l') D (k + 1) a (fun j h3 h4 => h j (by omega) (by simp; omega))
  split
  ·rename_i ht; rw [h2 ht]; exact hr _
  ·exact hr _
def apart : List (Option Tmp) → Bool
 | [] => true
 | d :: D => D.all (fun x => d.isNone || x.isNone || d != x) && apart D
theorem apart_all {d x : Option Tmp} {D : List (Option Tmp)} (h : D.all (fun x => d.isNone || x.isNone || d != x) = true) (hx : x ∈ D) : d = none ∨ x = none ∨ d ≠ x := by
 have := List.all_eq_true.1 h x hx;simp only [Bool.or_eq_true, Option.isNone_iff_eq_none, bne_iff_ne, ne_eq] at this;exact (or_assoc.1 this)
theorem fill_set {e : Nat → Value} {l : Nat → Bool} {v : Value} : ∀ (D : List (Option Tmp)) (k i : Nat) (a : Act) (d : Option Tmp), apart D = true → D[i]? = some d → l (k + i) = false →
  (fill D k e l a).put d v = fill D k (fun j => if j = k + i then v else e j) (fun j => if j = k + i then true else l j) a
 | [], _, _, _, _, _, h, _ => by simp at h
 | x :: D, k, 0, a, d, hA, h, hl => by
  obtain rfl : x = d := by simpa using h
  simp only [apart, Bool.and_eq_true] at hA;simp only [Nat.add_zero] at hl ⊢;simp only [fill, hl, if_true, Bool.false_eq_true, if_false];rw [← fill_put D (k + 1) a (fun y hy => apart_all hA.1 hy)];exact fill_congr D (k + 1) _ (fun j h1 h2 => by simp [show ¬ j = k by omega])
 | x :: D, k, i + 1, a, d, hA, h, hl => by
  simp only [apart, Bool.and_eq_true] at hA;simp only [fill, show ¬ k = k + (i + 1) by omega, if_false];have := fill_set (e := e) (l := l) (v := v) D (k + 1) i (if l k = true then a.put x (e k) else a) d hA.2 (by simpa using h) (by rw [show k + 1 + i = k + (i + 1) by omega]; exact hl);rw [show k + 1 + i = k + (i + 1) by omega] at this;exact this
theorem put_at {a : Act} {t : Tmp} {d : Option Tmp} {v : Value} (h : d ≠ some t) : (a.put d v).tmps[t]? = a.tmps[t]? := by
 cases d with
 | none => rfl
 | some d =>
  have hne : d ≠ t := fun e => h (by rw [e])
  show (a.tmps.setIfInBounds d v)[t]? = _
  rw [Array.getElem?_setIfInBounds_ne hne]
theorem fill_other {t : Tmp} {e : Nat → Value} {l : Nat → Bool} : ∀ (D : List (Option Tmp)) (k : Nat) (a : Act), some t ∉ D → (fill D k e l a).tmps[t]? = a.tmps[t]?
 | [], _, _, _ => rfl
 | x :: D, k, a, h => by
  simp only [fill]
  have h1 : x ≠ some t := fun e => h (by rw [e]; exact List.mem_cons_self ..)
  rw [fill_other D (k + 1) _ (fun hx => h (List.mem_cons_of_mem _ hx))]
  split
  ·exact put_at h1
  ·rfl
theorem fill_at {t : Tmp} {e : Nat → Value} {l : Nat → Bool} : ∀ (D : List (Option Tmp)) (k i : Nat) (a : Act), apart D = true → D[i]? = some (some t) → l (k + i) = true → t < a.tmps.size → (fill D k e l a).tmps[t]? = some (e (k + i))
 | [], _, _, _, _, h, _, _ => by simp at h
 | x :: D, k, 0, a, hA, h, hl, ht => by
  obtain rfl : x = some t := by simpa using h
  simp only [apart, Bool.and_eq_true] at hA;simp only [Nat.add_zero] at hl ⊢;simp only [fill, hl, if_true];rw [fill_other D (k + 1) _ (fun hx => by rcases apart_all hA.1 hx with h | h | h <;> simp at h)]
  show (a.tmps.setIfInBounds t (e k))[t]? = _
  simp [ht]
 | x :: D, k, i + 1, a, hA, h, hl, ht => by
  simp only [apart, Bool.and_eq_true] at hA;simp only [fill]
  have := fill_at (e := e) (l := l) D (k + 1) i (if l k = true then a.put x (e k) else a) hA.2 (by simpa using h) (by rw [show k + 1 + i = k + (i + 1) by omega]; exact hl) (by
   split
   ·cases x <;> simp [Act.put, ht]
   ·exact ht)
  rw [show k + 1 + i = k + (i + 1) by omega] at this;exact this
def early (ops : Array Oper) : Bool := (List.range ops.size).all fun i => ((ops[i]?).map fun o => o.after.all fun e => !Region.binds .any e || decide (e.on < i)).getD true
def dsts (ops : Array Oper) : List (Option Tmp) := ops.toList.map (·.dst)
def waits (ops : Array Oper) (k : Nat) : List Nat := ((ops[k]?).map fun o => (o.after.toList.filter (Region.binds .any)).map (·.on)).getD []
def marks (ops : Array Oper) : Nat → List Nat → List Nat
 | 0, m => m
 | k + 1, m => marks ops k (if m.contains k then m ++ waits ops k else m)
section
variable {P : Program} {ops : Array Oper} {Q : Exit → Act → World → Prop}
def Step (P : Program) (ops : Array Oper) (Q : Exit → Act → World → Prop) (a0 : Act) (C : World → Prop) (R : Nat → Value → World → Prop) (i : Nat) : Prop :=
 ∀ o, ops[i]? = some o → ∀ (e : Nat → Value) (a : Act) (w : World), C w → (∀ x ∈ o.after, Region.binds .any x = true → R x.on (e x.on) w ∧ ∀ t, (ops[x.on]?).bind (·.dst) = some t → a.tmps[t]? = some (e x.on)) →
  (∀ t, some t ∉ dsts ops → a.tmps[t]? = a0.tmps[t]?) → ∀ K : Act → World → Prop, (∀ v w', Below w.heap.size w w' → R i v w' → K (a.put o.dst v) w') →
  if Region.wanted o (yielded ops a.tmps) = true then Oper.wp P o a w K Q else K (a.put o.dst undef) w
def lf (l : Array Bool) (j : Nat) : Bool := l.getD j false
theorem ready_mem {l : Array Bool} {i : Nat} (h : i ∈ Region.ready .any ops l) (hs : l.size = ops.size) : ∃ o, ops[i]? = some o ∧ lf l i = false ∧ i < l.size ∧ ∀ x ∈ o.after, Region.binds .any x = true → lf l x.on = true := by
 unfold Region.ready at h;simp only [List.mem_filter, List.mem_range, Bool.and_eq_true, Bool.not_eq_true'] at h;obtain ⟨h1, h2, h3⟩ := h;refine ⟨ops[i], by simp [h1], ?_, by omega, fun x hx hb => ?_⟩
 ·unfold lf
  rw [Array.getD_eq_getD_getElem?] at h2 ⊢;rw [Array.getElem?_eq_getElem (by omega)] at h2 ⊢
  simpa using h2
 ·simp only [Array.getElem?_eq_getElem h1, Option.map_some, Option.getD_some, Array.all_eq_true'] at h3
  have := h3 x hx;rw [hb] at this
  simpa [lf] using this
theorem ready_nil {l : Array Bool} (h : Region.ready .any ops l = []) (hE : early ops = true) (hs : l.size = ops.size) : ∀ j, j < ops.size → lf l j = true := by
 intro j
 induction j using Nat.strongRecOn with
 | _ j ih =>
  intro hj
  cases hl : lf l j with
  | true => rfl
  | false =>
   have hm : j ∈ Region.ready .any ops l := by
    unfold Region.ready;simp only [List.mem_filter, List.mem_range, Bool.and_eq_true, Bool.not_eq_true'];refine ⟨hj, ?_, ?_⟩
    ·unfold lf at hl
     rw [Array.getD_eq_getD_getElem?] at hl ⊢;rw [Array.getElem?_eq_getElem (by omega)] at hl ⊢
     simpa using hl
    ·simp only [Array.getElem?_eq_getElem hj, Option.map_some, Option.getD_some, Array.all_eq_true']
     intro x hx;have h1 := List.all_eq_true.1 hE j (List.mem_range.2 hj);simp only [Array.getElem?_eq_getElem hj, Option.map_some, Option.getD_some, Array.all_eq_true'] at h1
     cases hbx : Region.binds .any x with
     | false => simp
     | true =>
      have h2 := h1 x hx;rw [hbx] at h2;have := ih x.on (by simpa using h2) (by have := (show x.on < j by simpa using h2); omega);unfold lf at this;rw [this]
      simp
   rw [h] at hm;cases hm
theorem waits_mem {k x : Nat} (h : x ∈ waits ops k) : ∃ o, ops[k]? = some o ∧ ∃ y ∈ o.after, Region.binds .any y = true ∧ y.on = x := by
 unfold waits at h
 cases ho : ops[k]? with
 | none => rw [ho] at h; simp at h
 | some o =>
  rw [ho] at h;simp only [Option.map_some, Option.getD_some, List.mem_map, List.mem_filter] at h;obtain ⟨y, ⟨h1, h2⟩, h3⟩ := h;exact ⟨o, rfl, y, by simpa using h1, h2, h3⟩
def Closed (ops : Array Oper) (l : Array Bool) : Prop := ∀ k, lf l k = true → ∀ x ∈ waits ops k, lf l x = true
theorem marks_listed {l : Array Bool} (hc : Closed ops l) : ∀ (k : Nat) (m : List Nat), (∀ x ∈ m, lf l x = true) → ∀ x ∈ marks ops k m, lf l x = true
 | 0, _, h => h
 | k + 1, m, h => by
  unfold marks;refine marks_listed hc k _ ?_
  split
  ·rename_i hk
   intro x hx
   rcases List.mem_append.1 hx with hx | hx
   ·exact h x hx
   ·exact hc k (h k (by simpa using hk)) x hx
  ·exact h
def cnt (l : Nat → Bool) : Nat → Nat
 | 0 => 0
 | k + 1 => cnt l k + (if l k = true then 0 else 1)
theorem cnt_congr {l l' : Nat → Bool} : ∀ n, (∀ j, j < n → l j = l' j) → cnt l n = cnt l' n
 | 0, _ => rfl
 | n + 1, h => by
  simp only [cnt];rw [cnt_congr n (fun j hj => h j (by omega)), h n (by omega)]
theorem cnt_set {l : Nat → Bool} {i : Nat} (hl : l i = false) : ∀ n, i < n → cnt (fun j => if j = i then true else l j) n + 1 = cnt l n
 | n + 1, h => by
  simp only [cnt];by_cases hi : i = n
  ·subst hi
   rw [cnt_congr (l' := l) i (fun j hj => by rw [if_neg (by omega)])]
   simp [hl]
  ·have := cnt_set hl n (by omega)
   simp only [show ¬ n = i by omega, if_false]
   omega
theorem lf_set {l : Array Bool} {i : Nat} (hi : i < l.size) : lf (l.setIfInBounds i true) = fun j => if j = i then true else lf l j := by
 funext j
 unfold lf;rw [Array.getD_eq_getD_getElem?, Array.getD_eq_getD_getElem?];by_cases h : j = i
 ·subst h; simp [hi]
 ·rw [if_neg h, Array.getElem?_setIfInBounds_ne (Ne.symm h)]
def FI (ops : Array Oper) (a0 : Act) (C : World → Prop) (R : Nat → Value → World → Prop) (l : Array Bool) (a : Act) (w : World) : Prop :=
 l.size = ops.size ∧ Closed ops l ∧ C w ∧ ∃ e, a = fill (dsts ops) 0 e (lf l) a0 ∧ ∀ j, lf l j = true → R j (e j) w
section
variable {a0 : Act} {C : World → Prop} {R : Nat → Value → World → Prop}
theorem dst_at {i : Nat} {o : Oper} (h : ops[i]? = some o) : (dsts ops)[i]? = some o.dst := by
 unfold dsts;rw [List.getElem?_map, Array.getElem?_toList, h]
 rfl
theorem fi_step (hA : apart (dsts ops) = true) (hT : ∀ t, some t ∈ dsts ops → t < a0.tmps.size) (hC : ∀ w w', C w → Below w.heap.size w w' → C w') (hR : ∀ j v w w', R j v w → Below w.heap.size w w' → R j v w')
  {l : Array Bool} {a : Act} {w : World} {i : Nat} (hI : FI ops a0 C R l a w) (hi : i ∈ Region.ready .any ops l) (hS : Step P ops Q a0 C R i) {K : Act → World → Prop} (hK : ∀ a' w', FI ops a0 C R (l.setIfInBounds i true) a' w' → K a' w') : wpOp P ops Q i K a w := by
 obtain ⟨hs, hc, hCw, e, rfl, hr⟩ := hI;obtain ⟨o, ho, hli, hisz, hw⟩ := ready_mem hi hs;refine wpOp_step ho (fun K' hK' => ?_);refine hS o ho e _ w hCw (fun x hx hb => ⟨hr _ (hw x hx hb), fun t ht => ?_⟩) (fun t ht => fill_other _ 0 a0 ht) K' (fun v w' hb hv => hK' _ _ (hK _ _ ?_))
 ·cases hox : ops[x.on]? with
  | none => rw [hox] at ht; simp at ht
  | some y =>
   rw [hox] at ht;have hd := dst_at hox;rw [show y.dst = some t from ht] at hd;have := fill_at (e := e) (l := lf l) (dsts ops) 0 x.on a0 hA hd (by rw [Nat.zero_add]; exact hw x hx hb) (hT t (List.mem_of_getElem? hd));rw [Nat.zero_add] at this;exact this
 ·refine ⟨by simp [hs], ?_, hC _ _ hCw hb, fun j => if j = i then v else e j, ?_, fun j hj => ?_⟩
  ·intro k hk x hx
   rw [lf_set hisz] at hk ⊢
   dsimp only at hk ⊢
   by_cases hxi : x = i
   ·rw [if_pos hxi]
   ·rw [if_neg hxi]
    by_cases hki : k = i
    ·subst hki
     obtain ⟨o', ho', y, hy, hyb, rfl⟩ := waits_mem hx;obtain rfl := Option.some.inj (ho.symm.trans ho');exact hw y hy hyb
    ·rw [if_neg hki] at hk
     exact hc k hk x hx
  ·rw [lf_set hisz]
   have := fill_set (e := e) (l := lf l) (v := v) (dsts ops) 0 i a0 o.dst hA (dst_at ho) (by rw [Nat.zero_add]; exact hli)
   simpa using this
  ·rw [lf_set hisz] at hj
   dsimp only at hj ⊢
   by_cases hji : j = i
   ·subst hji; simpa using hv
   ·rw [if_neg hji] at hj ⊢
    exact hR _ _ _ _ (hr j hj) hb
theorem fi_end (hE : early ops = true) {l : Array Bool} {a : Act} {w : World} (hI : FI ops a0 C R l a w) (hr : Region.ready .any ops l = []) : ∃ e, C w ∧ a = fill (dsts ops) 0 e (fun _ => true) a0 ∧ ∀ j, j < ops.size → R j (e j) w := by
 obtain ⟨hs, hc, hCw, e, rfl, hR⟩ := hI;have hall := ready_nil hr hE hs;refine ⟨e, hCw, fill_congr _ 0 a0 (fun j _ hj => ⟨hall j (by simpa [dsts] using hj), fun _ => rfl⟩), fun j hj => hR j (hall j hj)⟩
theorem ready_zero {l : Array Bool} (hs : l.size = ops.size) (h : cnt (lf l) ops.size = 0) : Region.ready .any ops l = [] := by
 cases hr : Region.ready .any ops l with
 | nil => rfl
 | cons i r =>
  obtain ⟨o, ho, hli, hisz, _⟩ := ready_mem (l := l) (i := i) (by rw [hr]; exact List.mem_cons_self ..) hs;have := cnt_set hli ops.size (by omega)
  omega
theorem cnt_next {l : Array Bool} {i : Nat} (hi : i ∈ Region.ready .any ops l) (hs : l.size = ops.size) : cnt (lf (l.setIfInBounds i true)) ops.size + 1 = cnt (lf l) ops.size := by
 obtain ⟨o, ho, hli, hisz, _⟩ := ready_mem hi hs;rw [lf_set hisz];exact cnt_set hli ops.size (by omega)
theorem flow_all (hE : early ops = true) (hA : apart (dsts ops) = true) (hT : ∀ t, some t ∈ dsts ops → t < a0.tmps.size) (hC : ∀ w w', C w → Below w.heap.size w w' → C w') (hR : ∀ j v w w', R j v w → Below w.heap.size w w' → R j v w')
  (hS : ∀ i, i < ops.size → Step P ops Q a0 C R i) (hQ : ∀ e w, C w → (∀ j, j < ops.size → R j (e j) w) → Q .normal (fill (dsts ops) 0 e (fun _ => true) a0) w) :
  ∀ fuel l a w, FI ops a0 C R l a w → cnt (lf l) ops.size ≤ fuel → wpAny P .any ops Q fuel l a w
 | 0, l, a, w, hI, hn => by
  have hr := ready_zero hI.1 (Nat.le_zero.1 hn);obtain ⟨e, hCw, rfl, h⟩ := fi_end hE hI hr;exact ⟨hr, hQ e w hCw h⟩
 | fuel + 1, l, a, w, hI, hn => by
  refine ⟨fun hr => ?_, fun i hi => ?_⟩
  ·obtain ⟨e, hCw, rfl, h⟩ := fi_end hE hI hr
   exact hQ e w hCw h
  ·obtain ⟨o, ho, _, _, _⟩ := ready_mem hi hI.1
   have := cnt_next hi hI.1;exact fi_step hA hT hC hR hI hi (hS i (Array.getElem?_eq_some_iff.1 ho).1) (fun a' w' hI' => flow_all hE hA hT hC hR hS hQ fuel _ a' w' hI' (by omega))
theorem flow_but {m : Nat} (hm : ops.size = m + 1) (hM : (List.range m).all (marks ops m (waits ops m)).contains = true) (hE : early ops = true) (hA : apart (dsts ops) = true) (hT : ∀ t, some t ∈ dsts ops → t < a0.tmps.size) (hC : ∀ w w', C w → Below w.heap.size w w' → C w') (hR : ∀ j v w w', R j v w → Below w.heap.size w w' → R j v w')
  (hS : ∀ i, i < m → Step P ops Q a0 C R i) (hQ : ∀ o, ops[m]? = some o → ∀ e w, C w → (∀ j, j < m → R j (e j) w) → ∀ a, a = fill (dsts ops) 0 e (fun j => decide (j < m)) a0 → ∀ K : Act → World → Prop, (∀ a' w', Q .normal a' w' → K a' w') → if Region.wanted o (yielded ops a.tmps) = true then Oper.wp P o a w K Q else K (a.put o.dst undef) w) :
  ∀ fuel l a w, FI ops a0 C R l a w → lf l m = false → cnt (lf l) ops.size ≤ fuel → wpAny P .any ops Q fuel l a w
 | 0, l, a, w, hI, hl, hn => by
  have := cnt_set hl ops.size (by omega)
  omega
 | fuel + 1, l, a, w, hI, hl, hn => by
  refine ⟨fun hr => ?_, fun i hi => ?_⟩
  ·have := ready_nil hr hE hI.1 m (by omega)
   rw [hl] at this;cases this
  ·obtain ⟨o, ho, hli, hisz, hw⟩ := ready_mem hi hI.1
   have hnx := cnt_next hi hI.1;have hilt := (Array.getElem?_eq_some_iff.1 ho).1;by_cases him : i = m
   ·subst him
    obtain ⟨hs, hc, hCw, e, rfl, hr⟩ := hI
    have hall : ∀ j, j < i → lf l j = true := fun j hj => by
     have h1 := List.all_eq_true.1 hM j (List.mem_range.2 hj);refine marks_listed hc i _ (fun x hx => ?_) j (by simpa using h1);obtain ⟨o', ho', y, hy, hyb, rfl⟩ := waits_mem hx;obtain rfl := Option.some.inj (ho.symm.trans ho');exact hw y hy hyb
    have hnil : Region.ready .any ops (l.setIfInBounds i true) = [] := by
     refine ready_zero (by simp [hs]) ?_
     have hz : ∀ n, (∀ j, j < n → lf (l.setIfInBounds i true) j = true) → cnt (lf (l.setIfInBounds i true)) n = 0 := fun n => by
      induction n with
      | zero => intro _; rfl
      | succ n ih => intro h; simp only [cnt]; rw [ih (fun j hj => h j (by omega)), if_pos (h n (by omega))]
     refine hz _ (fun j hj => ?_);rw [lf_set hisz]
     dsimp only
     by_cases hji : j = i
     ·rw [if_pos hji]
     ·rw [if_neg hji]; exact hall j (by omega)
    refine wpOp_step ho (fun K' hK' => ?_);refine hQ o ho e w hCw (fun j hj => hr j (hall j hj)) _ (fill_congr _ 0 a0 (fun j _ hj => ?_)) K' (fun a' w' hq => hK' _ _ ?_)
    ·have hj2 : j < ops.size := by simpa [dsts] using hj
     refine ⟨?_, fun _ => rfl⟩;by_cases hji : j < i
     ·rw [hall j hji]; simp [hji]
     ·obtain rfl : j = i := by omega
      rw [hl]; simp
    ·cases fuel with
     | zero => exact ⟨hnil, hq⟩
     | succ fuel => exact ⟨fun _ => hq, by rw [hnil]; intro _ h; cases h⟩
   ·refine fi_step hA hT hC hR hI hi (hS i (by omega)) (fun a' w' hI' => flow_but hm hM hE hA hT hC hR hS hQ fuel _ a' w' hI' ?_ (by omega))
    rw [lf_set hisz]
    dsimp only
    rw [if_neg (Ne.symm him)];exact hl
theorem fi_start {w0 : World} (h : C w0) : FI ops a0 C R (Array.replicate ops.size false) a0 w0 := by
 have hl : ∀ j, lf (Array.replicate ops.size false) j = false := fun j => by
  unfold lf;rw [Array.getD_eq_getD_getElem?];rw [Array.getElem?_replicate]
  split <;> rfl
 refine ⟨by simp, fun k hk => ?_, h, fun _ => undef, ?_, fun j hj => ?_⟩
 ·rw [hl] at hk; cases hk
 ·have : ∀ (D : List (Option Tmp)) (k : Nat), fill D k (fun _ => undef) (lf (Array.replicate ops.size false)) a0 = a0 := fun D => by
   induction D with
   | nil => intro _; rfl
   | cons d D ih => intro k; simp only [fill, hl, Bool.false_eq_true, if_false]; exact ih _
  rw [this]
 ·rw [hl] at hj; cases hj
theorem cnt_le {l : Nat → Bool} : ∀ n, cnt l n ≤ n
 | 0 => Nat.le_refl _
 | n + 1 => by
  have := cnt_le (l := l) n;simp only [cnt]
  split <;> omega
theorem flow {id : Nat} {w0 : World} (C : World → Prop) (R : Nat → Value → World → Prop) (hm : P.follows .mixedOrders = true) (hE : early ops = true) (hA : apart (dsts ops) = true) (hT : (dsts ops).all (fun d => (d.map fun t => decide (t < a0.tmps.size)).getD true) = true)
  (hC : ∀ w w', C w → Below w.heap.size w w' → C w') (hR : ∀ j v w w', R j v w → Below w.heap.size w w' → R j v w') (h0 : C w0)
  (hS : ∀ i, i < ops.size → Step P ops Q a0 C R i) (hQ : ∀ e w, C w → (∀ j, j < ops.size → R j (e j) w) → Q .normal (fill (dsts ops) 0 e (fun _ => true) a0) w) : (Code.region id ops true).wp P Q a0 w0 :=
 wp_region_any hm (flow_all hE hA (fun t ht => by have := List.all_eq_true.1 hT _ ht; simpa using this) hC hR hS hQ _ _ _ _ (fi_start (hC _ _ h0 (below_drew (Below.refl _ _)))) (cnt_le _))
theorem flow_last {id : Nat} {w0 : World} (m : Nat) (C : World → Prop) (R : Nat → Value → World → Prop) (hn : ops.size = m + 1) (hM : (List.range m).all (marks ops m (waits ops m)).contains = true) (hm : P.follows .mixedOrders = true) (hE : early ops = true) (hA : apart (dsts ops) = true) (hT : (dsts ops).all (fun d => (d.map fun t => decide (t < a0.tmps.size)).getD true) = true)
  (hC : ∀ w w', C w → Below w.heap.size w w' → C w') (hR : ∀ j v w w', R j v w → Below w.heap.size w w' → R j v w') (h0 : C w0)
  (hS : ∀ i, i < m → Step P ops Q a0 C R i) (hQ : ∀ o, ops[m]? = some o → ∀ e w, C w → (∀ j, j < m → R j (e j) w) → ∀ a, a = fill (dsts ops) 0 e (fun j => decide (j < m)) a0 → ∀ K : Act → World → Prop, (∀ a' w', Q .normal a' w' → K a' w') → if Region.wanted o (yielded ops a.tmps) = true then Oper.wp P o a w K Q else K (a.put o.dst undef) w) : (Code.region id ops true).wp P Q a0 w0 :=
 wp_region_any hm (flow_but hn hM hE hA (fun t ht => by have := List.all_eq_true.1 hT _ ht; simpa using this) hC hR hS hQ _ _ _ _ (fi_start (hC _ _ h0 (below_drew (Below.refl _ _)))) (by unfold lf; rw [Array.getD_eq_getD_getElem?, Array.getElem?_replicate]; split <;> rfl) (cnt_le _))
def tabOf (ops : Array Oper) : List (Option Tmp) × List (List Nat) := (dsts ops, (List.range ops.size).map (waits ops))
def earlyW (W : List (List Nat)) : Bool := W.zipIdx.all fun x => x.1.all fun j => decide (j < x.2)
def marksW (W : List (List Nat)) : Nat → List Nat → List Nat
 | 0, m => m
 | k + 1, m => marksW W k (if m.contains k then m ++ W.getD k [] else m)
def Steps (f : Nat → Prop) : Nat → Prop
 | 0 => True
 | n + 1 => Steps f n ∧ f n
theorem Steps.all {f : Nat → Prop} : ∀ {n : Nat}, Steps f n → ∀ i, i < n → f i
 | n + 1, h, i, hi => by
  by_cases hn : i = n
  ·subst hn; exact h.2
  ·exact h.1.all i (by omega)
def At (P : Program) (ops : Array Oper) (Q : Exit → Act → World → Prop) (D : List (Option Tmp)) (W : List (List Nat)) (a0 : Act) (C : World → Prop) (R : Nat → Value → World → Prop) (i : Nat) : Prop :=
 ∀ (e : Nat → Value) (a : Act) (w : World), C w → (∀ j, j ∈ W.getD i [] → R j (e j) w ∧ ∀ t, D[j]? = some (some t) → a.tmps[t]? = some (e j)) → (∀ t, some t ∉ D → a.tmps[t]? = a0.tmps[t]?) →
  ∀ K : Act → World → Prop, Sdq (∀ v w', Below w.heap.size w w' → R i v w' → K (a.put (D.getD i none) v) w') →
  match ops[i]? with
  | some o => if Region.wanted o (yielded ops a.tmps) = true then Oper.wp P o a w K Q else K (a.put (D.getD i none) undef) w
  | none => True
theorem waits_tab {D : List (Option Tmp)} {W : List (List Nat)} (h : tabOf ops = (D, W)) (i : Nat) (hi : i < ops.size) : W.getD i [] = waits ops i := by
 have h2 : (List.range ops.size).map (waits ops) = W := congrArg Prod.snd h;rw [← h2, List.getD_eq_getElem?_getD]
 simp [hi]
theorem dst_tab {D : List (Option Tmp)} {W : List (List Nat)} (h : tabOf ops = (D, W)) {i : Nat} {o : Oper} (ho : ops[i]? = some o) : D.getD i none = o.dst := by
 have h2 : dsts ops = D := congrArg Prod.fst h;rw [← h2, List.getD_eq_getElem?_getD, dst_at ho]
 rfl
theorem early_tab {D : List (Option Tmp)} {W : List (List Nat)} (h : tabOf ops = (D, W)) (hE : earlyW W = true) : early ops = true := by
 have h2 : (List.range ops.size).map (waits ops) = W := congrArg Prod.snd h;unfold early
 refine List.all_eq_true.2 fun i hi => ?_
 have hi := List.mem_range.1 hi;rw [Array.getElem?_eq_getElem hi];simp only [Option.map_some, Option.getD_some, Array.all_eq_true'];intro x hx
 cases hb : Region.binds .any x with
 | false => simp
 | true =>
  have hw : x.on ∈ W.getD i [] := by
   rw [waits_tab h i hi];unfold waits;rw [Array.getElem?_eq_getElem hi];simp only [Option.map_some, Option.getD_some, List.mem_map, List.mem_filter];exact ⟨x, ⟨by simpa using hx, hb⟩, rfl⟩
  have hl : i < W.length := by rw [← h2]; simpa using hi
  have := List.all_eq_true.1 hE (W[i], i) (by
   rw [List.mem_iff_getElem?]
   exact ⟨i, by simp [hl]⟩)
  have h3 := List.all_eq_true.1 this x.on (by rw [List.getD_eq_getElem?_getD] at hw; simpa [hl] using hw)
  simpa using h3
theorem marks_tab {D : List (Option Tmp)} {W : List (List Nat)} (h : tabOf ops = (D, W)) : ∀ k m, k ≤ ops.size → marks ops k m = marksW W k m
 | 0, _, _ => rfl
 | k + 1, m, hk => by
  simp only [marks, marksW];rw [waits_tab h k (by omega), marks_tab h k _ (by omega)]
theorem step_at {D : List (Option Tmp)} {W : List (List Nat)} (h : tabOf ops = (D, W)) {i : Nat} (hs : At P ops Q D W a0 C R i) : Step P ops Q a0 C R i := by
 intro o ho e a w hC hd hb K hK;have hD : dsts ops = D := congrArg Prod.fst h;have hi := (Array.getElem?_eq_some_iff.1 ho).1;have := hs e a w hC (fun j hj => ?_) (fun t ht => hb t (by rw [hD]; exact ht)) K ⟨fun v w' h1 h2 => by rw [dst_tab h ho]; exact hK v w' h1 h2⟩
 ·rw [ho, dst_tab h ho] at this
  exact this
 ·rw [waits_tab h i hi] at hj
  obtain ⟨o', ho', y, hy, hyb, rfl⟩ := waits_mem hj;obtain rfl := Option.some.inj (ho.symm.trans ho');obtain ⟨h1, h2⟩ := hd y hy hyb;refine ⟨h1, fun t ht => h2 t ?_⟩
  cases hy2 : ops[y.on]? with
  | none =>
   rw [← hD] at ht;unfold dsts at ht;rw [List.getElem?_map, Array.getElem?_toList, hy2] at ht
   simp at ht
  | some oy =>
   have := dst_at hy2;rw [hD, ht] at this
   simpa using (Option.some.inj this).symm
theorem flowT {id n : Nat} {w0 : World} {D : List (Option Tmp)} {W : List (List Nat)} (h : tabOf ops = (D, W)) (hn : ops.size = n) (C : World → Prop) (R : Nat → Value → World → Prop) (hm : P.follows .mixedOrders = true) (hc : (earlyW W && apart D && D.all (fun d => (d.map fun t => decide (t < a0.tmps.size)).getD true)) = true)
  (hC : ∀ w w', C w → Below w.heap.size w w' → C w') (hR : ∀ j v w w', R j v w → Below w.heap.size w w' → R j v w') (h0 : C w0)
  (hS : Steps (At P ops Q D W a0 C R) n) (hQ : ∀ e w, C w → Steps (fun j => R j (e j) w) n → Q .normal (fill D 0 e (fun _ => true) a0) w) : (Code.region id ops true).wp P Q a0 w0 := by
 subst hn;simp only [Bool.and_eq_true] at hc;have hD : dsts ops = D := congrArg Prod.fst h;refine flow C R hm (early_tab h hc.1.1) (by rw [hD]; exact hc.1.2) (by rw [hD]; exact hc.2) hC hR h0 (fun i hi => step_at h (hS.all i hi)) (fun e w hCw hr => ?_);rw [hD];refine hQ e w hCw ?_
 have hall : ∀ n, n ≤ ops.size → Steps (fun j => R j (e j) w) n := fun n => by
  induction n with
  | zero => intro _; trivial
  | succ n ih => intro hn; exact ⟨ih (by omega), hr n (by omega)⟩
 exact hall _ (Nat.le_refl _)
theorem flowL {id m : Nat} {w0 : World} {D : List (Option Tmp)} {W : List (List Nat)} (h : tabOf ops = (D, W)) (hn : ops.size = m + 1) (C : World → Prop) (R : Nat → Value → World → Prop) (hm : P.follows .mixedOrders = true) (hc : (earlyW W && apart D && D.all (fun d => (d.map fun t => decide (t < a0.tmps.size)).getD true) && (List.range m).all (marksW W m (W.getD m [])).contains) = true)
  (hC : ∀ w w', C w → Below w.heap.size w w' → C w') (hR : ∀ j v w w', R j v w → Below w.heap.size w w' → R j v w') (h0 : C w0)
  (hS : Steps (At P ops Q D W a0 C R) m) (o : Oper) (ho : ops[m]? = some o) (hQ : ∀ e w, C w → Steps (fun j => R j (e j) w) m → ∀ a, a = fill D 0 e (fun j => decide (j < m)) a0 → ∀ K : Act → World → Prop, Sdq (∀ a' w', Q .normal a' w' → K a' w') → if Region.wanted o (yielded ops a.tmps) = true then Oper.wp P o a w K Q else K (a.put o.dst undef) w) : (Code.region id ops true).wp P Q a0 w0 := by
 simp only [Bool.and_eq_true] at hc;have hD : dsts ops = D := congrArg Prod.fst h;refine flow_last m C R hn (by rw [marks_tab h m _ (by omega), ← waits_tab h m (by omega)]; exact hc.2) hm (early_tab h hc.1.1.1) (by rw [hD]; exact hc.1.1.2) (by rw [hD]; exact hc.1.2) hC hR h0 (fun i hi => step_at h (hS.all i hi)) (fun o' ho' e w hCw hr a ha K hK => ?_);obtain rfl := Option.some.inj (ho.symm.trans ho');rw [hD] at ha;refine hQ e w hCw ?_ a ha K ⟨hK⟩
 have hall : ∀ n, n ≤ m → Steps (fun j => R j (e j) w) n := fun n => by
  induction n with
  | zero => intro _; trivial
  | succ n ih => intro hn; exact ⟨ih (by omega), hr n (by omega)⟩
 exact hall _ (Nat.le_refl _)
theorem At.of {D : List (Option Tmp)} {W : List (List Nat)} {i : Nat} (o : Oper) (ho : ops[i]? = some o) (h : ∀ (e : Nat → Value) (a : Act) (w : World), C w → (∀ j, j ∈ W.getD i [] → R j (e j) w ∧ ∀ t, D[j]? = some (some t) → a.tmps[t]? = some (e j)) → (∀ t, some t ∉ D → a.tmps[t]? = a0.tmps[t]?) →
  ∀ K : Act → World → Prop, Sdq (∀ v w', Below w.heap.size w w' → R i v w' → K (a.put (D.getD i none) v) w') → if Region.wanted o (yielded ops a.tmps) = true then Oper.wp P o a w K Q else K (a.put (D.getD i none) undef) w) : At P ops Q D W a0 C R i := by
 intro e a w h1 h2 h3 K h4;rw [ho];exact h e a w h1 h2 h3 K h4
end
def Rl (l : List (Value → UpP)) (j : Nat) (v : Value) (w : World) : Prop := match l[j]? with
 | some u => (u v).p w
 | none => True
theorem Rl.up (l : List (Value → UpP)) (j : Nat) (v : Value) (w w' : World) (h : Rl l j v w) (hb : Below w.heap.size w w') : Rl l j v w' := by
 unfold Rl at *
 split
 ·rename_i u hu
  rw [hu] at h;exact (u v).up w w' h hb
 ·trivial
def uEq (c v : Value) : UpP := ⟨fun _ => v = c, fun _ _ h _ => h⟩
end
end Go.Proofs.YteighppcdpaekaaDoor.P
end
