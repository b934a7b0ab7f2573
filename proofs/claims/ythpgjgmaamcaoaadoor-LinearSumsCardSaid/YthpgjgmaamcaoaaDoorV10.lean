/- Walks and words of this session, put together by a program of this session (pack.py). Conditions: as each text says. -/
import Derived.Test.YthpgjgmaamcaoaaDoorCards
import Derived.Test.YthpgjgmaamcaoaaDoorTie
import Derived.Lib.SmallJoins
import Derived.Deep.Slices
import Derived.SliceStrings
import Derived.ChangeArms
import Derived.WalkKit
import Derived.ProofKit
import Derived.OpenShut
import Derived.ChangeMaps5
import Derived.JoinedCond
import Derived.ChangeOld
import Derived.Below
import Derived.LaidLaws
import Derived.MakeChecks
import Derived.Deep.DeepHandedRow
import Derived.Deep.DeepWitnessRowRef
import Derived.Stop.LaidErr
import Derived.Lib.LaidTab
import Derived.Test.YthpgjgmaamcaoaaDoorV4
import Derived.Test.YthpgjgmaamcaoaaDoorV8
import Derived.Test.YthpgjgmaamcaoaaDoorV9
set_option linter.unusedVariables false
set_option linter.unusedSimpArgs false
section
namespace Go.Proofs.YthpgjgmaamcaoaaDoor.P
open Go.RowKit Go.Proofs.YthpgjgmaamcaoaaDoorW.PrintWords Go.Proofs.YthpgjgmaamcaoaaDoorW.PrintLast Go.Proofs.YthpgjgmaamcaoaaDoorW.PrintMore Go.Proofs.YthpgjgmaamcaoaaDoor.Nm
open Go.ChangeShapes Go.WideShapes
set_option maxRecDepth 100000
set_option linter.unusedVariables false
theorem cells_93 : Tryd.prog.cellsOf 93 = 1 := by kernel_rfl
theorem cells_22 : Tryd.prog.cellsOf 22 = 1 := by kernel_rfl
theorem cells_24 : Tryd.prog.cellsOf 24 = 2 := by kernel_rfl
theorem cells_44 : Tryd.prog.cellsOf 44 = 3 := by kernel_rfl
theorem cells_25 : Tryd.prog.cellsOf 25 = 1 := by kernel_rfl
theorem cells_27 : Tryd.prog.cellsOf 27 = 3 := by kernel_rfl
theorem cells_3 : Tryd.prog.cellsOf 3 = 1 := by kernel_rfl
theorem cells_4 : Tryd.prog.cellsOf 4 = 1 := by kernel_rfl
instance : Inhabited S44 := ⟨z44⟩
section
variable {H : Type} {enc : TypeId × Value → H} {W : World} {sp : Nat → Bool} {held : Bool}
theorem openB {fuel : Nat} {cs : List Value} {x : DataW H × List MemPlace} (h : DataW.trod enc Tryd.prog W 0 sp held fuel 24 cs = some x) : ∃ v : S24, k24.K W v cs ∧ Dg B32 v.f1 := by
 obtain ⟨xs, n, hn, rfl, hl, hlen, hf⟩ := DataW.trod_struct Tryd.underlying24 h;rw [cells_24] at hl
 obtain ⟨a, b, rfl⟩ : ∃ a b, cs = [a, b] := by
  match cs, hl with
  | [a, b], _ => exact ⟨a, b, rfl⟩
 obtain ⟨y0, y1, rfl⟩ : ∃ a b, xs = [a, b] := by
  match xs, hlen with
  | [a, b], _ => exact ⟨a, b, rfl⟩
 have f0 : DataW.trod enc Tryd.prog W 0 sp held n 4 (([a, b].drop 0).take (Tryd.prog.cellsOf 4)) = some y0 := hf 0 _ rfl;have f1 : DataW.trod enc Tryd.prog W 0 sp held n 22 (([a, b].drop 1).take (Tryd.prog.cellsOf 22)) = some y1 := hf 1 _ rfl;rw [cells_4] at f0;rw [cells_22] at f1;obtain ⟨z, hz, _⟩ := DataW.trod_bool Tryd.underlying4 f0
 obtain rfl : a = .bool z := by simpa using hz
 have k2 : ∃ (l2 : List Int) (A2 : Option Addr) (c2 : Nat), b = .slice A2 l2.length c2 ∧ l2.length ≤ c2 ∧ (Kd.int .u32).C W A2 l2.length l2 ∧ Dg B32 l2 := by
  rcases open_ints Tryd.underlying22 Tryd.underlying93 cells_93 f1 with ⟨hc, _⟩ | ⟨ad, len, cap, zs, hc, _, h1, h2, h3, _, h5, h6⟩
  ·obtain rfl : b = .slice none 0 0 := by simpa using hc
   exact ⟨[], none, 0, rfl, Nat.le_refl _, Kd.C_nil _ W, fun x hx => by cases hx⟩
  ·obtain rfl : b = .slice (some ad) len cap := by simpa using hc
   have hss : len ≤ zs.length := by rw [h3]; split <;> omega
   have hll : (zs.take len).length = len := by rw [List.length_take]; omega
   refine ⟨zs.take len, some ad, cap, by rw [hll], by rw [hll]; exact h1, ?_, fun x hx => ?_⟩
   ·rw [hll]
    refine Kd.C_of_reads (enc := Value.int .u32) (d := (0 : Int)) (h1 := fun _ => rfl) ⟨hll, by unfold maxLen at h2; omega, fun _ => ⟨ad, rfl, fun j hj => ?_⟩⟩;rw [h5 j (by omega)];simp only [List.getD_eq_getElem?_getD, List.getElem?_take_of_lt hj]
   ·have := h6 x (List.mem_of_mem_take hx)
    have h7 : 0 ≤ x ∧ x ≤ 2 ^ 32 - 1 := by simpa [Lit.wf, IntKind.min, IntKind.max, IntKind.signed, IntKind.bits] using this
    unfold B32
    omega
 obtain ⟨l2, A2, c2, rfl, m2, g2, d2⟩ := k2;exact ⟨⟨z, l2⟩, k24_mk W ⟨z, l2⟩ m2 g2, d2⟩
theorem openP {fuel : Nat} {cs : List Value} {x : DataW H × List MemPlace} (h : DataW.trod enc Tryd.prog W 0 sp held fuel 44 cs = some x) : ∃ v : S44, k44.K W v cs ∧ Dg B32 v.f1.f1 ∧ -9223372036854775808 ≤ v.f0 ∧ v.f0 ≤ 9223372036854775807 := by
 obtain ⟨xs, n, hn, rfl, hl, hlen, hf⟩ := DataW.trod_struct Tryd.underlying44 h;rw [cells_44] at hl
 obtain ⟨a, b, c, rfl⟩ : ∃ a b c, cs = [a, b, c] := by
  match cs, hl with
  | [a, b, c], _ => exact ⟨a, b, c, rfl⟩
 obtain ⟨y0, y1, rfl⟩ : ∃ a b, xs = [a, b] := by
  match xs, hlen with
  | [a, b], _ => exact ⟨a, b, rfl⟩
 have f0 : DataW.trod enc Tryd.prog W 0 sp held n 3 (([a, b, c].drop 0).take (Tryd.prog.cellsOf 3)) = some y0 := hf 0 _ rfl;have f1 : DataW.trod enc Tryd.prog W 0 sp held n 24 (([a, b, c].drop 1).take (Tryd.prog.cellsOf 24)) = some y1 := hf 1 _ rfl;rw [cells_3] at f0;rw [cells_24] at f1;obtain ⟨z, hz, _, hw⟩ := DataW.trod_int Tryd.underlying3 f0
 obtain rfl : a = .int .i64 z := by simpa using hz
 obtain ⟨v, hv, hd⟩ := openB f1
 have hw : -2 ^ 63 ≤ z ∧ z ≤ 2 ^ 63 - 1 := by simpa [Lit.wf, IntKind.min, IntKind.max, IntKind.signed, IntKind.bits] using hw
 exact ⟨⟨z, v⟩, ⟨[.int .i64 z], [b, c], rfl, rfl, hv⟩, hd, by show -9223372036854775808 ≤ z; omega, by show z ≤ 9223372036854775807; omega⟩
structure Wid (x : TB) : Prop where
 c : Dg B32 x.f0.f1
 p : ∀ p ∈ x.f1, Dg B32 p.f1.f1
 v : ∀ p ∈ x.f1, -9223372036854775808 ≤ p.f0 ∧ p.f0 ≤ 9223372036854775807
theorem openT {fuel : Nat} {cs : List Value} {x : DataW H × List MemPlace} (h : DataW.trod enc Tryd.prog W 0 sp held fuel 27 cs = some x) : ∃ v : TB, kTB.K W v cs ∧ Wid v := by
 obtain ⟨xs, n, hn, rfl, hl, hlen, hf⟩ := DataW.trod_struct Tryd.underlying27 h;rw [cells_27] at hl
 obtain ⟨a, b, c, rfl⟩ : ∃ a b c, cs = [a, b, c] := by
  match cs, hl with
  | [a, b, c], _ => exact ⟨a, b, c, rfl⟩
 obtain ⟨y0, y1, rfl⟩ : ∃ a b, xs = [a, b] := by
  match xs, hlen with
  | [a, b], _ => exact ⟨a, b, rfl⟩
 have f0 : DataW.trod enc Tryd.prog W 0 sp held n 24 (([a, b, c].drop 0).take (Tryd.prog.cellsOf 24)) = some y0 := hf 0 _ rfl;have f1 : DataW.trod enc Tryd.prog W 0 sp held n 25 (([a, b, c].drop 2).take (Tryd.prog.cellsOf 25)) = some y1 := hf 1 _ rfl;rw [cells_24] at f0;rw [cells_25] at f1;obtain ⟨k, hk, hd⟩ := openB f0
 have k3 : ∃ (l3 : List S44) (A3 : Option Addr) (c3 : Nat), c = .slice A3 l3.length c3 ∧ l3.length ≤ c3 ∧ k44.C W A3 l3.length l3 ∧ ∀ v ∈ l3, Dg B32 v.f1.f1 ∧ -9223372036854775808 ≤ v.f0 ∧ v.f0 ≤ 9223372036854775807 := by
  rcases DataW.trod_slice Tryd.underlying25 f1 with ⟨hc, _⟩ | ⟨ad, len, cap, elems, rest, n2, hn2, hc, _, _, h1, h2, h3, h4, _⟩
  ·obtain rfl : c = .slice none 0 0 := by simpa using hc
   exact ⟨[], none, 0, rfl, Nat.le_refl _, Kd.C_nil _ W, fun x hx => by cases hx⟩
  ·obtain rfl : c = .slice (some ad) len cap := by simpa using hc
   obtain ⟨f, hff⟩ := Deep.choose_lt (α := S44) (n := len) (p := fun i v => ∃ cs, cs.length = 3 ∧ k44.K W v cs ∧ (∀ j u, cs[j]? = some u → W.cell? (ad.add (i * 3 + j)) = some u) ∧ Dg B32 v.f1.f1 ∧ -9223372036854775808 ≤ v.f0 ∧ v.f0 ≤ 9223372036854775807) (fun i hi => by
    have h5 := h4 i hi;rw [List.getElem?_eq_getElem (by omega)] at h5;obtain ⟨cs', h6, h7⟩ := Option.bind_eq_some_iff.1 h5;rw [cells_44] at h6;obtain ⟨_, h8, h9⟩ := World.cells?_some h6;obtain ⟨v, hv, hg⟩ := openP h7;refine ⟨v, cs', h8, hv, fun j u hu => ?_, hg⟩
    have hj : j < 3 := by have := (List.getElem?_eq_some_iff.1 hu).1; omega
    rw [← hu, ← h9 j hj, Deep.add_add])
   have hll : ((List.range len).map f).length = len := by simp
   refine ⟨(List.range len).map f, some ad, cap, by rw [hll], by rw [hll]; exact h1, ?_, fun v hv => ?_⟩
   ·rw [hll]
    refine ⟨hll, by unfold maxLen at h2; omega, fun _ => ⟨ad, rfl, fun j p hj => ?_⟩⟩
    have hjl : j < len := by have := (List.getElem?_eq_some_iff.1 hj).1; rw [hll] at this; exact this
    obtain ⟨cs', e1, e2, e3, e4⟩ := hff j hjl
    have : p = f j := by simpa [List.getElem?_range, hjl] using hj.symm
    subst this;exact ⟨cs', e1, e2, e3⟩
   ·obtain ⟨j, hj, rfl⟩ := List.mem_map.1 hv
    obtain ⟨cs', e1, e2, e3, e4⟩ := hff j (List.mem_range.1 hj);exact e4
 obtain ⟨l3, A3, c3, rfl, m3, g3, d3⟩ := k3;exact ⟨⟨k, l3⟩, ⟨[a, b], [.slice A3 l3.length c3], rfl, hk, ⟨A3, c3, rfl, m3, g3⟩⟩, hd, fun p hp => (d3 p hp).1, fun p hp => (d3 p hp).2⟩
theorem kv_of {α : Type} {d : Kd α} (hd : Kd.Heap d) {x : α} {cs : List Value} (h : d.K W x cs) : Kd.FK d W (fun _ => True) x cs := fun W' hW => hd.K (fun k hk => hW k trivial hk) h
theorem openArgT {b0 : Nat} {v : Value} {d : DataW H} {p : List MemPlace} (hv : Value.okWide Tryd.prog W .any b0 27 v) (h : DataW.Trod enc Tryd.prog W 0 sp held 27 v d p) :
  ∃ s : TB, Kv kTB (fun _ => True) W v s ∧ Wid s := by
 obtain ⟨cs, rfl, hsz⟩ := okWide_struct Tryd.underlying27 hv;obtain ⟨fuel, hf⟩ := h;obtain ⟨s, hs, hd⟩ := openT hf;refine ⟨s, ⟨_, ?_, kv_of kTB_heap hs⟩, hd⟩
 simp [Value.cells]
end
end Go.Proofs.YthpgjgmaamcaoaaDoor.P
namespace Go.Proofs.YthpgjgmaamcaoaaDoor.laidThree
open Go.ChangeShapes Go.WideShapes Go.ChangeAt Go.RowKit Go.Proofs.YthpgjgmaamcaoaaDoorW.PrintWords Go.Proofs.YthpgjgmaamcaoaaDoor.P
set_option linter.unusedVariables false
set_option maxRecDepth 100000
def three : List (String × DataW Unit) := [("math/bits.deBruijn32tab", Rows.laid_math_bits_deBruijn32tab), ("math/bits.deBruijn64tab", Rows.laid_math_bits_deBruijn64tab), ("internal/strconv.uint64pow10", Rows.laid_internal_strconv_uint64pow10)]
theorem gTab : Tryd.prog.globalNamed "internal/strconv.uint64pow10" = some 0 := by kernel_rfl
theorem gTabType : (Tryd.prog.globals[0]?).map (·.type) = some 165 := by kernel_rfl
theorem cells_u64 : Tryd.prog.cellsOf 61 = 1 := by kernel_rfl
theorem tabs {W : World} (h : laidMetH Tryd.prog three W) : TabOk W := by
 have hm : laidMet Tryd.prog three W := by rw [← MakeChecks.laidMetH_plain Tryd.prog three W (by kernel_rfl)]; exact h
 have h3 : laidMet Tryd.prog [("internal/strconv.uint64pow10", Rows.laid_internal_strconv_uint64pow10)] W := hm.tail.tail;exact Lib.tabIs_of_head (rest := _) gTab gTabType Tryd.underlying165 Tryd.underlying61 cells_u64 (by kernel_rfl) h3
def lits {H : Type} : DataW H → List Value
 | .agg l => l.map fun d => match d with
  | .lit (.int k z) => .int k z
  | _ => undef
 | _ => []
def putTab (h : Array Obj) (i : Nat) (cs : List Value) : Array Obj := h.modify i fun
 | .cells _ t frozen => .cells cs.toArray t frozen
 | o => o
noncomputable def laidWorld (os : Os) : World :=
 let w0 := World.holding Tryd.prog os ⟨#[], #[], []⟩
 { w0 with heap := putTab (putTab (putTab w0.heap 0 (lits (H := Unit) Rows.laid_internal_strconv_uint64pow10)) 1 (lits (H := Unit) Rows.laid_math_bits_deBruijn32tab)) 2 (lits (H := Unit) Rows.laid_math_bits_deBruijn64tab) }
end Go.Proofs.YthpgjgmaamcaoaaDoor.laidThree
end
section
namespace Go.Proofs.YthpgjgmaamcaoaaDoor.P
open Go.RowKit Go.Shelf Go.Proofs.YthpgjgmaamcaoaaDoor.P Go.Proofs.YthpgjgmaamcaoaaDoorW.PrintWords Go.Proofs.YthpgjgmaamcaoaaDoorW.PrintLast Go.Proofs.YthpgjgmaamcaoaaDoorW.PrintMore Go.Proofs.YthpgjgmaamcaoaaDoor.Nm
set_option maxRecDepth 100000
set_option linter.unusedVariables false
set_option linter.unusedSimpArgs false
theorem law_substs.tab3 : tabOf (opsOf Tryd.f3 3) = ([some 16, some 17, some 18, some 19, some 20, some 21, some 22, some 23, some 24, some 25, some 26, some 27, some 28, some 29, some 30, some 31, some 32, some 33, some 34, some 35, some 36, some 37, some 38, some 39, some 6], [[], [0, 0], [1], [1], [1], [2, 3, 4, 1, 1], [1], [6, 5, 1], [1], [1], [9, 7, 1], [7, 8, 10, 10, 1], [5, 11, 11, 1], [1, 12], [13, 12], [14], [14], [15, 16, 14, 14], [14], [18, 17, 14], [14], [19, 20, 19, 14], [17, 21, 21, 14], [14, 22], [23, 22, 0, 1, 2, 3, 4, 5, 6, 7, 8, 9, 10, 11, 12, 13, 14, 15, 16, 17, 18, 19, 20, 21, 22, 23]]) := by kernel_rfl
structure Lim (x : TB) : Prop where
 c : Dg B32 x.f0.f1
 p : ∀ p ∈ x.f1, Dg B32 p.f1.f1
theorem mul_abs {a b A B : Int} (hA : (a.natAbs : Int) ≤ A) (hB : (b.natAbs : Int) ≤ B) : ((a * b).natAbs : Int) ≤ A * B := by
 rw [Int.natAbs_mul, Int.natCast_mul];exact Int.mul_le_mul hA hB (Int.natCast_nonneg _) (Int.le_trans (Int.natCast_nonneg _) hA)
def K4 : Int := B32 ^ 4
theorem K4_val : K4 = 340282366920938463463374607431768211456 := by unfold K4 B32; decide
theorem both_of {n : Int} (h : (n.natAbs : Int) ≤ 400 * (K4 * K4)) : Big (can n) ∧ Dec (cn n) := by
 have h9 : (400 * (K4 * K4) : Int) < B32 ^ 9 := by rw [K4_val]; unfold B32; decide
 have h90 : (400 * (K4 * K4) : Int) < 10 ^ 90 := by rw [K4_val]; decide
 exact ⟨⟨can_dg _, Nat.le_trans (can_len (k := 9) (Int.lt_of_le_of_lt h h9)) (by decide)⟩, ⟨cn_dg _, Nat.le_trans (cn_len (k := 90) (Int.lt_of_le_of_lt h h90)) (by decide)⟩⟩
theorem lite_lin {x : TB} (h : Lite x) (hd : Lim x) : LIn x := ⟨by have := h.1; omega, ⟨hd.c, by have := h.2.1; omega⟩, fun p hp => ⟨hd.p p hp, by have := h.2.2 p hp; omega⟩⟩
theorem lite_bin {x : TB} (h : Lite x) (hd : Lim x) : R.BIn x := ⟨by have := h.1; omega, ⟨hd.c, by have := h.2.1; omega⟩, fun p hp => ⟨hd.p p hp, by have := h.2.2 p hp; omega⟩⟩
theorem bv_K {x : S24} (hd : Dg B32 x.f1) (hl : x.f1.length ≤ 4) : ((bv x).natAbs : Int) ≤ K4 := Int.le_of_lt (abs_lt' hd hl)
theorem cn_K {n : Int} (h : (n.natAbs : Int) ≤ K4) : (cn n).f1.length ≤ 40 := cn_len (Int.lt_of_le_of_lt h (by rw [K4_val]; decide))
theorem lite_din {x : TB} (h : Lite x) (hd : Lim x) : R.DIn 40 (R.ofT x) :=
 ⟨by show (List.map R.ofP x.f1).length ≤ 39; rw [List.length_map]; have := h.1; omega, ⟨cn_dg _, cn_K (bv_K hd.c h.2.1)⟩, fun p hp => by
  obtain ⟨q, hq, rfl⟩ := List.mem_map.1 hp
  exact ⟨cn_dg _, cn_K (bv_K (hd.p q hq) (h.2.2 q hq))⟩⟩
theorem nv_ofT (x : TB) : nv (R.ofT x).f0 = bv x.f0 := nv_cn _
theorem psR_ofP (l : List S44) : R.psR (l.map R.ofP) = psB l := by
 unfold R.psR psB;rw [List.map_map];exact List.map_congr_left (fun p _ => by show (p.f0, nv (cn (bv p.f1))) = _; rw [nv_cn])
theorem psR_ofT (x : TB) : R.psR (R.ofT x).f1 = psB x.f1 := psR_ofP x.f1
theorem psR_ofF (x : TB) (v : Int) : R.psR ((R.ofT x).f1.filter (fun p => p.f0 != v)) = psB (x.f1.filter (fun p => p.f0 != v)) := by
 show R.psR ((x.f1.map R.ofP).filter _) = _
 rw [List.filter_map, psR_ofP]
 rfl
theorem ofT_len (x : TB) : (R.ofT x).f1.length = x.f1.length := List.length_map _
theorem lite_ps {x : TB} (h : Lite x) (hd : Lim x) : ∀ p ∈ psB x.f1, (p.2.natAbs : Int) ≤ K4 := fun p hp => by
 obtain ⟨q, hq, rfl⟩ := List.mem_map.1 hp;exact bv_K (hd.p q hq) (h.2.2 q hq)
theorem psB_len (l : List S44) : (psB l).length = l.length := by unfold psB; simp
theorem K4_pos : (0 : Int) ≤ K4 := by rw [K4_val]; decide
theorem lite_cf {x : TB} (h : Lite x) (hd : Lim x) (v : Int) : ((LnP.cf (psB x.f1) v).natAbs : Int) ≤ 12 * K4 := by
 have h1 := LnP.cf_abs K4_pos (lite_ps h hd) v;have h2 := Int.mul_le_mul_of_nonneg_right (show ((psB x.f1).length : Int) ≤ 12 by rw [psB_len]; have := h.1; omega) K4_pos
 omega
theorem nrm_both {l : LnP.Ps} (hl : l.length ≤ 24) (h : ∀ p ∈ l, (p.2.natAbs : Int) ≤ 12 * (K4 * K4)) : ∀ p ∈ LnP.nrm l, Big (can p.2) ∧ Dec (cn p.2) := fun p hp => by
 have h0 : (0 : Int) ≤ 12 * (K4 * K4) := by rw [K4_val]; decide
 have h1 := LnP.nrm_abs h0 h p hp;have h2 := Int.mul_le_mul_of_nonneg_right (show (l.length : Int) ≤ 24 by omega) h0;refine both_of ?_;generalize K4 * K4 = X at *
 omega
theorem sub_both {x y : TB} (hx : Lite x) (hy : Lite y) (dx : Lim x) (dy : Lim y) (v : Int) : (Big (can (bv x.f0 + bv y.f0 * LnP.cf (psB x.f1) v)) ∧ Dec (cn (bv x.f0 + bv y.f0 * LnP.cf (psB x.f1) v))) ∧ (∀ p ∈ LnP.nrm (psB (x.f1.filter (fun p => p.f0 != v)) ++ (psB y.f1).map (fun p => (p.1, p.2 * LnP.cf (psB x.f1) v))), Big (can p.2) ∧ Dec (cn p.2)) ∧ (LnP.nrm (psB (x.f1.filter (fun p => p.f0 != v)) ++ (psB y.f1).map (fun p => (p.1, p.2 * LnP.cf (psB x.f1) v)))).length ≤ 39 := by
 have hc := lite_cf hx dx v
 have hk : K4 ≤ 12 * (K4 * K4) := by rw [K4_val]; decide
 have hl : (psB (x.f1.filter (fun p => p.f0 != v)) ++ (psB y.f1).map (fun p => (p.1, p.2 * LnP.cf (psB x.f1) v))).length ≤ 24 := by
  rw [List.length_append, List.length_map, psB_len, psB_len];have := List.length_filter_le (fun p : S44 => p.f0 != v) x.f1;have := hx.1;have := hy.1
  omega
 refine ⟨both_of ?_, nrm_both hl ?_, Nat.le_trans (LnP.nrm_len _) (by omega)⟩
 ·have h1 := bv_K dx.c hx.2.1
  have h2 := mul_abs (bv_K dy.c hy.2.1) hc;rw [show K4 * (12 * K4) = 12 * (K4 * K4) by rw [← Int.mul_assoc, Int.mul_comm K4 12, Int.mul_assoc]] at h2;generalize K4 * K4 = X at *
  omega
 ·intro p hp
  rcases List.mem_append.1 hp with hp | hp
  ·obtain ⟨q, hq, rfl⟩ := List.mem_map.1 hp
   have hq := (List.mem_filter.1 hq).1;exact Int.le_trans (bv_K (dx.p q hq) (hx.2.2 q hq)) hk
  ·obtain ⟨q, hq, rfl⟩ := List.mem_map.1 hp
   have h2 := mul_abs (lite_ps hy dy q hq) hc;rw [show K4 * (12 * K4) = 12 * (K4 * K4) by rw [← Int.mul_assoc, Int.mul_comm K4 12, Int.mul_assoc]] at h2;exact h2
theorem wo_both {x : TB} (hx : Lite x) (dx : Lim x) (v : Int) : (Big (can (bv x.f0)) ∧ Dec (cn (bv x.f0))) ∧ (∀ p ∈ LnP.nrm (psB (x.f1.filter (fun p => p.f0 != v))), Big (can p.2) ∧ Dec (cn p.2)) ∧ (LnP.nrm (psB (x.f1.filter (fun p => p.f0 != v)))).length ≤ 39 := by
 have hk : K4 ≤ 12 * (K4 * K4) := by rw [K4_val]; decide
 have hk2 : K4 ≤ 400 * (K4 * K4) := by rw [K4_val]; decide
 have hl : (psB (x.f1.filter (fun p => p.f0 != v))).length ≤ 24 := by
  rw [psB_len];have := List.length_filter_le (fun p : S44 => p.f0 != v) x.f1;have := hx.1
  omega
 refine ⟨both_of (Int.le_trans (bv_K dx.c hx.2.1) hk2), nrm_both hl ?_, Nat.le_trans (LnP.nrm_len _) (by omega)⟩;intro p hp;obtain ⟨q, hq, rfl⟩ := List.mem_map.1 hp;have hq := (List.mem_filter.1 hq).1;exact Int.le_trans (bv_K (dx.p q hq) (hx.2.2 q hq)) hk
theorem law_summedT (w0 : World) (hT : TabOk w0) : Calls Tryd.prog 10 #[] w0 fun e w' => ∃ v, e = .returned v ∧ v = .bool true ∧ Below w0.heap.size w0 w' :=
 (law_summed w0 hT).mono (fun e w' he => ⟨_, he.1, rfl, he.2⟩)
theorem law_sameB (u v : Value) (k : Int) (ps : LnP.Ps) (w0 : World) (h : Kv kTB (fun _ => True) w0 u (tt k ps)) (h' : Kv kTR (fun _ => True) w0 v (R.tt k ps)) (hb : (Big (can k) ∧ Dec (cn k)) ∧ (∀ p ∈ ps, Big (can p.2) ∧ Dec (cn p.2)) ∧ ps.length ≤ 39) :
  Calls Tryd.prog 11 #[u, v] w0 fun e w' => ∃ v, e = .returned v ∧ v = .bool true ∧ Below w0.heap.size w0 w' :=
 (R.law_same u v k ps w0 h h' hb.1 hb.2.1 hb.2.2).mono (fun e w' he => ⟨_, he.1, rfl, he.2⟩)
theorem law_lightT {v : Value} {x : TB} {w0 : World} {b : Bool} (h : Kv kTB (fun _ => True) w0 v x) (hb : decide (Lite x) = b) :
  Calls Tryd.prog 9 #[v] w0 fun e w' => e = .returned (.bool b) ∧ Below w0.heap.size w0 w' := hb ▸ law_light v x w0 h
set_option maxHeartbeats 3200000 in
theorem law_substs_x (u v : Value) (x y : TB) (vr : Int) (w0 : World) (h : Kv kTB (fun _ => True) w0 u x) (h' : Kv kTB (fun _ => True) w0 v y) (hT : TabOk w0) (hx : ¬Lite x) :
  Calls Tryd.prog 3 #[u, .int .i64 vr, v] w0 fun e w' => e = .returned (.bool true) ∧ Below w0.heap.size w0 w' := by
 obtain ⟨A, c, B, d, rfl, -, -⟩ := h.openTB;obtain ⟨A2, c2, B2, d2, rfl, -, -⟩ := h'.openTB;have C := Ctx.new (cs := [.bool y.f0.f0, .slice A2 y.f0.f1.length c2, .slice B2 y.f1.length d2]) (t := 27) (Ctx.new (cs := [.bool x.f0.f0, .slice A x.f0.f1.length c, .slice B x.f1.length d]) (t := 27) (Ctx.cons (uB w0) (Below.refl _ _) (Ctx.cons (uK kTB (fun _ => True) (.agg #[.bool x.f0.f0, .slice A x.f0.f1.length c, .slice B x.f1.length d]) x) h (Ctx.cons (uK kTB (fun _ => True) (.agg #[.bool y.f0.f0, .slice A2 y.f0.f1.length c2, .slice B2 y.f1.length d2]) y) h' (Ctx.cons uTab hT Ctx.nil)))));simp only [World.size_alloc] at C;clear h h' hT;go_enter Tryd.func3, Tryd.ntmps3
 go_upto_region 1 with fail
 refine absW _ C ?_;clear C;intro w1 C;have y1 := Ctx.blk C.2.1 0 rfl;have y2 := Ctx.blk C.2.1 1 rfl;have y3 := Ctx.blk C.2.1 2 rfl;have C := Sdq.mk C;go_wp2_with (first | (go_at_call 10; refine (law_summed _ C2.2.2.2.2.2.1).mono ?_; rintro e4 w4 ⟨rfl, hb4⟩; have C4 := C2.below hb4) | (go_at_call 9; refine (law_lightT C.out.2.2.2.1 (x := x) (b := false) (by simpa using hx)).mono ?_; rintro e2 w2 ⟨rfl, hb2⟩; have C2 := C.out.below hb2; have z1 := Ctx.blk C2.1 0 rfl; have z2 := Ctx.blk C2.1 1 rfl; have z3 := Ctx.blk C2.1 2 rfl; clear y1 y2 y3) | fail);go_ret;exact ⟨rfl, C4.2.2.1⟩
set_option maxHeartbeats 3200000 in
theorem law_substs_y (u v : Value) (x y : TB) (vr : Int) (w0 : World) (h : Kv kTB (fun _ => True) w0 u x) (h' : Kv kTB (fun _ => True) w0 v y) (hT : TabOk w0) (hx : Lite x) (hy : ¬Lite y) :
  Calls Tryd.prog 3 #[u, .int .i64 vr, v] w0 fun e w' => e = .returned (.bool true) ∧ Below w0.heap.size w0 w' := by
 obtain ⟨A, c, B, d, rfl, -, -⟩ := h.openTB;obtain ⟨A2, c2, B2, d2, rfl, -, -⟩ := h'.openTB;have C := Ctx.new (cs := [.bool y.f0.f0, .slice A2 y.f0.f1.length c2, .slice B2 y.f1.length d2]) (t := 27) (Ctx.new (cs := [.bool x.f0.f0, .slice A x.f0.f1.length c, .slice B x.f1.length d]) (t := 27) (Ctx.cons (uB w0) (Below.refl _ _) (Ctx.cons (uK kTB (fun _ => True) (.agg #[.bool x.f0.f0, .slice A x.f0.f1.length c, .slice B x.f1.length d]) x) h (Ctx.cons (uK kTB (fun _ => True) (.agg #[.bool y.f0.f0, .slice A2 y.f0.f1.length c2, .slice B2 y.f1.length d2]) y) h' (Ctx.cons uTab hT Ctx.nil)))));simp only [World.size_alloc] at C;clear h h' hT;go_enter Tryd.func3, Tryd.ntmps3
 go_upto_region 1 with fail
 refine absW _ C ?_;clear C;intro w1 C;have y1 := Ctx.blk C.2.1 0 rfl;have y2 := Ctx.blk C.2.1 1 rfl;have y3 := Ctx.blk C.2.1 2 rfl;have C := Sdq.mk C;go_wp2_with (first | (go_at_call 10; refine (law_summed _ C3.2.2.2.2.2.1).mono ?_; rintro e4 w4 ⟨rfl, hb4⟩; have C4 := C3.below hb4) | (go_at_call 9; refine (law_lightT C2.2.2.2.2.1 (x := y) (b := false) (by simpa using hy)).mono ?_; rintro e3 w3 ⟨rfl, hb3⟩; have C3 := C2.below hb3; clear z1 z2 z3) | (go_at_call 9; refine (law_lightT C.out.2.2.2.1 (x := x) (b := true) (by simpa using hx)).mono ?_; rintro e2 w2 ⟨rfl, hb2⟩; have C2 := C.out.below hb2; have z1 := Ctx.blk C2.1 0 rfl; have z2 := Ctx.blk C2.1 1 rfl; have z3 := Ctx.blk C2.1 2 rfl; clear y1 y2 y3) | fail);go_ret;exact ⟨rfl, C4.2.2.1⟩
set_option maxHeartbeats 3200000 in
theorem law_substs_l (u v : Value) (x y : TB) (vr : Int) (w0 : World) (h : Kv kTB (fun _ => True) w0 u x) (h' : Kv kTB (fun _ => True) w0 v y) (hT : TabOk w0) (hx : Lite x) (hy : Lite y) (dx : Lim x) (dy : Lim y) :
  Calls Tryd.prog 3 #[u, .int .i64 vr, v] w0 fun e w' => e = .returned (.bool true) ∧ Below w0.heap.size w0 w' := by
 obtain ⟨A, c, B, d, rfl, -, -⟩ := h.openTB;obtain ⟨A2, c2, B2, d2, rfl, -, -⟩ := h'.openTB;have C := Ctx.new (cs := [.bool y.f0.f0, .slice A2 y.f0.f1.length c2, .slice B2 y.f1.length d2]) (t := 27) (Ctx.new (cs := [.bool x.f0.f0, .slice A x.f0.f1.length c, .slice B x.f1.length d]) (t := 27) (Ctx.cons (uB w0) (Below.refl _ _) (Ctx.cons (uK kTB (fun _ => True) (.agg #[.bool x.f0.f0, .slice A x.f0.f1.length c, .slice B x.f1.length d]) x) h (Ctx.cons (uK kTB (fun _ => True) (.agg #[.bool y.f0.f0, .slice A2 y.f0.f1.length c2, .slice B2 y.f1.length d2]) y) h' (Ctx.cons uTab hT Ctx.nil)))));simp only [World.size_alloc] at C;clear h h' hT;have hlx := Sdq.mk (lite_lin hx dx);have hly := Sdq.mk (lite_lin hy dy);have hbx := Sdq.mk (lite_bin hx dx);have hby := Sdq.mk (lite_bin hy dy);have hxy := Sdq.mk (show x.f1.length + y.f1.length ≤ 39 by have := hx.1; have := hy.1; omega);have hss := Sdq.mk (sub_both hx hy dx dy vr);have hsw := Sdq.mk (wo_both hx dx vr)
 have hrs := Sdq.mk (fun (w : World) (p q : Value) (hp : Kv kTR (fun _ => True) w p (R.ofT x)) (hq : Kv kTR (fun _ => True) w q (R.ofT y)) => by
  have h1 := R.r11_Subst (fun _ => True) p q (R.ofT x) (R.ofT y) vr 40 w (fun _ _ => trivial) hp hq (lite_din hx dx) (lite_din hy dy) (by rw [ofT_len, ofT_len]; exact hxy.out) (by decide);rw [nv_ofT, nv_ofT, psR_ofT, psR_ofT, psR_ofF] at h1
  exact h1)
 have hrw := Sdq.mk (fun (w : World) (p : Value) (hp : Kv kTR (fun _ => True) w p (R.ofT x)) => by
  have h1 := R.r11_Without (fun _ => True) p (R.ofT x) vr 40 w (fun _ _ => trivial) hp (lite_din hx dx) (by decide);rw [nv_ofT, psR_ofF] at h1
  exact h1)
 go_enter Tryd.func3, Tryd.ntmps3
 go_upto_region 1 with fail
 refine absW _ C ?_;clear C;intro w1 C;have y1 := Ctx.blk C.2.1 0 rfl;have y2 := Ctx.blk C.2.1 1 rfl;have y3 := Ctx.blk C.2.1 2 rfl;have C := Sdq.mk C
 go_upto_region 3 with (first | (go_at_call 9; refine (law_lightT C2.2.2.2.2.1 (x := y) (b := true) (by simpa using hy)).mono ?_; rintro e3 w3 ⟨rfl, hb3⟩; have C3 := C2.below hb3; clear z1 z2 z3) | (go_at_call 9; refine (law_lightT C.out.2.2.2.1 (x := x) (b := true) (by simpa using hx)).mono ?_; rintro e2 w2 ⟨rfl, hb2⟩; have C2 := C.out.below hb2; have z1 := Ctx.blk C2.1 0 rfl; have z2 := Ctx.blk C2.1 1 rfl; have z3 := Ctx.blk C2.1 2 rfl; clear y1 y2 y3) | fail)
 clear C C2 hb2 hb3;refine absW _ C3 ?_;clear C3;intro w6 C;refine flowT (n := 25) law_substs.tab3 rfl (Ctx _) (Rl [uEq (.bool true), uEq (.bool true), uEq (.agg #[.bool x.f0.f0, .slice A x.f0.f1.length c, .slice B x.f1.length d]), uEq (.int .i64 vr), uEq (.agg #[.bool y.f0.f0, .slice A2 y.f0.f1.length c2, .slice B2 y.f1.length d2]), uKd kTB (fun _ => True) (tt (bv x.f0 + bv y.f0 * LnP.cf (psB x.f1) vr) (LnP.nrm (psB (x.f1.filter (fun p => p.f0 != vr)) ++ (psB y.f1).map (fun p => (p.1, p.2 * LnP.cf (psB x.f1) vr))))), uEq (.agg #[.bool x.f0.f0, .slice A x.f0.f1.length c, .slice B x.f1.length d]), uKd kTR (fun _ => True) (R.ofT x), uEq (.int .i64 vr), uEq (.agg #[.bool y.f0.f0, .slice A2 y.f0.f1.length c2, .slice B2 y.f1.length d2]), uKd kTR (fun _ => True) (R.ofT y), uKd kTR (fun _ => True) (R.tt (bv x.f0 + bv y.f0 * LnP.cf (psB x.f1) vr) (LnP.nrm (psB (x.f1.filter (fun p => p.f0 != vr)) ++ (psB y.f1).map (fun p => (p.1, p.2 * LnP.cf (psB x.f1) vr))))), uEq (.bool true), uEq (.bool true), uEq (.bool true), uEq (.agg #[.bool x.f0.f0, .slice A x.f0.f1.length c, .slice B x.f1.length d]), uEq (.int .i64 vr), uKd kTB (fun _ => True) (tt (bv x.f0) (LnP.nrm (psB (x.f1.filter (fun p => p.f0 != vr))))), uEq (.agg #[.bool x.f0.f0, .slice A x.f0.f1.length c, .slice B x.f1.length d]), uKd kTR (fun _ => True) (R.ofT x), uEq (.int .i64 vr), uKd kTR (fun _ => True) (R.tt (bv x.f0) (LnP.nrm (psB (x.f1.filter (fun p => p.f0 != vr))))), uEq (.bool true), uEq (.bool true), uEq (.bool true)]) rfl (by kernel_rfl) (fun _ _ h hb => h.below hb) (Rl.up _) C ⟨⟨⟨⟨⟨⟨⟨⟨⟨⟨⟨⟨⟨⟨⟨⟨⟨⟨⟨⟨⟨⟨⟨⟨⟨trivial, ?_⟩, ?_⟩, ?_⟩, ?_⟩, ?_⟩, ?_⟩, ?_⟩, ?_⟩, ?_⟩, ?_⟩, ?_⟩, ?_⟩, ?_⟩, ?_⟩, ?_⟩, ?_⟩, ?_⟩, ?_⟩, ?_⟩, ?_⟩, ?_⟩, ?_⟩, ?_⟩, ?_⟩, ?_⟩ ?_
 ·refine At.of _ rfl (fun e_ a w hC hd hb K hK => ?_)
  refine goes_ Tryd.func10 (by kernel_rfl) rfl #[] (by rfl) rfl rfl (by first | (simp [Act.eval]; done) | (simp [Act.eval]; rfl)) ?_;refine (law_summedT w hC.2.2.2.2.2.1).mono ?_;rintro en w' ⟨v, rfl, hv, hb'⟩;exact ⟨v, rfl, hK.out v w' hb' hv⟩
 ·refine At.of _ rfl (fun e_ a w hC hd hb K hK => ?_)
  have q16 := (hd 0 (by decide)).2 16 rfl;rw [show e_ 0 = _ from (hd 0 (by decide)).1] at q16;refine value_ (w1 := w) (v := .bool true) (by rfl) rfl ?_ (hK.out _ _ (Below.refl _ _) rfl);clear hC hd hb hK hlx hly hxy hbx hby hrs hrw hss hsw
  first | (go_simp; done) | (go_simp; rfl)
 ·refine At.of _ rfl (fun e_ a w hC hd hb K hK => ?_)
  have gg17 := (hd 1 (by decide)).2 17 rfl;rw [show e_ 1 = _ from (hd 1 (by decide)).1] at gg17;have b3 : a.tmps[3]? = some (.pointer (some ⟨w0.heap.size, 0, none⟩)) := hb 3 (by decide);have cc0 : w.cell? ⟨w0.heap.size, 0, none⟩ = some (.bool x.f0.f0) := Ctx.blk hC.2.1 0 rfl;have cc1 : w.cell? ⟨w0.heap.size, 1, none⟩ = some (.slice A x.f0.f1.length c) := Ctx.blk hC.2.1 1 rfl;have cc2 : w.cell? ⟨w0.heap.size, 2, none⟩ = some (.slice B x.f1.length d) := Ctx.blk hC.2.1 2 rfl;refine value_ (w1 := w) (v := .agg #[.bool x.f0.f0, .slice A x.f0.f1.length c, .slice B x.f1.length d]) (by simp [Region.wanted, yielded, gg17]) rfl ?_ (hK.out _ _ (Below.refl _ _) rfl);clear hC hd hb hK hlx hly hxy hbx hby hrs hrw hss hsw
  first | (go_simp; done) | (go_simp; rfl)
 ·refine At.of _ rfl (fun e_ a w hC hd hb K hK => ?_)
  have gg17 := (hd 1 (by decide)).2 17 rfl;rw [show e_ 1 = _ from (hd 1 (by decide)).1] at gg17;have b1 : a.tmps[1]? = some (.int .i64 vr) := hb 1 (by decide);refine value_ (w1 := w) (v := .int .i64 vr) (by simp [Region.wanted, yielded, gg17]) rfl ?_ (hK.out _ _ (Below.refl _ _) rfl);clear hC hd hb hK hlx hly hxy hbx hby hrs hrw hss hsw
  first | (go_simp; done) | (go_simp; rfl)
 ·refine At.of _ rfl (fun e_ a w hC hd hb K hK => ?_)
  have gg17 := (hd 1 (by decide)).2 17 rfl;rw [show e_ 1 = _ from (hd 1 (by decide)).1] at gg17;have b5 : a.tmps[5]? = some (.pointer (some ⟨w0.heap.size + 1, 0, none⟩)) := hb 5 (by decide);have cc0 : w.cell? ⟨w0.heap.size + 1, 0, none⟩ = some (.bool y.f0.f0) := Ctx.blk hC.1 0 rfl;have cc1 : w.cell? ⟨w0.heap.size + 1, 1, none⟩ = some (.slice A2 y.f0.f1.length c2) := Ctx.blk hC.1 1 rfl;have cc2 : w.cell? ⟨w0.heap.size + 1, 2, none⟩ = some (.slice B2 y.f1.length d2) := Ctx.blk hC.1 2 rfl;refine value_ (w1 := w) (v := .agg #[.bool y.f0.f0, .slice A2 y.f0.f1.length c2, .slice B2 y.f1.length d2]) (by simp [Region.wanted, yielded, gg17]) rfl ?_ (hK.out _ _ (Below.refl _ _) rfl);clear hC hd hb hK hlx hly hxy hbx hby hrs hrw hss hsw
  first | (go_simp; done) | (go_simp; rfl)
 ·refine At.of _ rfl (fun e_ a w hC hd hb K hK => ?_)
  have gg17 := (hd 1 (by decide)).2 17 rfl;rw [show e_ 1 = _ from (hd 1 (by decide)).1] at gg17;have q18 := (hd 2 (by decide)).2 18 rfl;rw [show e_ 2 = _ from (hd 2 (by decide)).1] at q18;have q19 := (hd 3 (by decide)).2 19 rfl;rw [show e_ 3 = _ from (hd 3 (by decide)).1] at q19;have q20 := (hd 4 (by decide)).2 20 rfl;rw [show e_ 4 = _ from (hd 4 (by decide)).1] at q20;refine goes_ Tryd.func12 (by kernel_rfl) rfl #[.agg #[.bool x.f0.f0, .slice A x.f0.f1.length c, .slice B x.f1.length d], .int .i64 vr, .agg #[.bool y.f0.f0, .slice A2 y.f0.f1.length c2, .slice B2 y.f1.length d2]] (by simp [Region.wanted, yielded, gg17]) rfl rfl (by first | (simp [Act.eval, q18, q19, q20]; done) | (simp [Act.eval, q18, q19, q20]; rfl)) ?_;refine (lin_Subst (fun _ => True) _ _ x y vr w (fun _ _ => trivial) hC.2.2.2.1 hC.2.2.2.2.1 hlx.out hly.out hxy.out).mono ?_;rintro en w' ⟨v, rfl, hv, hb'⟩;exact ⟨v, rfl, hK.out v w' hb' hv⟩
 ·refine At.of _ rfl (fun e_ a w hC hd hb K hK => ?_)
  have gg17 := (hd 1 (by decide)).2 17 rfl;rw [show e_ 1 = _ from (hd 1 (by decide)).1] at gg17;have b3 : a.tmps[3]? = some (.pointer (some ⟨w0.heap.size, 0, none⟩)) := hb 3 (by decide);have cc0 : w.cell? ⟨w0.heap.size, 0, none⟩ = some (.bool x.f0.f0) := Ctx.blk hC.2.1 0 rfl;have cc1 : w.cell? ⟨w0.heap.size, 1, none⟩ = some (.slice A x.f0.f1.length c) := Ctx.blk hC.2.1 1 rfl;have cc2 : w.cell? ⟨w0.heap.size, 2, none⟩ = some (.slice B x.f1.length d) := Ctx.blk hC.2.1 2 rfl;refine value_ (w1 := w) (v := .agg #[.bool x.f0.f0, .slice A x.f0.f1.length c, .slice B x.f1.length d]) (by simp [Region.wanted, yielded, gg17]) rfl ?_ (hK.out _ _ (Below.refl _ _) rfl);clear hC hd hb hK hlx hly hxy hbx hby hrs hrw hss hsw
  first | (go_simp; done) | (go_simp; rfl)
 ·refine At.of _ rfl (fun e_ a w hC hd hb K hK => ?_)
  have gg17 := (hd 1 (by decide)).2 17 rfl;rw [show e_ 1 = _ from (hd 1 (by decide)).1] at gg17;have q22 := (hd 6 (by decide)).2 22 rfl;rw [show e_ 6 = _ from (hd 6 (by decide)).1] at q22;refine goes_ Tryd.func14 (by kernel_rfl) rfl #[.agg #[.bool x.f0.f0, .slice A x.f0.f1.length c, .slice B x.f1.length d]] (by simp [Region.wanted, yielded, gg17]) rfl rfl (by first | (simp [Act.eval, q22]; done) | (simp [Act.eval, q22]; rfl)) ?_;refine (R.law_of (fun _ => True) _ x w (fun _ _ => trivial) hC.2.2.2.1 hbx.out).mono ?_;rintro en w' ⟨v, rfl, hv, hb'⟩;exact ⟨v, rfl, hK.out v w' hb' hv⟩
 ·refine At.of _ rfl (fun e_ a w hC hd hb K hK => ?_)
  have gg17 := (hd 1 (by decide)).2 17 rfl;rw [show e_ 1 = _ from (hd 1 (by decide)).1] at gg17;have b1 : a.tmps[1]? = some (.int .i64 vr) := hb 1 (by decide);refine value_ (w1 := w) (v := .int .i64 vr) (by simp [Region.wanted, yielded, gg17]) rfl ?_ (hK.out _ _ (Below.refl _ _) rfl);clear hC hd hb hK hlx hly hxy hbx hby hrs hrw hss hsw
  first | (go_simp; done) | (go_simp; rfl)
 ·refine At.of _ rfl (fun e_ a w hC hd hb K hK => ?_)
  have gg17 := (hd 1 (by decide)).2 17 rfl;rw [show e_ 1 = _ from (hd 1 (by decide)).1] at gg17;have b5 : a.tmps[5]? = some (.pointer (some ⟨w0.heap.size + 1, 0, none⟩)) := hb 5 (by decide);have cc0 : w.cell? ⟨w0.heap.size + 1, 0, none⟩ = some (.bool y.f0.f0) := Ctx.blk hC.1 0 rfl;have cc1 : w.cell? ⟨w0.heap.size + 1, 1, none⟩ = some (.slice A2 y.f0.f1.length c2) := Ctx.blk hC.1 1 rfl;have cc2 : w.cell? ⟨w0.heap.size + 1, 2, none⟩ = some (.slice B2 y.f1.length d2) := Ctx.blk hC.1 2 rfl;refine value_ (w1 := w) (v := .agg #[.bool y.f0.f0, .slice A2 y.f0.f1.length c2, .slice B2 y.f1.length d2]) (by simp [Region.wanted, yielded, gg17]) rfl ?_ (hK.out _ _ (Below.refl _ _) rfl);clear hC hd hb hK hlx hly hxy hbx hby hrs hrw hss hsw
  first | (go_simp; done) | (go_simp; rfl)
 ·refine At.of _ rfl (fun e_ a w hC hd hb K hK => ?_)
  have gg17 := (hd 1 (by decide)).2 17 rfl;rw [show e_ 1 = _ from (hd 1 (by decide)).1] at gg17;have q25 := (hd 9 (by decide)).2 25 rfl;rw [show e_ 9 = _ from (hd 9 (by decide)).1] at q25;refine goes_ Tryd.func14 (by kernel_rfl) rfl #[.agg #[.bool y.f0.f0, .slice A2 y.f0.f1.length c2, .slice B2 y.f1.length d2]] (by simp [Region.wanted, yielded, gg17]) rfl rfl (by first | (simp [Act.eval, q25]; done) | (simp [Act.eval, q25]; rfl)) ?_;refine (R.law_of (fun _ => True) _ y w (fun _ _ => trivial) hC.2.2.2.2.1 hby.out).mono ?_;rintro en w' ⟨v, rfl, hv, hb'⟩;exact ⟨v, rfl, hK.out v w' hb' hv⟩
 ·refine At.of _ rfl (fun e_ a w hC hd hb K hK => ?_)
  have gg17 := (hd 1 (by decide)).2 17 rfl;rw [show e_ 1 = _ from (hd 1 (by decide)).1] at gg17;have q23 := (hd 7 (by decide)).2 23 rfl;have q24 := (hd 8 (by decide)).2 24 rfl;rw [show e_ 8 = _ from (hd 8 (by decide)).1] at q24;have q26 := (hd 10 (by decide)).2 26 rfl;refine goes_ Tryd.func13 (by kernel_rfl) rfl #[e_ 7, .int .i64 vr, e_ 10] (by simp [Region.wanted, yielded, gg17]) rfl rfl (by first | (simp [Act.eval, q23, q24, q26]; done) | (simp [Act.eval, q23, q24, q26]; rfl)) ?_;refine (hrs.out w _ _ (hd 7 (by decide)).1 (hd 10 (by decide)).1).mono ?_;rintro en w' ⟨v, rfl, hv, hb'⟩;exact ⟨v, rfl, hK.out v w' hb' hv⟩
 ·refine At.of _ rfl (fun e_ a w hC hd hb K hK => ?_)
  have gg17 := (hd 1 (by decide)).2 17 rfl;rw [show e_ 1 = _ from (hd 1 (by decide)).1] at gg17;have q21 := (hd 5 (by decide)).2 21 rfl;have q27 := (hd 11 (by decide)).2 27 rfl;refine goes_ Tryd.func11 (by kernel_rfl) rfl #[e_ 5, e_ 11] (by simp [Region.wanted, yielded, gg17]) rfl rfl (by first | (simp [Act.eval, q21, q27]; done) | (simp [Act.eval, q21, q27]; rfl)) ?_;refine (law_sameB _ _ _ _ w (hd 5 (by decide)).1 (hd 11 (by decide)).1 hss.out).mono ?_;rintro en w' ⟨v, rfl, hv, hb'⟩;exact ⟨v, rfl, hK.out v w' hb' hv⟩
 ·refine At.of _ rfl (fun e_ a w hC hd hb K hK => ?_)
  have q17 := (hd 1 (by decide)).2 17 rfl;rw [show e_ 1 = _ from (hd 1 (by decide)).1] at q17;have q28 := (hd 12 (by decide)).2 28 rfl;rw [show e_ 12 = _ from (hd 12 (by decide)).1] at q28;refine value_ (w1 := w) (v := .bool true) (by rfl) rfl ?_ (hK.out _ _ (Below.refl _ _) rfl);clear hC hd hb hK hlx hly hxy hbx hby hrs hrw hss hsw
  first | (go_simp; done) | (go_simp; rfl)
 ·refine At.of _ rfl (fun e_ a w hC hd hb K hK => ?_)
  have q29 := (hd 13 (by decide)).2 29 rfl;rw [show e_ 13 = _ from (hd 13 (by decide)).1] at q29;refine value_ (w1 := w) (v := .bool true) (by rfl) rfl ?_ (hK.out _ _ (Below.refl _ _) rfl);clear hC hd hb hK hlx hly hxy hbx hby hrs hrw hss hsw
  first | (go_simp; done) | (go_simp; rfl)
 ·refine At.of _ rfl (fun e_ a w hC hd hb K hK => ?_)
  have gg30 := (hd 14 (by decide)).2 30 rfl;rw [show e_ 14 = _ from (hd 14 (by decide)).1] at gg30;have b3 : a.tmps[3]? = some (.pointer (some ⟨w0.heap.size, 0, none⟩)) := hb 3 (by decide);have cc0 : w.cell? ⟨w0.heap.size, 0, none⟩ = some (.bool x.f0.f0) := Ctx.blk hC.2.1 0 rfl;have cc1 : w.cell? ⟨w0.heap.size, 1, none⟩ = some (.slice A x.f0.f1.length c) := Ctx.blk hC.2.1 1 rfl;have cc2 : w.cell? ⟨w0.heap.size, 2, none⟩ = some (.slice B x.f1.length d) := Ctx.blk hC.2.1 2 rfl;refine value_ (w1 := w) (v := .agg #[.bool x.f0.f0, .slice A x.f0.f1.length c, .slice B x.f1.length d]) (by simp [Region.wanted, yielded, gg30]) rfl ?_ (hK.out _ _ (Below.refl _ _) rfl);clear hC hd hb hK hlx hly hxy hbx hby hrs hrw hss hsw
  first | (go_simp; done) | (go_simp; rfl)
 ·refine At.of _ rfl (fun e_ a w hC hd hb K hK => ?_)
  have gg30 := (hd 14 (by decide)).2 30 rfl;rw [show e_ 14 = _ from (hd 14 (by decide)).1] at gg30;have b1 : a.tmps[1]? = some (.int .i64 vr) := hb 1 (by decide);refine value_ (w1 := w) (v := .int .i64 vr) (by simp [Region.wanted, yielded, gg30]) rfl ?_ (hK.out _ _ (Below.refl _ _) rfl);clear hC hd hb hK hlx hly hxy hbx hby hrs hrw hss hsw
  first | (go_simp; done) | (go_simp; rfl)
 ·refine At.of _ rfl (fun e_ a w hC hd hb K hK => ?_)
  have gg30 := (hd 14 (by decide)).2 30 rfl;rw [show e_ 14 = _ from (hd 14 (by decide)).1] at gg30;have q31 := (hd 15 (by decide)).2 31 rfl;rw [show e_ 15 = _ from (hd 15 (by decide)).1] at q31;have q32 := (hd 16 (by decide)).2 32 rfl;rw [show e_ 16 = _ from (hd 16 (by decide)).1] at q32;refine goes_ Tryd.func15 (by kernel_rfl) rfl #[.agg #[.bool x.f0.f0, .slice A x.f0.f1.length c, .slice B x.f1.length d], .int .i64 vr] (by simp [Region.wanted, yielded, gg30]) rfl rfl (by first | (simp [Act.eval, q31, q32]; done) | (simp [Act.eval, q31, q32]; rfl)) ?_;refine (lin_Without (fun _ => True) _ x vr w (fun _ _ => trivial) hC.2.2.2.1 (lin_nin hlx.out)).mono ?_;rintro en w' ⟨v, rfl, hv, hb'⟩;exact ⟨v, rfl, hK.out v w' hb' hv⟩
 ·refine At.of _ rfl (fun e_ a w hC hd hb K hK => ?_)
  have gg30 := (hd 14 (by decide)).2 30 rfl;rw [show e_ 14 = _ from (hd 14 (by decide)).1] at gg30;have b3 : a.tmps[3]? = some (.pointer (some ⟨w0.heap.size, 0, none⟩)) := hb 3 (by decide);have cc0 : w.cell? ⟨w0.heap.size, 0, none⟩ = some (.bool x.f0.f0) := Ctx.blk hC.2.1 0 rfl;have cc1 : w.cell? ⟨w0.heap.size, 1, none⟩ = some (.slice A x.f0.f1.length c) := Ctx.blk hC.2.1 1 rfl;have cc2 : w.cell? ⟨w0.heap.size, 2, none⟩ = some (.slice B x.f1.length d) := Ctx.blk hC.2.1 2 rfl;refine value_ (w1 := w) (v := .agg #[.bool x.f0.f0, .slice A x.f0.f1.length c, .slice B x.f1.length d]) (by simp [Region.wanted, yielded, gg30]) rfl ?_ (hK.out _ _ (Below.refl _ _) rfl);clear hC hd hb hK hlx hly hxy hbx hby hrs hrw hss hsw
  first | (go_simp; done) | (go_simp; rfl)
 ·refine At.of _ rfl (fun e_ a w hC hd hb K hK => ?_)
  have gg30 := (hd 14 (by decide)).2 30 rfl;rw [show e_ 14 = _ from (hd 14 (by decide)).1] at gg30;have q34 := (hd 18 (by decide)).2 34 rfl;rw [show e_ 18 = _ from (hd 18 (by decide)).1] at q34;refine goes_ Tryd.func14 (by kernel_rfl) rfl #[.agg #[.bool x.f0.f0, .slice A x.f0.f1.length c, .slice B x.f1.length d]] (by simp [Region.wanted, yielded, gg30]) rfl rfl (by first | (simp [Act.eval, q34]; done) | (simp [Act.eval, q34]; rfl)) ?_;refine (R.law_of (fun _ => True) _ x w (fun _ _ => trivial) hC.2.2.2.1 hbx.out).mono ?_;rintro en w' ⟨v, rfl, hv, hb'⟩;exact ⟨v, rfl, hK.out v w' hb' hv⟩
 ·refine At.of _ rfl (fun e_ a w hC hd hb K hK => ?_)
  have gg30 := (hd 14 (by decide)).2 30 rfl;rw [show e_ 14 = _ from (hd 14 (by decide)).1] at gg30;have b1 : a.tmps[1]? = some (.int .i64 vr) := hb 1 (by decide);refine value_ (w1 := w) (v := .int .i64 vr) (by simp [Region.wanted, yielded, gg30]) rfl ?_ (hK.out _ _ (Below.refl _ _) rfl);clear hC hd hb hK hlx hly hxy hbx hby hrs hrw hss hsw
  first | (go_simp; done) | (go_simp; rfl)
 ·refine At.of _ rfl (fun e_ a w hC hd hb K hK => ?_)
  have gg30 := (hd 14 (by decide)).2 30 rfl;rw [show e_ 14 = _ from (hd 14 (by decide)).1] at gg30;have q35 := (hd 19 (by decide)).2 35 rfl;have q36 := (hd 20 (by decide)).2 36 rfl;rw [show e_ 20 = _ from (hd 20 (by decide)).1] at q36;refine goes_ Tryd.func16 (by kernel_rfl) rfl #[e_ 19, .int .i64 vr] (by simp [Region.wanted, yielded, gg30]) rfl rfl (by first | (simp [Act.eval, q35, q36]; done) | (simp [Act.eval, q35, q36]; rfl)) ?_;refine (hrw.out w _ (hd 19 (by decide)).1).mono ?_;rintro en w' ⟨v, rfl, hv, hb'⟩;exact ⟨v, rfl, hK.out v w' hb' hv⟩
 ·refine At.of _ rfl (fun e_ a w hC hd hb K hK => ?_)
  have gg30 := (hd 14 (by decide)).2 30 rfl;rw [show e_ 14 = _ from (hd 14 (by decide)).1] at gg30;have q33 := (hd 17 (by decide)).2 33 rfl;have q37 := (hd 21 (by decide)).2 37 rfl;refine goes_ Tryd.func11 (by kernel_rfl) rfl #[e_ 17, e_ 21] (by simp [Region.wanted, yielded, gg30]) rfl rfl (by first | (simp [Act.eval, q33, q37]; done) | (simp [Act.eval, q33, q37]; rfl)) ?_;refine (law_sameB _ _ _ _ w (hd 17 (by decide)).1 (hd 21 (by decide)).1 hsw.out).mono ?_;rintro en w' ⟨v, rfl, hv, hb'⟩;exact ⟨v, rfl, hK.out v w' hb' hv⟩
 ·refine At.of _ rfl (fun e_ a w hC hd hb K hK => ?_)
  have q30 := (hd 14 (by decide)).2 30 rfl;rw [show e_ 14 = _ from (hd 14 (by decide)).1] at q30;have q38 := (hd 22 (by decide)).2 38 rfl;rw [show e_ 22 = _ from (hd 22 (by decide)).1] at q38;refine value_ (w1 := w) (v := .bool true) (by rfl) rfl ?_ (hK.out _ _ (Below.refl _ _) rfl);clear hC hd hb hK hlx hly hxy hbx hby hrs hrw hss hsw
  first | (go_simp; done) | (go_simp; rfl)
 ·refine At.of _ rfl (fun e_ a w hC hd hb K hK => ?_)
  have q39 := (hd 23 (by decide)).2 39 rfl;rw [show e_ 23 = _ from (hd 23 (by decide)).1] at q39;refine value_ (w1 := w) (v := .bool true) (by rfl) rfl ?_ (hK.out _ _ (Below.refl _ _) rfl);clear hC hd hb hK hlx hly hxy hbx hby hrs hrw hss hsw
  first | (go_simp; done) | (go_simp; rfl)
 ·intro e_ w10 hC hr
  have r24 : e_ 24 = .bool true := hr.2;simp only [fill, Act.put, r24, if_true, List.setIfInBounds_toArray, List.set_cons_zero, List.set_cons_succ];have hb10 := hC.2.2.1;clear hr r24 hC
  go_wp2_with fail
  go_ret;exact ⟨rfl, hb10⟩
theorem law_substs (u v : Value) (x y : TB) (vr : Int) (w0 : World) (h : Kv kTB (fun _ => True) w0 u x) (h' : Kv kTB (fun _ => True) w0 v y) (hT : TabOk w0) (dx : Lim x) (dy : Lim y) :
  Calls Tryd.prog 3 #[u, .int .i64 vr, v] w0 fun e w' => e = .returned (.bool true) ∧ Below w0.heap.size w0 w' := by
 by_cases hx : Lite x
 ·by_cases hy : Lite y
  ·exact law_substs_l u v x y vr w0 h h' hT hx hy dx dy
  ·exact law_substs_y u v x y vr w0 h h' hT hx hy
 ·exact law_substs_x u v x y vr w0 h h' hT hx
end Go.Proofs.YthpgjgmaamcaoaaDoor.P
end
section
namespace Go.Proofs.YthpgjgmaamcaoaaDoor.P.R
open Go.RowKit Go.Shelf Go.Proofs.YthpgjgmaamcaoaaDoor.P Go.Proofs.YthpgjgmaamcaoaaDoorW.PrintWords Go.Proofs.YthpgjgmaamcaoaaDoorW.PrintLast Go.Proofs.YthpgjgmaamcaoaaDoorW.PrintMore Go.Proofs.YthpgjgmaamcaoaaDoor.Nm
set_option maxRecDepth 100000
set_option linter.unusedVariables false
set_option linter.unusedSimpArgs false
theorem r11_Sub.tab1 : tabOf (opsOf Tryd.f23 1) = ([some 5, some 6, some 7, some 8, some 9, none], [[], [], [], [1, 2, 2], [0, 3, 3], [4, 4, 0, 1, 2, 3, 4]]) := by kernel_rfl
set_option maxHeartbeats 3200000 in
theorem r11_Sub (ok : Nat → Prop) (v u : Value) (x y : TR) (L : Nat) (w0 : World) (hok : ∀ k, w0.heap.size ≤ k → ok k) (h : Kv kTR (fun _ => True) w0 v x) (h' : Kv kTR (fun _ => True) w0 u y) (hx : DIn L x) (hy : DIn L y) (hxy : x.f1.length + y.f1.length ≤ 39) (hL : L ≤ 40000) :
  Calls Tryd.prog 23 #[v, u] w0 (KPost kTR ok w0 (tt (nv x.f0 - nv y.f0) (LnP.nrm (psR x.f1 ++ (psR y.f1).map (fun p : Int × Int => (p.1, -p.2)))))) := by
 obtain ⟨A, c, B, d, rfl, -, -⟩ := h.openTR;obtain ⟨A2, c2, B2, d2, rfl, -, -⟩ := h'.openTR;have C := Ctx.new (cs := [.bool false, .slice none 0 0, .slice none 0 0]) (t := 37) (Ctx.new (cs := [.bool y.f0.f0, .slice A2 y.f0.f1.length c2, .slice B2 y.f1.length d2]) (t := 37) (Ctx.new (cs := [.bool x.f0.f0, .slice A x.f0.f1.length c, .slice B x.f1.length d]) (t := 37) (Ctx.cons (uB w0) (Below.refl _ _) (Ctx.cons (uK kTR (fun _ => True) (.agg #[.bool x.f0.f0, .slice A x.f0.f1.length c, .slice B x.f1.length d]) x) h (Ctx.cons (uK kTR (fun _ => True) (.agg #[.bool y.f0.f0, .slice A2 y.f0.f1.length c2, .slice B2 y.f1.length d2]) y) h' Ctx.nil)))));simp only [World.size_alloc] at C;have hkc : ((cn (-1))).f1.length ≤ 2 := cn_len (by decide)
 have hsc : DIn (2 * L + 4) (tt (nv y.f0 * nv (cn (-1))) (LnP.nrm ((psR y.f1).map (fun p => (p.1, p.2 * nv (cn (-1))))))) := tt_in (L := L + 2) (by rw [List.length_map, psR_len]; exact hy.few) (fun p hp => by
  obtain ⟨q, hq, rfl⟩ := List.mem_map.1 hp;unfold psR at hq;obtain ⟨z, hz, rfl⟩ := List.mem_map.1 hq;have h1 := mul_lenR (hy.p z hz) (y := (cn (-1))) ⟨cn_dg _, hkc⟩;have h2 := nv_abs (cn_dg (nv z.f1 * nv (cn (-1)))) h1;rw [nv_cn] at h2
  exact Int.le_of_lt h2) (Nat.le_trans (mul_lenR hy.c ⟨cn_dg _, hkc⟩) (by omega)) (by omega)
 have hxx : DIn (2 * L + 4) x := ⟨hx.few, ⟨hx.c.1, by have := hx.c.2; omega⟩, fun p hp => ⟨(hx.p p hp).1, by have := (hx.p p hp).2; omega⟩⟩
 have hln : x.f1.length + ((tt (nv y.f0 * nv (cn (-1))) (LnP.nrm ((psR y.f1).map (fun p => (p.1, p.2 * nv (cn (-1)))))))).f1.length ≤ 39 := by
  show x.f1.length + (List.map cp _).length ≤ 39
  rw [List.length_map];have h2 := LnP.nrm_len ((psR y.f1).map (fun p => (p.1, p.2 * nv (cn (-1)))));rw [List.length_map, psR_len] at h2
  omega
 obtain ⟨rr, hrr⟩ : ∃ rr, rr = (tt (nv x.f0 - nv y.f0) (LnP.nrm (psR x.f1 ++ (psR y.f1).map (fun p : Int × Int => (p.1, -p.2))))) := ⟨_, rfl⟩
 rw [← hrr]
 have hE : tt (nv x.f0 + nv ((tt (nv y.f0 * nv (cn (-1))) (LnP.nrm ((psR y.f1).map (fun p => (p.1, p.2 * nv (cn (-1)))))))).f0) (LnP.nrm (psR x.f1 ++ psR ((tt (nv y.f0 * nv (cn (-1))) (LnP.nrm ((psR y.f1).map (fun p => (p.1, p.2 * nv (cn (-1)))))))).f1)) = rr := by
  rw [hrr]
  show tt (nv x.f0 + nv (cn _)) (LnP.nrm (psR x.f1 ++ psR (List.map cp _))) = _
  rw [nv_cn, nv_cn, psR_cp]
  congr 1
  ·omega
  ·refine LnP.nrm_congr (fun v => ?_)
   rw [LnP.cf_append, LnP.cf_append, LnP.cf_nrm];simp only [Int.mul_neg_one]
 have hAdd := Sdq.mk (fun (w : World) (hC : Ctx [uBlk (w0.heap.size + 2) [.bool false, .slice none 0 0, .slice none 0 0] 37, uBlk (w0.heap.size + 1) [.bool y.f0.f0, .slice A2 y.f0.f1.length c2, .slice B2 y.f1.length d2] 37, uBlk w0.heap.size [.bool x.f0.f0, .slice A x.f0.f1.length c, .slice B x.f1.length d] 37, uB w0, uK kTR (fun _ => True) (.agg #[.bool x.f0.f0, .slice A x.f0.f1.length c, .slice B x.f1.length d]) x, uK kTR (fun _ => True) (.agg #[.bool y.f0.f0, .slice A2 y.f0.f1.length c2, .slice B2 y.f1.length d2]) y] w) (q : Value) (hq : Kv kTR (fun _ => True) w q (tt (nv y.f0 * nv (cn (-1))) (LnP.nrm ((psR y.f1).map (fun p => (p.1, p.2 * nv (cn (-1)))))))) => by
  have h1 := r11_Add (fun k => ok k ∧ k ≠ w0.heap.size + 2) _ q x (tt (nv y.f0 * nv (cn (-1))) (LnP.nrm ((psR y.f1).map (fun p => (p.1, p.2 * nv (cn (-1))))))) (2 * L + 4) w (fun k hk => by have := blk_lt (show w.heap[w0.heap.size + 2]? = _ from hC.1); exact ⟨hok k (by omega), by omega⟩) hC.2.2.2.2.1 hq hxx hsc hln (by omega);rw [hE] at h1
  exact h1)
 have hx := Sdq.mk hx;have hy := Sdq.mk hy;clear h h' hrr hsc hln hkc hE hok hxx;go_enter Tryd.func23, Tryd.ntmps23
 go_upto_region 1 with fail
 refine absW _ C ?_;clear C;intro w1 C;refine flowS (m := 5) (n := 6) r11_Sub.tab1 rfl (Ctx _) (Rl [uEq (.agg #[.bool x.f0.f0, .slice A x.f0.f1.length c, .slice B x.f1.length d]), uEq (.agg #[.bool y.f0.f0, .slice A2 y.f0.f1.length c2, .slice B2 y.f1.length d2]), uKd k34 (fun _ => True) (cn (-1)), uKd kTR (fun _ => True) (tt (nv y.f0 * nv (cn (-1))) (LnP.nrm ((psR y.f1).map (fun p => (p.1, p.2 * nv (cn (-1))))))), uKd kTR (fun k => ok k ∧ k ≠ w0.heap.size + 2) rr]) rfl (by kernel_rfl) (by kernel_rfl) (fun _ _ h hb => h.below hb) (Rl.up _) C ⟨⟨⟨⟨⟨trivial, ?_⟩, ?_⟩, ?_⟩, ?_⟩, ?_⟩ ?_
 ·refine At.of _ rfl (fun e_ a w hC hd hb K hK => ?_)
  have b2 : a.tmps[2]? = some (.pointer (some ⟨w0.heap.size, 0, none⟩)) := hb 2 (by decide);have cc0 : w.cell? ⟨w0.heap.size, 0, none⟩ = some (.bool x.f0.f0) := Ctx.blk hC.2.2.1 0 rfl;have cc1 : w.cell? ⟨w0.heap.size, 1, none⟩ = some (.slice A x.f0.f1.length c) := Ctx.blk hC.2.2.1 1 rfl;have cc2 : w.cell? ⟨w0.heap.size, 2, none⟩ = some (.slice B x.f1.length d) := Ctx.blk hC.2.2.1 2 rfl;refine value_ (w1 := w) (v := .agg #[.bool x.f0.f0, .slice A x.f0.f1.length c, .slice B x.f1.length d]) (by rfl) rfl ?_ (hK.out _ _ (Below.refl _ _) rfl);clear hC hd hb hK hAdd
  first | (go_simp; done) | (go_simp; rfl)
 ·refine At.of _ rfl (fun e_ a w hC hd hb K hK => ?_)
  have b3 : a.tmps[3]? = some (.pointer (some ⟨w0.heap.size + 1, 0, none⟩)) := hb 3 (by decide);have cc0 : w.cell? ⟨w0.heap.size + 1, 0, none⟩ = some (.bool y.f0.f0) := Ctx.blk hC.2.1 0 rfl;have cc1 : w.cell? ⟨w0.heap.size + 1, 1, none⟩ = some (.slice A2 y.f0.f1.length c2) := Ctx.blk hC.2.1 1 rfl;have cc2 : w.cell? ⟨w0.heap.size + 1, 2, none⟩ = some (.slice B2 y.f1.length d2) := Ctx.blk hC.2.1 2 rfl;refine value_ (w1 := w) (v := .agg #[.bool y.f0.f0, .slice A2 y.f0.f1.length c2, .slice B2 y.f1.length d2]) (by rfl) rfl ?_ (hK.out _ _ (Below.refl _ _) rfl);clear hC hd hb hK hAdd
  first | (go_simp; done) | (go_simp; rfl)
 ·refine At.of _ rfl (fun e_ a w hC hd hb K hK => ?_)
  refine goes_ Tryd.func53 (by kernel_rfl) rfl #[.int .i64 (-1)] (by rfl) rfl rfl (by first | (simp [Act.eval]; done) | (simp [Act.eval]; rfl)) ?_;refine (r2_Of (fun _ => True) (-1) w (fun _ _ => trivial) (by decide)).mono ?_;rintro en w' ⟨v, rfl, hv, hb'⟩;exact ⟨v, rfl, hK.out v w' hb' hv⟩
 ·refine At.of _ rfl (fun e_ a w hC hd hb K hK => ?_)
  have q6 := (hd 1 (by decide)).2 6 rfl;rw [show e_ 1 = _ from (hd 1 (by decide)).1] at q6;have q7 := (hd 2 (by decide)).2 7 rfl;refine goes_ Tryd.func25 (by kernel_rfl) rfl #[.agg #[.bool y.f0.f0, .slice A2 y.f0.f1.length c2, .slice B2 y.f1.length d2], e_ 2] (by rfl) rfl rfl (by first | (simp [Act.eval, q6, q7]; done) | (simp [Act.eval, q6, q7]; rfl)) ?_;refine (r11_Scale (fun _ => True) _ _ y (cn (-1)) L 2 w (fun _ _ => trivial) hC.2.2.2.2.2.1 (hd 2 (by decide)).1 hy.out ⟨cn_dg _, cn_len (by decide)⟩ (by omega)).mono ?_;rintro en w' ⟨v, rfl, hv, hb'⟩;exact ⟨v, rfl, hK.out v w' hb' hv⟩
 ·refine At.of _ rfl (fun e_ a w hC hd hb K hK => ?_)
  have q5 := (hd 0 (by decide)).2 5 rfl;rw [show e_ 0 = _ from (hd 0 (by decide)).1] at q5;have q8 := (hd 3 (by decide)).2 8 rfl;refine goes_ Tryd.func22 (by kernel_rfl) rfl #[.agg #[.bool x.f0.f0, .slice A x.f0.f1.length c, .slice B x.f1.length d], e_ 3] (by rfl) rfl rfl (by first | (simp [Act.eval, q5, q8]; done) | (simp [Act.eval, q5, q8]; rfl)) ?_;refine (hAdd.out w hC _ (hd 3 (by decide)).1).mono ?_;rintro en w' ⟨v, rfl, hv, hb'⟩;exact ⟨v, rfl, hK.out v w' hb' hv⟩
 ·intro e_ w2 hC hr a ha
  obtain ⟨yA, yc, yB, yd, he4, -, -⟩ := Kv.openTR hr.2;have hv2 : Kv kTR (fun k => ok k ∧ k ≠ w0.heap.size + 2) w2 (e_ 4) rr := hr.2;rw [he4] at hv2;simp only [fill, Act.put, he4, Nat.reduceAdd, Nat.reduceLT, decide_true, decide_false, if_true, Bool.false_eq_true, if_false, List.setIfInBounds_toArray, List.set_cons_zero, List.set_cons_succ] at ha;subst ha;clear hr he4 hAdd;have E := Sdq.mk (end3 (O := (fun k => ok k ∧ k ≠ w0.heap.size + 2)) (ok := ok) hC.1 hC.2.2.2.1 (by omega) (fun k hk => hk) hv2 _ rfl);have r0 := Ctx.blk hC.1 0 rfl;have r1 := Ctx.blk hC.1 1 rfl;have r2 := Ctx.blk hC.1 2 rfl;have f0 := Ctx.frz hC.1 0;have f1 := Ctx.frz hC.1 1;have f2 := Ctx.frz hC.1 2;clear hC hv2 C;simp only [List.drop_succ_cons, List.drop_zero]
  go_wp2_with fail
  have E := E.out;clear r0 r1 r2 f0 f1 f2;generalize World.setCell _ _ _ = wf at E ⊢;obtain ⟨EP, e0, e1, e2⟩ := E;exact bodyPost_ret (by first | (simp [results, Tryd.results23, go_sem, e0, e1, e2]; done) | (simp [results, Tryd.results23, go_sem, e0, e1, e2]; rfl)) rfl EP
end Go.Proofs.YthpgjgmaamcaoaaDoor.P.R
end
section
namespace Go.Proofs.YthpgjgmaamcaoaaDoor.P.R
open Go.RowKit Go.Shelf Go.Proofs.YthpgjgmaamcaoaaDoor.P Go.Proofs.YthpgjgmaamcaoaaDoorW.PrintWords Go.Proofs.YthpgjgmaamcaoaaDoorW.PrintLast Go.Proofs.YthpgjgmaamcaoaaDoorW.PrintMore Go.Proofs.YthpgjgmaamcaoaaDoor.Nm
set_option maxRecDepth 100000
set_option linter.unusedVariables false
set_option linter.unusedSimpArgs false
theorem r11_Same.tab6 : tabOf (opsOf Tryd.f28 6) = ([some 28, some 29, some 30, some 31, some 32, some 33, some 34, some 35, some 36, some 37, some 38, some 39, some 40, some 41, some 42, some 43, some 44, some 45, some 46, some 47, some 48, some 49, some 50, some 51, some 52, some 53, some 54, some 55, some 56], [[], [0], [], [1, 2], [3], [4], [], [6], [], [7, 8], [9], [10], [5, 11], [12], [13], [14, 13], [13], [15, 16, 13], [17, 13], [18, 13], [13], [20, 13], [13], [21, 22, 13], [23, 13], [24, 13], [19, 25, 13, 13], [26, 13], [13, 27]]) := by kernel_rfl
theorem r2_CmpT {u v : Value} {x y : S34} {w0 : World} (h : Kv k34 (fun _ => True) w0 u x) (h' : Kv k34 (fun _ => True) w0 v y) (hx : Dec x) (hy : Dec y) {s : Int} (hs : sgn (nv x - nv y) = s) :
  Calls Tryd.prog 56 #[u, v] w0 fun e w' => ∃ v, e = .returned v ∧ v = .int .i64 s ∧ Below w0.heap.size w0 w' := (hs ▸ r2_Cmp u v x y w0 h h' hx hy).mono (fun e w' he => ⟨_, he.1, rfl, he.2⟩)
theorem skipG_ {o : Oper} {t : Nat → Option Bool} {X Y : Prop} (h : Region.wanted o t = false) (hk : Y) : if Region.wanted o t = true then X else Y := by
 rw [if_neg (by rw [h]; decide)];exact hk
set_option maxHeartbeats 6400000 in
theorem r11_Same_k1 (u v : Value) (x y : TR) (L : Nat) (w0 : World) (h : Kv kTR (fun _ => True) w0 u x) (h' : Kv kTR (fun _ => True) w0 v y) (hx : DIn L x) (hy : DIn L y) (hL : L ≤ 200000) (hcm : sgn (nv x.f0 - nv y.f0) = -1) :
  Calls Tryd.prog 28 #[u, v] w0 fun e w' => e = .returned (.bool false) ∧ Below w0.heap.size w0 w' := by
 obtain ⟨A, c, B, d, rfl, hk1, hp1⟩ := h.openTR;obtain ⟨A2, c2, B2, d2, rfl, hk2, hp2⟩ := h'.openTR
 have dx : Dec x.f0 := ⟨hx.c.1, by have := hx.c.2; omega⟩
 have dy : Dec y.f0 := ⟨hy.c.1, by have := hy.c.2; omega⟩
 obtain ⟨n, en⟩ : ∃ n, n = x.f1.length := ⟨_, rfl⟩
 obtain ⟨m, em⟩ : ∃ m, m = y.f1.length := ⟨_, rfl⟩
 rw [← en] at hp1 ⊢;rw [← em] at hp2 ⊢;have C := Ctx.new (cs := [.bool y.f0.f0, .slice A2 y.f0.f1.length c2, .slice B2 m d2]) (t := 37) (Ctx.new (cs := [.bool x.f0.f0, .slice A x.f0.f1.length c, .slice B n d]) (t := 37) (Ctx.cons (uB w0) (Below.refl _ _) (Ctx.cons (uK k34 (fun _ => True) (.agg #[.bool x.f0.f0, .slice A x.f0.f1.length c]) x.f0) hk1 (Ctx.cons (uK k34 (fun _ => True) (.agg #[.bool y.f0.f0, .slice A2 y.f0.f1.length c2]) y.f0) hk2 (Ctx.cons (uCv k66 (fun _ => True) x.f1 (.slice B n d)) hp1 (Ctx.cons (uCv k66 (fun _ => True) y.f1 (.slice B2 m d2)) hp2 Ctx.nil))))));simp only [World.size_alloc] at C;clear en em;clear h h' hk1 hp1 hk2 hp2;go_enter Tryd.func28, Tryd.ntmps28
 go_upto_region 1 with fail
 refine absW _ C ?_;clear C;intro w1 C;have y0 := Ctx.blk C.2.1 0 rfl;have y1 := Ctx.blk C.2.1 1 rfl;have z0 := Ctx.blk C.1 0 rfl;have z1 := Ctx.blk C.1 1 rfl;have hs0 := r2_Cmp _ _ _ _ w1 C.2.2.2.1 C.2.2.2.2.1 dx dy;rw [hcm] at hs0;have C := Sdq.mk C;go_wp2_with (first | (go_at_call 56; refine hs0.mono ?_; rintro e3 w3 ⟨rfl, hb3⟩; have C3 := C.out.below hb3; have y2 := Ctx.blk C3.2.1 2 rfl; have z2 := Ctx.blk C3.1 2 rfl) | fail);go_ret;exact ⟨rfl, C3.2.2.1⟩
set_option maxHeartbeats 6400000 in
theorem r11_Same_k2 (u v : Value) (x y : TR) (L : Nat) (w0 : World) (h : Kv kTR (fun _ => True) w0 u x) (h' : Kv kTR (fun _ => True) w0 v y) (hx : DIn L x) (hy : DIn L y) (hL : L ≤ 200000) (hcm : sgn (nv x.f0 - nv y.f0) = 1) :
  Calls Tryd.prog 28 #[u, v] w0 fun e w' => e = .returned (.bool false) ∧ Below w0.heap.size w0 w' := by
 obtain ⟨A, c, B, d, rfl, hk1, hp1⟩ := h.openTR;obtain ⟨A2, c2, B2, d2, rfl, hk2, hp2⟩ := h'.openTR
 have dx : Dec x.f0 := ⟨hx.c.1, by have := hx.c.2; omega⟩
 have dy : Dec y.f0 := ⟨hy.c.1, by have := hy.c.2; omega⟩
 obtain ⟨n, en⟩ : ∃ n, n = x.f1.length := ⟨_, rfl⟩
 obtain ⟨m, em⟩ : ∃ m, m = y.f1.length := ⟨_, rfl⟩
 rw [← en] at hp1 ⊢;rw [← em] at hp2 ⊢;have C := Ctx.new (cs := [.bool y.f0.f0, .slice A2 y.f0.f1.length c2, .slice B2 m d2]) (t := 37) (Ctx.new (cs := [.bool x.f0.f0, .slice A x.f0.f1.length c, .slice B n d]) (t := 37) (Ctx.cons (uB w0) (Below.refl _ _) (Ctx.cons (uK k34 (fun _ => True) (.agg #[.bool x.f0.f0, .slice A x.f0.f1.length c]) x.f0) hk1 (Ctx.cons (uK k34 (fun _ => True) (.agg #[.bool y.f0.f0, .slice A2 y.f0.f1.length c2]) y.f0) hk2 (Ctx.cons (uCv k66 (fun _ => True) x.f1 (.slice B n d)) hp1 (Ctx.cons (uCv k66 (fun _ => True) y.f1 (.slice B2 m d2)) hp2 Ctx.nil))))));simp only [World.size_alloc] at C;clear en em;clear h h' hk1 hp1 hk2 hp2;go_enter Tryd.func28, Tryd.ntmps28
 go_upto_region 1 with fail
 refine absW _ C ?_;clear C;intro w1 C;have y0 := Ctx.blk C.2.1 0 rfl;have y1 := Ctx.blk C.2.1 1 rfl;have z0 := Ctx.blk C.1 0 rfl;have z1 := Ctx.blk C.1 1 rfl;have hs0 := r2_Cmp _ _ _ _ w1 C.2.2.2.1 C.2.2.2.2.1 dx dy;rw [hcm] at hs0;have C := Sdq.mk C;go_wp2_with (first | (go_at_call 56; refine hs0.mono ?_; rintro e3 w3 ⟨rfl, hb3⟩; have C3 := C.out.below hb3; have y2 := Ctx.blk C3.2.1 2 rfl; have z2 := Ctx.blk C3.1 2 rfl) | fail);go_ret;exact ⟨rfl, C3.2.2.1⟩
set_option maxHeartbeats 6400000 in
theorem r11_Same_l (u v : Value) (x y : TR) (L : Nat) (w0 : World) (h : Kv kTR (fun _ => True) w0 u x) (h' : Kv kTR (fun _ => True) w0 v y) (hx : DIn L x) (hy : DIn L y) (hL : L ≤ 200000) (hcm : sgn (nv x.f0 - nv y.f0) = 0) (hl : x.f1.length ≠ y.f1.length) :
  Calls Tryd.prog 28 #[u, v] w0 fun e w' => e = .returned (.bool false) ∧ Below w0.heap.size w0 w' := by
 obtain ⟨A, c, B, d, rfl, hk1, hp1⟩ := h.openTR;obtain ⟨A2, c2, B2, d2, rfl, hk2, hp2⟩ := h'.openTR
 have dx : Dec x.f0 := ⟨hx.c.1, by have := hx.c.2; omega⟩
 have dy : Dec y.f0 := ⟨hy.c.1, by have := hy.c.2; omega⟩
 obtain ⟨n, en⟩ : ∃ n, n = x.f1.length := ⟨_, rfl⟩
 obtain ⟨m, em⟩ : ∃ m, m = y.f1.length := ⟨_, rfl⟩
 rw [← en] at hp1 ⊢;rw [← em] at hp2 ⊢;have C := Ctx.new (cs := [.bool y.f0.f0, .slice A2 y.f0.f1.length c2, .slice B2 m d2]) (t := 37) (Ctx.new (cs := [.bool x.f0.f0, .slice A x.f0.f1.length c, .slice B n d]) (t := 37) (Ctx.cons (uB w0) (Below.refl _ _) (Ctx.cons (uK k34 (fun _ => True) (.agg #[.bool x.f0.f0, .slice A x.f0.f1.length c]) x.f0) hk1 (Ctx.cons (uK k34 (fun _ => True) (.agg #[.bool y.f0.f0, .slice A2 y.f0.f1.length c2]) y.f0) hk2 (Ctx.cons (uCv k66 (fun _ => True) x.f1 (.slice B n d)) hp1 (Ctx.cons (uCv k66 (fun _ => True) y.f1 (.slice B2 m d2)) hp2 Ctx.nil))))));simp only [World.size_alloc] at C
 have hl : n ≠ m := by omega
 clear en em;clear h h' hk1 hp1 hk2 hp2;go_enter Tryd.func28, Tryd.ntmps28
 go_upto_region 1 with fail
 refine absW _ C ?_;clear C;intro w1 C;have y0 := Ctx.blk C.2.1 0 rfl;have y1 := Ctx.blk C.2.1 1 rfl;have z0 := Ctx.blk C.1 0 rfl;have z1 := Ctx.blk C.1 1 rfl;have hs0 := r2_Cmp _ _ _ _ w1 C.2.2.2.1 C.2.2.2.2.1 dx dy;rw [hcm] at hs0;have C := Sdq.mk C
 have hl2 : ((n : Int) = (m : Int)) = False := by simp; omega
 go_wp2_with (first | (go_at_call 56; refine hs0.mono ?_; rintro e3 w3 ⟨rfl, hb3⟩; have C3 := C.out.below hb3; have y2 := Ctx.blk C3.2.1 2 rfl; have z2 := Ctx.blk C3.1 2 rfl) | fail);go_ret;exact ⟨rfl, C3.2.2.1⟩
set_option maxHeartbeats 6400000 in
theorem r11_Same_e (u v : Value) (x y : TR) (L : Nat) (w0 : World) (h : Kv kTR (fun _ => True) w0 u x) (h' : Kv kTR (fun _ => True) w0 v y) (hx : DIn L x) (hy : DIn L y) (hL : L ≤ 200000) (hcm : sgn (nv x.f0 - nv y.f0) = 0) (hl : x.f1.length = y.f1.length) :
  Calls Tryd.prog 28 #[u, v] w0 fun e w' => e = .returned (.bool (decide (psR x.f1 = psR y.f1))) ∧ Below w0.heap.size w0 w' := by
 obtain ⟨A, c, B, d, rfl, hk1, hp1⟩ := h.openTR;obtain ⟨A2, c2, B2, d2, rfl, hk2, hp2⟩ := h'.openTR
 have dx : Dec x.f0 := ⟨hx.c.1, by have := hx.c.2; omega⟩
 have dy : Dec y.f0 := ⟨hy.c.1, by have := hy.c.2; omega⟩
 obtain ⟨n, en⟩ : ∃ n, n = x.f1.length := ⟨_, rfl⟩
 obtain ⟨m, em⟩ : ∃ m, m = y.f1.length := ⟨_, rfl⟩
 rw [← en] at hp1 ⊢;rw [← em] at hp2 ⊢;have C := Ctx.new (cs := [.bool y.f0.f0, .slice A2 y.f0.f1.length c2, .slice B2 m d2]) (t := 37) (Ctx.new (cs := [.bool x.f0.f0, .slice A x.f0.f1.length c, .slice B n d]) (t := 37) (Ctx.cons (uB w0) (Below.refl _ _) (Ctx.cons (uK k34 (fun _ => True) (.agg #[.bool x.f0.f0, .slice A x.f0.f1.length c]) x.f0) hk1 (Ctx.cons (uK k34 (fun _ => True) (.agg #[.bool y.f0.f0, .slice A2 y.f0.f1.length c2]) y.f0) hk2 (Ctx.cons (uCv k66 (fun _ => True) x.f1 (.slice B n d)) hp1 (Ctx.cons (uCv k66 (fun _ => True) y.f1 (.slice B2 m d2)) hp2 Ctx.nil))))));simp only [World.size_alloc] at C
 obtain rfl : m = n := by omega
 obtain ⟨n, rfl⟩ : ∃ n, n = m := ⟨_, rfl⟩
 have hn := Sdq.mk (And.intro en em);have hdx := Sdq.mk (And.intro hx hy)
 obtain ⟨s, es⟩ : ∃ s, s = decide (psR x.f1 = psR y.f1) := ⟨_, rfl⟩
 rw [← es];have hs := Sdq.mk es
 have hn39 : n ≤ 39 := by rw [en]; exact hx.few
 clear en em es hl;clear h h' hk1 hp1 hk2 hp2;go_enter Tryd.func28, Tryd.ntmps28
 go_upto_region 1 with fail
 refine absW _ C ?_;clear C;intro w1 C;have y0 := Ctx.blk C.2.1 0 rfl;have y1 := Ctx.blk C.2.1 1 rfl;have z0 := Ctx.blk C.1 0 rfl;have z1 := Ctx.blk C.1 1 rfl;have hs0 := r2_Cmp _ _ _ _ w1 C.2.2.2.1 C.2.2.2.2.1 dx dy;rw [hcm] at hs0;have C := Sdq.mk C
 go_upto_region 3 with (go_at_call 56; refine hs0.mono ?_; rintro e3 w3 ⟨rfl, hb3⟩; have C3 := C.out.below hb3; have y2 := Ctx.blk C3.2.1 2 rfl; have z2 := Ctx.blk C3.1 2 rfl)
 clear C y0 y1 z0 z1 hs0 hb3 y2 z2 hcm dx dy;have C := Sdq.mk C3;clear C3
 go_wp2_with fail
 go_loopg [5] n (fun gk s5 wr => ∃ i : Nat, gk + i = n ∧ s5 = .int .i64 (i : Int) ∧ Sdq (Below w3.heap.size w3 wr) ∧ Sdq ((psR x.f1).take i = (psR y.f1).take i))
 case atStart => exact ⟨0, by omega, rfl, ⟨Below.refl _ _⟩, ⟨rfl⟩⟩
 case round =>
  obtain ⟨i, hgi, rfl, hb, hE⟩ := hrel;have C2 := Sdq.mk (C.out.below hb.out);have y2 := Ctx.blk C2.out.2.1 2 rfl
  cases gk with
  | zero =>
   obtain rfl : i = n := by omega
   obtain rfl : s = true := by
    rw [hs.out];refine decide_eq_true ?_;have h0 := hE.out
    rwa [List.take_of_length_le (by rw [psR_len, ← hn.out.1]; exact Nat.le_refl _), List.take_of_length_le (by rw [psR_len, ← hn.out.2]; exact Nat.le_refl _)] at h0
   go_wp2_with fail
   go_ret;exact ⟨rfl, C2.out.2.2.1⟩
  | succ j =>
   have hin : i < x.f1.length := by have := hn.out.1; omega
   have him : i < y.f1.length := by have := hn.out.2; omega
   obtain ⟨B', d', e1, -, hF⟩ := C2.out.2.2.2.2.2.1
   injection e1 with e2 e9 e3
   subst e2;subst e3;clear e9;obtain ⟨B', d', e1, -, hG⟩ := C2.out.2.2.2.2.2.2.1
   injection e1 with e2 e9 e3
   subst e2;subst e3;clear e9;obtain ⟨ad, e, rfl, x0, x1, x2, hfk⟩ := row_el hF (i := i) hin;obtain ⟨bd, g, rfl, u0, u1, u2, hgk⟩ := row_el hG (i := i) him
   obtain ⟨p, ep⟩ : ∃ p, p = x.f1[i] := ⟨_, rfl⟩
   obtain ⟨q, eq⟩ : ∃ q, q = y.f1[i] := ⟨_, rfl⟩
   rw [← ep] at hfk;rw [← eq] at hgk
   have hpd : Dec p.f1 := by rw [ep]; have := hdx.out.1.p _ (List.getElem_mem hin); exact ⟨this.1, Nat.le_trans this.2 hL⟩
   have hqd : Dec q.f1 := by rw [eq]; have := hdx.out.2.p _ (List.getElem_mem him); exact ⟨this.1, Nat.le_trans this.2 hL⟩
   have h1 : (psR x.f1)[i]? = some (p.f0, nv p.f1) := by unfold psR; rw [List.getElem?_map, List.getElem?_eq_getElem hin, ep]; rfl
   have h2 : (psR y.f1)[i]? = some (q.f0, nv q.f1) := by unfold psR; rw [List.getElem?_map, List.getElem?_eq_getElem him, eq]; rfl
   have hne : ¬ (p.f0 = q.f0 ∧ nv p.f1 = nv q.f1) → s = false := fun hn2 => by
    rw [hs.out];refine decide_eq_false (fun hE2 => hn2 ?_);rw [hE2, h2] at h1
    simpa [eq_comm] using h1
   have hye : p.f0 = q.f0 → nv p.f1 = nv q.f1 → (psR x.f1).take (i + 1) = (psR y.f1).take (i + 1) := fun ha hb => by
    rw [List.take_add_one, List.take_add_one, h1, h2, ha, hb, hE.out]
   have ev : e.v = p.f0 := (fk_el hfk).1;have gv : g.v = q.f0 := (fk_el hgk).1
   have hin2 : i < n := by have := hn.out.1; omega
   have HP := Sdq.mk hgi
   have C6 : Ctx [uBlk w0.heap.size [.bool x.f0.f0, .slice A x.f0.f1.length c, .slice (some ad) n d] 37, uBlk (w0.heap.size + 1) [.bool y.f0.f0, .slice A2 y.f0.f1.length c2, .slice (some bd) n d2] 37, uEl ad i e, uEl bd i g, uK k34 (fun _ => True) (.agg #[.bool e.b, .slice e.A e.n e.c]) p.f1, uK k34 (fun _ => True) (.agg #[.bool g.b, .slice g.A g.n g.c]) q.f1, uB w3] wr := ⟨C2.out.2.1, C2.out.1, ⟨x0, x1, x2⟩, ⟨u0, u1, u2⟩, el_kv hfk, el_kv hgk, hb.out, trivial⟩
   have hC6 := Sdq.mk C6;have hS0 := Sdq.mk (fun (W : World) (hC : Ctx [uBlk w0.heap.size [.bool x.f0.f0, .slice A x.f0.f1.length c, .slice (some ad) n d] 37, uBlk (w0.heap.size + 1) [.bool y.f0.f0, .slice A2 y.f0.f1.length c2, .slice (some bd) n d2] 37, uEl ad i e, uEl bd i g, uK k34 (fun _ => True) (.agg #[.bool e.b, .slice e.A e.n e.c]) p.f1, uK k34 (fun _ => True) (.agg #[.bool g.b, .slice g.A g.n g.c]) q.f1, uB w3] W) (s : Int) (hs : sgn (nv p.f1 - nv q.f1) = s) => r2_CmpT (w0 := W) hC.2.2.2.2.1 hC.2.2.2.2.2.1 hpd hqd hs);have hneA := Sdq.mk hne;have hyeA := Sdq.mk hye;clear hF hG hfk hgk hpd hqd ep eq h1 h2 hne hye x0 x1 x2 u0 u1 u2 hgi hin him C6;by_cases hv : p.f0 = q.f0
   ·by_cases hc : nv p.f1 = nv q.f1
    ·have hSS : sgn (nv p.f1 - nv q.f1) = 0 := by unfold sgn; rw [if_neg (by omega), if_pos (by omega)]
     have hE2 := Sdq.mk (hyeA.out hv hc);have hS := Sdq.mk (fun (w : World) (hC : Ctx [uBlk w0.heap.size [.bool x.f0.f0, .slice A x.f0.f1.length c, .slice (some ad) n d] 37, uBlk (w0.heap.size + 1) [.bool y.f0.f0, .slice A2 y.f0.f1.length c2, .slice (some bd) n d2] 37, uEl ad i e, uEl bd i g, uK k34 (fun _ => True) (.agg #[.bool e.b, .slice e.A e.n e.c]) p.f1, uK k34 (fun _ => True) (.agg #[.bool g.b, .slice g.A g.n g.c]) q.f1, uB w3] w) => hS0.out w hC (0) hSS);have hv := Sdq.mk (show (e.v = g.v) = True by rw [ev, gv]; simp [hv]);clear hS0 hSS hneA ev gv hc hyeA
     go_upto_region 6 with fail
     clear y2;refine absW _ hC6.out ?_;clear hC6 C2;intro w6 C;refine flowT (n := 29) r11_Same.tab6 rfl (Ctx _) (Rl [uEq (.pointer (some ⟨w0.heap.size, 2, none⟩)), uEq (.slice (some ad) n d), uEq (.int .i64 (i : Int)), uEq (.pointer (some (Addr.add ad (i * 3)))), uEq (.pointer (some (Addr.add ad (i * 3)))), uEq (.int .i64 e.v), uEq (.pointer (some ⟨w0.heap.size + 1, 2, none⟩)), uEq (.slice (some bd) n d2), uEq (.int .i64 (i : Int)), uEq (.pointer (some (Addr.add bd (i * 3)))), uEq (.pointer (some (Addr.add bd (i * 3)))), uEq (.int .i64 g.v), uEq (.bool false), uEq (.bool false), uEq (.pointer (some ⟨w0.heap.size, 2, none⟩)), uEq (.slice (some ad) n d), uEq (.int .i64 (i : Int)), uEq (.pointer (some (Addr.add ad (i * 3)))), uEq (.pointer (some ⟨(Addr.add ad (i * 3)).block, (Addr.add ad (i * 3)).off + 1, none⟩)), uEq (.agg #[.bool e.b, .slice e.A e.n e.c]), uEq (.pointer (some ⟨w0.heap.size + 1, 2, none⟩)), uEq (.slice (some bd) n d2), uEq (.int .i64 (i : Int)), uEq (.pointer (some (Addr.add bd (i * 3)))), uEq (.pointer (some ⟨(Addr.add bd (i * 3)).block, (Addr.add bd (i * 3)).off + 1, none⟩)), uEq (.agg #[.bool g.b, .slice g.A g.n g.c]), uEq (.int .i64 0), uEq (.bool false), uEq (.bool false)]) rfl (by kernel_rfl) (fun _ _ h hb => h.below hb) (Rl.up _) C ⟨⟨⟨⟨⟨⟨⟨⟨⟨⟨⟨⟨⟨⟨⟨⟨⟨⟨⟨⟨⟨⟨⟨⟨⟨⟨⟨⟨⟨trivial, ?_⟩, ?_⟩, ?_⟩, ?_⟩, ?_⟩, ?_⟩, ?_⟩, ?_⟩, ?_⟩, ?_⟩, ?_⟩, ?_⟩, ?_⟩, ?_⟩, ?_⟩, ?_⟩, ?_⟩, ?_⟩, ?_⟩, ?_⟩, ?_⟩, ?_⟩, ?_⟩, ?_⟩, ?_⟩, ?_⟩, ?_⟩, ?_⟩, ?_⟩ ?_
     ·refine At.of _ rfl (fun e_ a w hC hd hb K hK => ?_)
      have b2 : a.tmps[2]? = some (.pointer (some ⟨w0.heap.size, 0, none⟩)) := hb 2 (by decide);refine value_ (w1 := w) (v := .pointer (some ⟨w0.heap.size, 2, none⟩)) (by rfl) rfl ?_ (hK.out _ _ (Below.refl _ _) rfl);clear hC hd hb hK hS
      first | (go_simp; done) | (go_simp; rfl)
     ·refine At.of _ rfl (fun e_ a w hC hd hb K hK => ?_)
      have q28 := (hd 0 (by decide)).2 28 rfl;rw [show e_ 0 = _ from (hd 0 (by decide)).1] at q28;have cc2 : w.cell? ⟨w0.heap.size, 2, none⟩ = some (.slice (some ad) n d) := Ctx.blk hC.1 2 rfl;refine value_ (w1 := w) (v := .slice (some ad) n d) (by rfl) rfl ?_ (hK.out _ _ (Below.refl _ _) rfl);clear hC hd hb hK hS
      first | (go_simp; done) | (go_simp; rfl)
     ·refine At.of _ rfl (fun e_ a w hC hd hb K hK => ?_)
      have b5 : a.tmps[5]? = some (.int .i64 (i : Int)) := hb 5 (by decide);refine value_ (w1 := w) (v := .int .i64 (i : Int)) (by rfl) rfl ?_ (hK.out _ _ (Below.refl _ _) rfl);clear hC hd hb hK hS
      first | (go_simp; done) | (go_simp; rfl)
     ·refine At.of _ rfl (fun e_ a w hC hd hb K hK => ?_)
      have q29 := (hd 1 (by decide)).2 29 rfl;rw [show e_ 1 = _ from (hd 1 (by decide)).1] at q29;have q30 := (hd 2 (by decide)).2 30 rfl;rw [show e_ 2 = _ from (hd 2 (by decide)).1] at q30;refine value_ (w1 := w) (v := .pointer (some (Addr.add ad (i * 3)))) (by rfl) rfl ?_ (hK.out _ _ (Below.refl _ _) rfl);clear hC hd hb hK hS
      first | (go_simp; done) | (go_simp; rfl)
     ·refine At.of _ rfl (fun e_ a w hC hd hb K hK => ?_)
      have q31 := (hd 3 (by decide)).2 31 rfl;rw [show e_ 3 = _ from (hd 3 (by decide)).1] at q31;refine value_ (w1 := w) (v := .pointer (some (Addr.add ad (i * 3)))) (by rfl) rfl ?_ (hK.out _ _ (Below.refl _ _) rfl);clear hC hd hb hK hS
      first | (go_simp; done) | (go_simp; rfl)
     ·refine At.of _ rfl (fun e_ a w hC hd hb K hK => ?_)
      have q32 := (hd 4 (by decide)).2 32 rfl;rw [show e_ 4 = _ from (hd 4 (by decide)).1] at q32;obtain ⟨x0, x1, x2⟩ := hC.2.2.1;refine value_ (w1 := w) (v := .int .i64 e.v) (by rfl) rfl ?_ (hK.out _ _ (Below.refl _ _) rfl);clear hC hd hb hK hS
      first | (go_simp; done) | (go_simp; rfl)
     ·refine At.of _ rfl (fun e_ a w hC hd hb K hK => ?_)
      have b3 : a.tmps[3]? = some (.pointer (some ⟨w0.heap.size + 1, 0, none⟩)) := hb 3 (by decide);refine value_ (w1 := w) (v := .pointer (some ⟨w0.heap.size + 1, 2, none⟩)) (by rfl) rfl ?_ (hK.out _ _ (Below.refl _ _) rfl);clear hC hd hb hK hS
      first | (go_simp; done) | (go_simp; rfl)
     ·refine At.of _ rfl (fun e_ a w hC hd hb K hK => ?_)
      have q34 := (hd 6 (by decide)).2 34 rfl;rw [show e_ 6 = _ from (hd 6 (by decide)).1] at q34;have cc2 : w.cell? ⟨w0.heap.size + 1, 2, none⟩ = some (.slice (some bd) n d2) := Ctx.blk hC.2.1 2 rfl;refine value_ (w1 := w) (v := .slice (some bd) n d2) (by rfl) rfl ?_ (hK.out _ _ (Below.refl _ _) rfl);clear hC hd hb hK hS
      first | (go_simp; done) | (go_simp; rfl)
     ·refine At.of _ rfl (fun e_ a w hC hd hb K hK => ?_)
      have b5 : a.tmps[5]? = some (.int .i64 (i : Int)) := hb 5 (by decide);refine value_ (w1 := w) (v := .int .i64 (i : Int)) (by rfl) rfl ?_ (hK.out _ _ (Below.refl _ _) rfl);clear hC hd hb hK hS
      first | (go_simp; done) | (go_simp; rfl)
     ·refine At.of _ rfl (fun e_ a w hC hd hb K hK => ?_)
      have q35 := (hd 7 (by decide)).2 35 rfl;rw [show e_ 7 = _ from (hd 7 (by decide)).1] at q35;have q36 := (hd 8 (by decide)).2 36 rfl;rw [show e_ 8 = _ from (hd 8 (by decide)).1] at q36;refine value_ (w1 := w) (v := .pointer (some (Addr.add bd (i * 3)))) (by rfl) rfl ?_ (hK.out _ _ (Below.refl _ _) rfl);clear hC hd hb hK hS
      first | (go_simp; done) | (go_simp; rfl)
     ·refine At.of _ rfl (fun e_ a w hC hd hb K hK => ?_)
      have q37 := (hd 9 (by decide)).2 37 rfl;rw [show e_ 9 = _ from (hd 9 (by decide)).1] at q37;refine value_ (w1 := w) (v := .pointer (some (Addr.add bd (i * 3)))) (by rfl) rfl ?_ (hK.out _ _ (Below.refl _ _) rfl);clear hC hd hb hK hS
      first | (go_simp; done) | (go_simp; rfl)
     ·refine At.of _ rfl (fun e_ a w hC hd hb K hK => ?_)
      have q38 := (hd 10 (by decide)).2 38 rfl;rw [show e_ 10 = _ from (hd 10 (by decide)).1] at q38;obtain ⟨x0, x1, x2⟩ := hC.2.2.2.1;refine value_ (w1 := w) (v := .int .i64 g.v) (by rfl) rfl ?_ (hK.out _ _ (Below.refl _ _) rfl);clear hC hd hb hK hS
      first | (go_simp; done) | (go_simp; rfl)
     ·refine At.of _ rfl (fun e_ a w hC hd hb K hK => ?_)
      have q33 := (hd 5 (by decide)).2 33 rfl;rw [show e_ 5 = _ from (hd 5 (by decide)).1] at q33;have q39 := (hd 11 (by decide)).2 39 rfl;rw [show e_ 11 = _ from (hd 11 (by decide)).1] at q39;have hv0 := hv.out;refine value_ (w1 := w) (v := .bool false) (by rfl) rfl ?_ (hK.out _ _ (Below.refl _ _) rfl);clear hC hd hb hK hS
      first | (go_simp; done) | (go_simp; rfl)
     ·refine At.of _ rfl (fun e_ a w hC hd hb K hK => ?_)
      have q40 := (hd 12 (by decide)).2 40 rfl;rw [show e_ 12 = _ from (hd 12 (by decide)).1] at q40;refine value_ (w1 := w) (v := .bool false) (by rfl) rfl ?_ (hK.out _ _ (Below.refl _ _) rfl);clear hC hd hb hK hS
      first | (go_simp; done) | (go_simp; rfl)
     ·refine At.of _ rfl (fun e_ a w hC hd hb K hK => ?_)
      have gg41 := (hd 13 (by decide)).2 41 rfl;rw [show e_ 13 = _ from (hd 13 (by decide)).1] at gg41;have b2 : a.tmps[2]? = some (.pointer (some ⟨w0.heap.size, 0, none⟩)) := hb 2 (by decide);refine value_ (w1 := w) (v := .pointer (some ⟨w0.heap.size, 2, none⟩)) (by simp [Region.wanted, yielded, gg41]) rfl ?_ (hK.out _ _ (Below.refl _ _) rfl);clear hC hd hb hK hS
      first | (go_simp; done) | (go_simp; rfl)
     ·refine At.of _ rfl (fun e_ a w hC hd hb K hK => ?_)
      have gg41 := (hd 13 (by decide)).2 41 rfl;rw [show e_ 13 = _ from (hd 13 (by decide)).1] at gg41;have q42 := (hd 14 (by decide)).2 42 rfl;rw [show e_ 14 = _ from (hd 14 (by decide)).1] at q42;have cc2 : w.cell? ⟨w0.heap.size, 2, none⟩ = some (.slice (some ad) n d) := Ctx.blk hC.1 2 rfl;refine value_ (w1 := w) (v := .slice (some ad) n d) (by simp [Region.wanted, yielded, gg41]) rfl ?_ (hK.out _ _ (Below.refl _ _) rfl);clear hC hd hb hK hS
      first | (go_simp; done) | (go_simp; rfl)
     ·refine At.of _ rfl (fun e_ a w hC hd hb K hK => ?_)
      have gg41 := (hd 13 (by decide)).2 41 rfl;rw [show e_ 13 = _ from (hd 13 (by decide)).1] at gg41;have b5 : a.tmps[5]? = some (.int .i64 (i : Int)) := hb 5 (by decide);refine value_ (w1 := w) (v := .int .i64 (i : Int)) (by simp [Region.wanted, yielded, gg41]) rfl ?_ (hK.out _ _ (Below.refl _ _) rfl);clear hC hd hb hK hS
      first | (go_simp; done) | (go_simp; rfl)
     ·refine At.of _ rfl (fun e_ a w hC hd hb K hK => ?_)
      have gg41 := (hd 13 (by decide)).2 41 rfl;rw [show e_ 13 = _ from (hd 13 (by decide)).1] at gg41;have q43 := (hd 15 (by decide)).2 43 rfl;rw [show e_ 15 = _ from (hd 15 (by decide)).1] at q43;have q44 := (hd 16 (by decide)).2 44 rfl;rw [show e_ 16 = _ from (hd 16 (by decide)).1] at q44;refine value_ (w1 := w) (v := .pointer (some (Addr.add ad (i * 3)))) (by simp [Region.wanted, yielded, gg41]) rfl ?_ (hK.out _ _ (Below.refl _ _) rfl);clear hC hd hb hK hS
      first | (go_simp; done) | (go_simp; rfl)
     ·refine At.of _ rfl (fun e_ a w hC hd hb K hK => ?_)
      have gg41 := (hd 13 (by decide)).2 41 rfl;rw [show e_ 13 = _ from (hd 13 (by decide)).1] at gg41;have q45 := (hd 17 (by decide)).2 45 rfl;rw [show e_ 17 = _ from (hd 17 (by decide)).1] at q45;refine value_ (w1 := w) (v := .pointer (some ⟨(Addr.add ad (i * 3)).block, (Addr.add ad (i * 3)).off + 1, none⟩)) (by simp [Region.wanted, yielded, gg41]) rfl ?_ (hK.out _ _ (Below.refl _ _) rfl);clear hC hd hb hK hS
      first | (go_simp; done) | (go_simp; rfl)
     ·refine At.of _ rfl (fun e_ a w hC hd hb K hK => ?_)
      have gg41 := (hd 13 (by decide)).2 41 rfl;rw [show e_ 13 = _ from (hd 13 (by decide)).1] at gg41;have q46 := (hd 18 (by decide)).2 46 rfl;rw [show e_ 18 = _ from (hd 18 (by decide)).1] at q46;obtain ⟨x0, x1, x2⟩ := hC.2.2.1;refine value_ (w1 := w) (v := .agg #[.bool e.b, .slice e.A e.n e.c]) (by simp [Region.wanted, yielded, gg41]) rfl ?_ (hK.out _ _ (Below.refl _ _) rfl);clear hC hd hb hK hS
      first | (go_simp; done) | (go_simp; rfl)
     ·refine At.of _ rfl (fun e_ a w hC hd hb K hK => ?_)
      have gg41 := (hd 13 (by decide)).2 41 rfl;rw [show e_ 13 = _ from (hd 13 (by decide)).1] at gg41;have b3 : a.tmps[3]? = some (.pointer (some ⟨w0.heap.size + 1, 0, none⟩)) := hb 3 (by decide);refine value_ (w1 := w) (v := .pointer (some ⟨w0.heap.size + 1, 2, none⟩)) (by simp [Region.wanted, yielded, gg41]) rfl ?_ (hK.out _ _ (Below.refl _ _) rfl);clear hC hd hb hK hS
      first | (go_simp; done) | (go_simp; rfl)
     ·refine At.of _ rfl (fun e_ a w hC hd hb K hK => ?_)
      have gg41 := (hd 13 (by decide)).2 41 rfl;rw [show e_ 13 = _ from (hd 13 (by decide)).1] at gg41;have q48 := (hd 20 (by decide)).2 48 rfl;rw [show e_ 20 = _ from (hd 20 (by decide)).1] at q48;have cc2 : w.cell? ⟨w0.heap.size + 1, 2, none⟩ = some (.slice (some bd) n d2) := Ctx.blk hC.2.1 2 rfl;refine value_ (w1 := w) (v := .slice (some bd) n d2) (by simp [Region.wanted, yielded, gg41]) rfl ?_ (hK.out _ _ (Below.refl _ _) rfl);clear hC hd hb hK hS
      first | (go_simp; done) | (go_simp; rfl)
     ·refine At.of _ rfl (fun e_ a w hC hd hb K hK => ?_)
      have gg41 := (hd 13 (by decide)).2 41 rfl;rw [show e_ 13 = _ from (hd 13 (by decide)).1] at gg41;have b5 : a.tmps[5]? = some (.int .i64 (i : Int)) := hb 5 (by decide);refine value_ (w1 := w) (v := .int .i64 (i : Int)) (by simp [Region.wanted, yielded, gg41]) rfl ?_ (hK.out _ _ (Below.refl _ _) rfl);clear hC hd hb hK hS
      first | (go_simp; done) | (go_simp; rfl)
     ·refine At.of _ rfl (fun e_ a w hC hd hb K hK => ?_)
      have gg41 := (hd 13 (by decide)).2 41 rfl;rw [show e_ 13 = _ from (hd 13 (by decide)).1] at gg41;have q49 := (hd 21 (by decide)).2 49 rfl;rw [show e_ 21 = _ from (hd 21 (by decide)).1] at q49;have q50 := (hd 22 (by decide)).2 50 rfl;rw [show e_ 22 = _ from (hd 22 (by decide)).1] at q50;refine value_ (w1 := w) (v := .pointer (some (Addr.add bd (i * 3)))) (by simp [Region.wanted, yielded, gg41]) rfl ?_ (hK.out _ _ (Below.refl _ _) rfl);clear hC hd hb hK hS
      first | (go_simp; done) | (go_simp; rfl)
     ·refine At.of _ rfl (fun e_ a w hC hd hb K hK => ?_)
      have gg41 := (hd 13 (by decide)).2 41 rfl;rw [show e_ 13 = _ from (hd 13 (by decide)).1] at gg41;have q51 := (hd 23 (by decide)).2 51 rfl;rw [show e_ 23 = _ from (hd 23 (by decide)).1] at q51;refine value_ (w1 := w) (v := .pointer (some ⟨(Addr.add bd (i * 3)).block, (Addr.add bd (i * 3)).off + 1, none⟩)) (by simp [Region.wanted, yielded, gg41]) rfl ?_ (hK.out _ _ (Below.refl _ _) rfl);clear hC hd hb hK hS
      first | (go_simp; done) | (go_simp; rfl)
     ·refine At.of _ rfl (fun e_ a w hC hd hb K hK => ?_)
      have gg41 := (hd 13 (by decide)).2 41 rfl;rw [show e_ 13 = _ from (hd 13 (by decide)).1] at gg41;have q52 := (hd 24 (by decide)).2 52 rfl;rw [show e_ 24 = _ from (hd 24 (by decide)).1] at q52;obtain ⟨x0, x1, x2⟩ := hC.2.2.2.1;refine value_ (w1 := w) (v := .agg #[.bool g.b, .slice g.A g.n g.c]) (by simp [Region.wanted, yielded, gg41]) rfl ?_ (hK.out _ _ (Below.refl _ _) rfl);clear hC hd hb hK hS
      first | (go_simp; done) | (go_simp; rfl)
     ·refine At.of _ rfl (fun e_ a w hC hd hb K hK => ?_)
      have gg41 := (hd 13 (by decide)).2 41 rfl;rw [show e_ 13 = _ from (hd 13 (by decide)).1] at gg41;have q47 := (hd 19 (by decide)).2 47 rfl;rw [show e_ 19 = _ from (hd 19 (by decide)).1] at q47;have q53 := (hd 25 (by decide)).2 53 rfl;rw [show e_ 25 = _ from (hd 25 (by decide)).1] at q53;refine goes_ Tryd.func56 (by kernel_rfl) rfl #[.agg #[.bool e.b, .slice e.A e.n e.c], .agg #[.bool g.b, .slice g.A g.n g.c]] (by simp [Region.wanted, yielded, gg41]) rfl rfl (by first | (simp [Act.eval, q47, q53]; done) | (simp [Act.eval, q47, q53]; rfl)) ?_;refine (hS.out w hC).mono ?_;rintro en w' ⟨v, rfl, hv, hb'⟩;exact ⟨v, rfl, hK.out v w' hb' hv⟩
     ·refine At.of _ rfl (fun e_ a w hC hd hb K hK => ?_)
      have gg41 := (hd 13 (by decide)).2 41 rfl;rw [show e_ 13 = _ from (hd 13 (by decide)).1] at gg41;have q54 := (hd 26 (by decide)).2 54 rfl;rw [show e_ 26 = _ from (hd 26 (by decide)).1] at q54;refine value_ (w1 := w) (v := .bool false) (by simp [Region.wanted, yielded, gg41]) rfl ?_ (hK.out _ _ (Below.refl _ _) rfl);clear hC hd hb hK hS
      first | (go_simp; done) | (go_simp; rfl)
     ·refine At.of _ rfl (fun e_ a w hC hd hb K hK => ?_)
      have q41 := (hd 13 (by decide)).2 41 rfl;rw [show e_ 13 = _ from (hd 13 (by decide)).1] at q41;have q55 := (hd 27 (by decide)).2 55 rfl;rw [show e_ 27 = _ from (hd 27 (by decide)).1] at q55;refine value_ (w1 := w) (v := .bool false) (by rfl) rfl ?_ (hK.out _ _ (Below.refl _ _) rfl);clear hC hd hb hK hS
      first | (go_simp; done) | (go_simp; rfl)
     ·intro e_ w10 C hr
      have r28 : e_ 28 = .bool false := hr.2;simp only [fill, Act.put, r28, if_true, List.setIfInBounds_toArray, List.set_cons_zero, List.set_cons_succ];have hb10 := Sdq.mk (show Below w3.heap.size w3 w10 from C.2.2.2.2.2.2.1);clear hr r28 C hS
      go_wp2_with fail
      go_roundg j
      case measure => go_light; omega
      case rel => go_light; exact ⟨i + 1, by have := HP.out; omega, by go_num, hb10, hE2⟩
    ·obtain rfl := hneA.out (fun h => hc h.2)
     by_cases hlt : nv p.f1 < nv q.f1
     ·have hSS : sgn (nv p.f1 - nv q.f1) = -1 := by unfold sgn; rw [if_pos (by omega)]
      have CB := Sdq.mk (show Below w0.heap.size w0 w3 from C.out.2.2.1);have hS := Sdq.mk (fun (w : World) (hC : Ctx [uBlk w0.heap.size [.bool x.f0.f0, .slice A x.f0.f1.length c, .slice (some ad) n d] 37, uBlk (w0.heap.size + 1) [.bool y.f0.f0, .slice A2 y.f0.f1.length c2, .slice (some bd) n d2] 37, uEl ad i e, uEl bd i g, uK k34 (fun _ => True) (.agg #[.bool e.b, .slice e.A e.n e.c]) p.f1, uK k34 (fun _ => True) (.agg #[.bool g.b, .slice g.A g.n g.c]) q.f1, uB w3] w) => hS0.out w hC ((-1)) hSS);have hv := Sdq.mk (show (e.v = g.v) = True by rw [ev, gv]; simp [hv]);clear hS0 hSS hneA ev gv hc hlt hyeA
      go_upto_region 6 with fail
      clear y2;refine absW _ hC6.out ?_;clear hC6 C2;intro w6 C;refine flowT (n := 29) r11_Same.tab6 rfl (Ctx _) (Rl [uEq (.pointer (some ⟨w0.heap.size, 2, none⟩)), uEq (.slice (some ad) n d), uEq (.int .i64 (i : Int)), uEq (.pointer (some (Addr.add ad (i * 3)))), uEq (.pointer (some (Addr.add ad (i * 3)))), uEq (.int .i64 e.v), uEq (.pointer (some ⟨w0.heap.size + 1, 2, none⟩)), uEq (.slice (some bd) n d2), uEq (.int .i64 (i : Int)), uEq (.pointer (some (Addr.add bd (i * 3)))), uEq (.pointer (some (Addr.add bd (i * 3)))), uEq (.int .i64 g.v), uEq (.bool false), uEq (.bool false), uEq (.pointer (some ⟨w0.heap.size, 2, none⟩)), uEq (.slice (some ad) n d), uEq (.int .i64 (i : Int)), uEq (.pointer (some (Addr.add ad (i * 3)))), uEq (.pointer (some ⟨(Addr.add ad (i * 3)).block, (Addr.add ad (i * 3)).off + 1, none⟩)), uEq (.agg #[.bool e.b, .slice e.A e.n e.c]), uEq (.pointer (some ⟨w0.heap.size + 1, 2, none⟩)), uEq (.slice (some bd) n d2), uEq (.int .i64 (i : Int)), uEq (.pointer (some (Addr.add bd (i * 3)))), uEq (.pointer (some ⟨(Addr.add bd (i * 3)).block, (Addr.add bd (i * 3)).off + 1, none⟩)), uEq (.agg #[.bool g.b, .slice g.A g.n g.c]), uEq (.int .i64 (-1)), uEq (.bool true), uEq (.bool true)]) rfl (by kernel_rfl) (fun _ _ h hb => h.below hb) (Rl.up _) C ⟨⟨⟨⟨⟨⟨⟨⟨⟨⟨⟨⟨⟨⟨⟨⟨⟨⟨⟨⟨⟨⟨⟨⟨⟨⟨⟨⟨⟨trivial, ?_⟩, ?_⟩, ?_⟩, ?_⟩, ?_⟩, ?_⟩, ?_⟩, ?_⟩, ?_⟩, ?_⟩, ?_⟩, ?_⟩, ?_⟩, ?_⟩, ?_⟩, ?_⟩, ?_⟩, ?_⟩, ?_⟩, ?_⟩, ?_⟩, ?_⟩, ?_⟩, ?_⟩, ?_⟩, ?_⟩, ?_⟩, ?_⟩, ?_⟩ ?_
      ·refine At.of _ rfl (fun e_ a w hC hd hb K hK => ?_)
       have b2 : a.tmps[2]? = some (.pointer (some ⟨w0.heap.size, 0, none⟩)) := hb 2 (by decide);refine value_ (w1 := w) (v := .pointer (some ⟨w0.heap.size, 2, none⟩)) (by rfl) rfl ?_ (hK.out _ _ (Below.refl _ _) rfl);clear hC hd hb hK hS
       first | (go_simp; done) | (go_simp; rfl)
      ·refine At.of _ rfl (fun e_ a w hC hd hb K hK => ?_)
       have q28 := (hd 0 (by decide)).2 28 rfl;rw [show e_ 0 = _ from (hd 0 (by decide)).1] at q28;have cc2 : w.cell? ⟨w0.heap.size, 2, none⟩ = some (.slice (some ad) n d) := Ctx.blk hC.1 2 rfl;refine value_ (w1 := w) (v := .slice (some ad) n d) (by rfl) rfl ?_ (hK.out _ _ (Below.refl _ _) rfl);clear hC hd hb hK hS
       first | (go_simp; done) | (go_simp; rfl)
      ·refine At.of _ rfl (fun e_ a w hC hd hb K hK => ?_)
       have b5 : a.tmps[5]? = some (.int .i64 (i : Int)) := hb 5 (by decide);refine value_ (w1 := w) (v := .int .i64 (i : Int)) (by rfl) rfl ?_ (hK.out _ _ (Below.refl _ _) rfl);clear hC hd hb hK hS
       first | (go_simp; done) | (go_simp; rfl)
      ·refine At.of _ rfl (fun e_ a w hC hd hb K hK => ?_)
       have q29 := (hd 1 (by decide)).2 29 rfl;rw [show e_ 1 = _ from (hd 1 (by decide)).1] at q29;have q30 := (hd 2 (by decide)).2 30 rfl;rw [show e_ 2 = _ from (hd 2 (by decide)).1] at q30;refine value_ (w1 := w) (v := .pointer (some (Addr.add ad (i * 3)))) (by rfl) rfl ?_ (hK.out _ _ (Below.refl _ _) rfl);clear hC hd hb hK hS
       first | (go_simp; done) | (go_simp; rfl)
      ·refine At.of _ rfl (fun e_ a w hC hd hb K hK => ?_)
       have q31 := (hd 3 (by decide)).2 31 rfl;rw [show e_ 3 = _ from (hd 3 (by decide)).1] at q31;refine value_ (w1 := w) (v := .pointer (some (Addr.add ad (i * 3)))) (by rfl) rfl ?_ (hK.out _ _ (Below.refl _ _) rfl);clear hC hd hb hK hS
       first | (go_simp; done) | (go_simp; rfl)
      ·refine At.of _ rfl (fun e_ a w hC hd hb K hK => ?_)
       have q32 := (hd 4 (by decide)).2 32 rfl;rw [show e_ 4 = _ from (hd 4 (by decide)).1] at q32;obtain ⟨x0, x1, x2⟩ := hC.2.2.1;refine value_ (w1 := w) (v := .int .i64 e.v) (by rfl) rfl ?_ (hK.out _ _ (Below.refl _ _) rfl);clear hC hd hb hK hS
       first | (go_simp; done) | (go_simp; rfl)
      ·refine At.of _ rfl (fun e_ a w hC hd hb K hK => ?_)
       have b3 : a.tmps[3]? = some (.pointer (some ⟨w0.heap.size + 1, 0, none⟩)) := hb 3 (by decide);refine value_ (w1 := w) (v := .pointer (some ⟨w0.heap.size + 1, 2, none⟩)) (by rfl) rfl ?_ (hK.out _ _ (Below.refl _ _) rfl);clear hC hd hb hK hS
       first | (go_simp; done) | (go_simp; rfl)
      ·refine At.of _ rfl (fun e_ a w hC hd hb K hK => ?_)
       have q34 := (hd 6 (by decide)).2 34 rfl;rw [show e_ 6 = _ from (hd 6 (by decide)).1] at q34;have cc2 : w.cell? ⟨w0.heap.size + 1, 2, none⟩ = some (.slice (some bd) n d2) := Ctx.blk hC.2.1 2 rfl;refine value_ (w1 := w) (v := .slice (some bd) n d2) (by rfl) rfl ?_ (hK.out _ _ (Below.refl _ _) rfl);clear hC hd hb hK hS
       first | (go_simp; done) | (go_simp; rfl)
      ·refine At.of _ rfl (fun e_ a w hC hd hb K hK => ?_)
       have b5 : a.tmps[5]? = some (.int .i64 (i : Int)) := hb 5 (by decide);refine value_ (w1 := w) (v := .int .i64 (i : Int)) (by rfl) rfl ?_ (hK.out _ _ (Below.refl _ _) rfl);clear hC hd hb hK hS
       first | (go_simp; done) | (go_simp; rfl)
      ·refine At.of _ rfl (fun e_ a w hC hd hb K hK => ?_)
       have q35 := (hd 7 (by decide)).2 35 rfl;rw [show e_ 7 = _ from (hd 7 (by decide)).1] at q35;have q36 := (hd 8 (by decide)).2 36 rfl;rw [show e_ 8 = _ from (hd 8 (by decide)).1] at q36;refine value_ (w1 := w) (v := .pointer (some (Addr.add bd (i * 3)))) (by rfl) rfl ?_ (hK.out _ _ (Below.refl _ _) rfl);clear hC hd hb hK hS
       first | (go_simp; done) | (go_simp; rfl)
      ·refine At.of _ rfl (fun e_ a w hC hd hb K hK => ?_)
       have q37 := (hd 9 (by decide)).2 37 rfl;rw [show e_ 9 = _ from (hd 9 (by decide)).1] at q37;refine value_ (w1 := w) (v := .pointer (some (Addr.add bd (i * 3)))) (by rfl) rfl ?_ (hK.out _ _ (Below.refl _ _) rfl);clear hC hd hb hK hS
       first | (go_simp; done) | (go_simp; rfl)
      ·refine At.of _ rfl (fun e_ a w hC hd hb K hK => ?_)
       have q38 := (hd 10 (by decide)).2 38 rfl;rw [show e_ 10 = _ from (hd 10 (by decide)).1] at q38;obtain ⟨x0, x1, x2⟩ := hC.2.2.2.1;refine value_ (w1 := w) (v := .int .i64 g.v) (by rfl) rfl ?_ (hK.out _ _ (Below.refl _ _) rfl);clear hC hd hb hK hS
       first | (go_simp; done) | (go_simp; rfl)
      ·refine At.of _ rfl (fun e_ a w hC hd hb K hK => ?_)
       have q33 := (hd 5 (by decide)).2 33 rfl;rw [show e_ 5 = _ from (hd 5 (by decide)).1] at q33;have q39 := (hd 11 (by decide)).2 39 rfl;rw [show e_ 11 = _ from (hd 11 (by decide)).1] at q39;have hv0 := hv.out;refine value_ (w1 := w) (v := .bool false) (by rfl) rfl ?_ (hK.out _ _ (Below.refl _ _) rfl);clear hC hd hb hK hS
       first | (go_simp; done) | (go_simp; rfl)
      ·refine At.of _ rfl (fun e_ a w hC hd hb K hK => ?_)
       have q40 := (hd 12 (by decide)).2 40 rfl;rw [show e_ 12 = _ from (hd 12 (by decide)).1] at q40;refine value_ (w1 := w) (v := .bool false) (by rfl) rfl ?_ (hK.out _ _ (Below.refl _ _) rfl);clear hC hd hb hK hS
       first | (go_simp; done) | (go_simp; rfl)
      ·refine At.of _ rfl (fun e_ a w hC hd hb K hK => ?_)
       have gg41 := (hd 13 (by decide)).2 41 rfl;rw [show e_ 13 = _ from (hd 13 (by decide)).1] at gg41;have b2 : a.tmps[2]? = some (.pointer (some ⟨w0.heap.size, 0, none⟩)) := hb 2 (by decide);refine value_ (w1 := w) (v := .pointer (some ⟨w0.heap.size, 2, none⟩)) (by simp [Region.wanted, yielded, gg41]) rfl ?_ (hK.out _ _ (Below.refl _ _) rfl);clear hC hd hb hK hS
       first | (go_simp; done) | (go_simp; rfl)
      ·refine At.of _ rfl (fun e_ a w hC hd hb K hK => ?_)
       have gg41 := (hd 13 (by decide)).2 41 rfl;rw [show e_ 13 = _ from (hd 13 (by decide)).1] at gg41;have q42 := (hd 14 (by decide)).2 42 rfl;rw [show e_ 14 = _ from (hd 14 (by decide)).1] at q42;have cc2 : w.cell? ⟨w0.heap.size, 2, none⟩ = some (.slice (some ad) n d) := Ctx.blk hC.1 2 rfl;refine value_ (w1 := w) (v := .slice (some ad) n d) (by simp [Region.wanted, yielded, gg41]) rfl ?_ (hK.out _ _ (Below.refl _ _) rfl);clear hC hd hb hK hS
       first | (go_simp; done) | (go_simp; rfl)
      ·refine At.of _ rfl (fun e_ a w hC hd hb K hK => ?_)
       have gg41 := (hd 13 (by decide)).2 41 rfl;rw [show e_ 13 = _ from (hd 13 (by decide)).1] at gg41;have b5 : a.tmps[5]? = some (.int .i64 (i : Int)) := hb 5 (by decide);refine value_ (w1 := w) (v := .int .i64 (i : Int)) (by simp [Region.wanted, yielded, gg41]) rfl ?_ (hK.out _ _ (Below.refl _ _) rfl);clear hC hd hb hK hS
       first | (go_simp; done) | (go_simp; rfl)
      ·refine At.of _ rfl (fun e_ a w hC hd hb K hK => ?_)
       have gg41 := (hd 13 (by decide)).2 41 rfl;rw [show e_ 13 = _ from (hd 13 (by decide)).1] at gg41;have q43 := (hd 15 (by decide)).2 43 rfl;rw [show e_ 15 = _ from (hd 15 (by decide)).1] at q43;have q44 := (hd 16 (by decide)).2 44 rfl;rw [show e_ 16 = _ from (hd 16 (by decide)).1] at q44;refine value_ (w1 := w) (v := .pointer (some (Addr.add ad (i * 3)))) (by simp [Region.wanted, yielded, gg41]) rfl ?_ (hK.out _ _ (Below.refl _ _) rfl);clear hC hd hb hK hS
       first | (go_simp; done) | (go_simp; rfl)
      ·refine At.of _ rfl (fun e_ a w hC hd hb K hK => ?_)
       have gg41 := (hd 13 (by decide)).2 41 rfl;rw [show e_ 13 = _ from (hd 13 (by decide)).1] at gg41;have q45 := (hd 17 (by decide)).2 45 rfl;rw [show e_ 17 = _ from (hd 17 (by decide)).1] at q45;refine value_ (w1 := w) (v := .pointer (some ⟨(Addr.add ad (i * 3)).block, (Addr.add ad (i * 3)).off + 1, none⟩)) (by simp [Region.wanted, yielded, gg41]) rfl ?_ (hK.out _ _ (Below.refl _ _) rfl);clear hC hd hb hK hS
       first | (go_simp; done) | (go_simp; rfl)
      ·refine At.of _ rfl (fun e_ a w hC hd hb K hK => ?_)
       have gg41 := (hd 13 (by decide)).2 41 rfl;rw [show e_ 13 = _ from (hd 13 (by decide)).1] at gg41;have q46 := (hd 18 (by decide)).2 46 rfl;rw [show e_ 18 = _ from (hd 18 (by decide)).1] at q46;obtain ⟨x0, x1, x2⟩ := hC.2.2.1;refine value_ (w1 := w) (v := .agg #[.bool e.b, .slice e.A e.n e.c]) (by simp [Region.wanted, yielded, gg41]) rfl ?_ (hK.out _ _ (Below.refl _ _) rfl);clear hC hd hb hK hS
       first | (go_simp; done) | (go_simp; rfl)
      ·refine At.of _ rfl (fun e_ a w hC hd hb K hK => ?_)
       have gg41 := (hd 13 (by decide)).2 41 rfl;rw [show e_ 13 = _ from (hd 13 (by decide)).1] at gg41;have b3 : a.tmps[3]? = some (.pointer (some ⟨w0.heap.size + 1, 0, none⟩)) := hb 3 (by decide);refine value_ (w1 := w) (v := .pointer (some ⟨w0.heap.size + 1, 2, none⟩)) (by simp [Region.wanted, yielded, gg41]) rfl ?_ (hK.out _ _ (Below.refl _ _) rfl);clear hC hd hb hK hS
       first | (go_simp; done) | (go_simp; rfl)
      ·refine At.of _ rfl (fun e_ a w hC hd hb K hK => ?_)
       have gg41 := (hd 13 (by decide)).2 41 rfl;rw [show e_ 13 = _ from (hd 13 (by decide)).1] at gg41;have q48 := (hd 20 (by decide)).2 48 rfl;rw [show e_ 20 = _ from (hd 20 (by decide)).1] at q48;have cc2 : w.cell? ⟨w0.heap.size + 1, 2, none⟩ = some (.slice (some bd) n d2) := Ctx.blk hC.2.1 2 rfl;refine value_ (w1 := w) (v := .slice (some bd) n d2) (by simp [Region.wanted, yielded, gg41]) rfl ?_ (hK.out _ _ (Below.refl _ _) rfl);clear hC hd hb hK hS
       first | (go_simp; done) | (go_simp; rfl)
      ·refine At.of _ rfl (fun e_ a w hC hd hb K hK => ?_)
       have gg41 := (hd 13 (by decide)).2 41 rfl;rw [show e_ 13 = _ from (hd 13 (by decide)).1] at gg41;have b5 : a.tmps[5]? = some (.int .i64 (i : Int)) := hb 5 (by decide);refine value_ (w1 := w) (v := .int .i64 (i : Int)) (by simp [Region.wanted, yielded, gg41]) rfl ?_ (hK.out _ _ (Below.refl _ _) rfl);clear hC hd hb hK hS
       first | (go_simp; done) | (go_simp; rfl)
      ·refine At.of _ rfl (fun e_ a w hC hd hb K hK => ?_)
       have gg41 := (hd 13 (by decide)).2 41 rfl;rw [show e_ 13 = _ from (hd 13 (by decide)).1] at gg41;have q49 := (hd 21 (by decide)).2 49 rfl;rw [show e_ 21 = _ from (hd 21 (by decide)).1] at q49;have q50 := (hd 22 (by decide)).2 50 rfl;rw [show e_ 22 = _ from (hd 22 (by decide)).1] at q50;refine value_ (w1 := w) (v := .pointer (some (Addr.add bd (i * 3)))) (by simp [Region.wanted, yielded, gg41]) rfl ?_ (hK.out _ _ (Below.refl _ _) rfl);clear hC hd hb hK hS
       first | (go_simp; done) | (go_simp; rfl)
      ·refine At.of _ rfl (fun e_ a w hC hd hb K hK => ?_)
       have gg41 := (hd 13 (by decide)).2 41 rfl;rw [show e_ 13 = _ from (hd 13 (by decide)).1] at gg41;have q51 := (hd 23 (by decide)).2 51 rfl;rw [show e_ 23 = _ from (hd 23 (by decide)).1] at q51;refine value_ (w1 := w) (v := .pointer (some ⟨(Addr.add bd (i * 3)).block, (Addr.add bd (i * 3)).off + 1, none⟩)) (by simp [Region.wanted, yielded, gg41]) rfl ?_ (hK.out _ _ (Below.refl _ _) rfl);clear hC hd hb hK hS
       first | (go_simp; done) | (go_simp; rfl)
      ·refine At.of _ rfl (fun e_ a w hC hd hb K hK => ?_)
       have gg41 := (hd 13 (by decide)).2 41 rfl;rw [show e_ 13 = _ from (hd 13 (by decide)).1] at gg41;have q52 := (hd 24 (by decide)).2 52 rfl;rw [show e_ 24 = _ from (hd 24 (by decide)).1] at q52;obtain ⟨x0, x1, x2⟩ := hC.2.2.2.1;refine value_ (w1 := w) (v := .agg #[.bool g.b, .slice g.A g.n g.c]) (by simp [Region.wanted, yielded, gg41]) rfl ?_ (hK.out _ _ (Below.refl _ _) rfl);clear hC hd hb hK hS
       first | (go_simp; done) | (go_simp; rfl)
      ·refine At.of _ rfl (fun e_ a w hC hd hb K hK => ?_)
       have gg41 := (hd 13 (by decide)).2 41 rfl;rw [show e_ 13 = _ from (hd 13 (by decide)).1] at gg41;have q47 := (hd 19 (by decide)).2 47 rfl;rw [show e_ 19 = _ from (hd 19 (by decide)).1] at q47;have q53 := (hd 25 (by decide)).2 53 rfl;rw [show e_ 25 = _ from (hd 25 (by decide)).1] at q53;refine goes_ Tryd.func56 (by kernel_rfl) rfl #[.agg #[.bool e.b, .slice e.A e.n e.c], .agg #[.bool g.b, .slice g.A g.n g.c]] (by simp [Region.wanted, yielded, gg41]) rfl rfl (by first | (simp [Act.eval, q47, q53]; done) | (simp [Act.eval, q47, q53]; rfl)) ?_;refine (hS.out w hC).mono ?_;rintro en w' ⟨v, rfl, hv, hb'⟩;exact ⟨v, rfl, hK.out v w' hb' hv⟩
      ·refine At.of _ rfl (fun e_ a w hC hd hb K hK => ?_)
       have gg41 := (hd 13 (by decide)).2 41 rfl;rw [show e_ 13 = _ from (hd 13 (by decide)).1] at gg41;have q54 := (hd 26 (by decide)).2 54 rfl;rw [show e_ 26 = _ from (hd 26 (by decide)).1] at q54;refine value_ (w1 := w) (v := .bool true) (by simp [Region.wanted, yielded, gg41]) rfl ?_ (hK.out _ _ (Below.refl _ _) rfl);clear hC hd hb hK hS
       first | (go_simp; done) | (go_simp; rfl)
      ·refine At.of _ rfl (fun e_ a w hC hd hb K hK => ?_)
       have q41 := (hd 13 (by decide)).2 41 rfl;rw [show e_ 13 = _ from (hd 13 (by decide)).1] at q41;have q55 := (hd 27 (by decide)).2 55 rfl;rw [show e_ 27 = _ from (hd 27 (by decide)).1] at q55;refine value_ (w1 := w) (v := .bool true) (by rfl) rfl ?_ (hK.out _ _ (Below.refl _ _) rfl);clear hC hd hb hK hS
       first | (go_simp; done) | (go_simp; rfl)
      ·intro e_ w10 C hr
       have r28 : e_ 28 = .bool true := hr.2;simp only [fill, Act.put, r28, if_true, List.setIfInBounds_toArray, List.set_cons_zero, List.set_cons_succ]
       have hb10 := (show Below w3.heap.size w3 w10 from C.2.2.2.2.2.2.1)
       clear hr r28 C hS
       go_wp2_with fail
       go_ret;exact ⟨rfl, below_step CB.out hb10⟩
     ·have hSS : sgn (nv p.f1 - nv q.f1) = 1 := by unfold sgn; rw [if_neg (by omega), if_neg (by omega)]
      have CB := Sdq.mk (show Below w0.heap.size w0 w3 from C.out.2.2.1);have hS := Sdq.mk (fun (w : World) (hC : Ctx [uBlk w0.heap.size [.bool x.f0.f0, .slice A x.f0.f1.length c, .slice (some ad) n d] 37, uBlk (w0.heap.size + 1) [.bool y.f0.f0, .slice A2 y.f0.f1.length c2, .slice (some bd) n d2] 37, uEl ad i e, uEl bd i g, uK k34 (fun _ => True) (.agg #[.bool e.b, .slice e.A e.n e.c]) p.f1, uK k34 (fun _ => True) (.agg #[.bool g.b, .slice g.A g.n g.c]) q.f1, uB w3] w) => hS0.out w hC (1) hSS);have hv := Sdq.mk (show (e.v = g.v) = True by rw [ev, gv]; simp [hv]);clear hS0 hSS hneA ev gv hc hlt hyeA
      go_upto_region 6 with fail
      clear y2;refine absW _ hC6.out ?_;clear hC6 C2;intro w6 C;refine flowT (n := 29) r11_Same.tab6 rfl (Ctx _) (Rl [uEq (.pointer (some ⟨w0.heap.size, 2, none⟩)), uEq (.slice (some ad) n d), uEq (.int .i64 (i : Int)), uEq (.pointer (some (Addr.add ad (i * 3)))), uEq (.pointer (some (Addr.add ad (i * 3)))), uEq (.int .i64 e.v), uEq (.pointer (some ⟨w0.heap.size + 1, 2, none⟩)), uEq (.slice (some bd) n d2), uEq (.int .i64 (i : Int)), uEq (.pointer (some (Addr.add bd (i * 3)))), uEq (.pointer (some (Addr.add bd (i * 3)))), uEq (.int .i64 g.v), uEq (.bool false), uEq (.bool false), uEq (.pointer (some ⟨w0.heap.size, 2, none⟩)), uEq (.slice (some ad) n d), uEq (.int .i64 (i : Int)), uEq (.pointer (some (Addr.add ad (i * 3)))), uEq (.pointer (some ⟨(Addr.add ad (i * 3)).block, (Addr.add ad (i * 3)).off + 1, none⟩)), uEq (.agg #[.bool e.b, .slice e.A e.n e.c]), uEq (.pointer (some ⟨w0.heap.size + 1, 2, none⟩)), uEq (.slice (some bd) n d2), uEq (.int .i64 (i : Int)), uEq (.pointer (some (Addr.add bd (i * 3)))), uEq (.pointer (some ⟨(Addr.add bd (i * 3)).block, (Addr.add bd (i * 3)).off + 1, none⟩)), uEq (.agg #[.bool g.b, .slice g.A g.n g.c]), uEq (.int .i64 1), uEq (.bool true), uEq (.bool true)]) rfl (by kernel_rfl) (fun _ _ h hb => h.below hb) (Rl.up _) C ⟨⟨⟨⟨⟨⟨⟨⟨⟨⟨⟨⟨⟨⟨⟨⟨⟨⟨⟨⟨⟨⟨⟨⟨⟨⟨⟨⟨⟨trivial, ?_⟩, ?_⟩, ?_⟩, ?_⟩, ?_⟩, ?_⟩, ?_⟩, ?_⟩, ?_⟩, ?_⟩, ?_⟩, ?_⟩, ?_⟩, ?_⟩, ?_⟩, ?_⟩, ?_⟩, ?_⟩, ?_⟩, ?_⟩, ?_⟩, ?_⟩, ?_⟩, ?_⟩, ?_⟩, ?_⟩, ?_⟩, ?_⟩, ?_⟩ ?_
      ·refine At.of _ rfl (fun e_ a w hC hd hb K hK => ?_)
       have b2 : a.tmps[2]? = some (.pointer (some ⟨w0.heap.size, 0, none⟩)) := hb 2 (by decide);refine value_ (w1 := w) (v := .pointer (some ⟨w0.heap.size, 2, none⟩)) (by rfl) rfl ?_ (hK.out _ _ (Below.refl _ _) rfl);clear hC hd hb hK hS
       first | (go_simp; done) | (go_simp; rfl)
      ·refine At.of _ rfl (fun e_ a w hC hd hb K hK => ?_)
       have q28 := (hd 0 (by decide)).2 28 rfl;rw [show e_ 0 = _ from (hd 0 (by decide)).1] at q28;have cc2 : w.cell? ⟨w0.heap.size, 2, none⟩ = some (.slice (some ad) n d) := Ctx.blk hC.1 2 rfl;refine value_ (w1 := w) (v := .slice (some ad) n d) (by rfl) rfl ?_ (hK.out _ _ (Below.refl _ _) rfl);clear hC hd hb hK hS
       first | (go_simp; done) | (go_simp; rfl)
      ·refine At.of _ rfl (fun e_ a w hC hd hb K hK => ?_)
       have b5 : a.tmps[5]? = some (.int .i64 (i : Int)) := hb 5 (by decide);refine value_ (w1 := w) (v := .int .i64 (i : Int)) (by rfl) rfl ?_ (hK.out _ _ (Below.refl _ _) rfl);clear hC hd hb hK hS
       first | (go_simp; done) | (go_simp; rfl)
      ·refine At.of _ rfl (fun e_ a w hC hd hb K hK => ?_)
       have q29 := (hd 1 (by decide)).2 29 rfl;rw [show e_ 1 = _ from (hd 1 (by decide)).1] at q29;have q30 := (hd 2 (by decide)).2 30 rfl;rw [show e_ 2 = _ from (hd 2 (by decide)).1] at q30;refine value_ (w1 := w) (v := .pointer (some (Addr.add ad (i * 3)))) (by rfl) rfl ?_ (hK.out _ _ (Below.refl _ _) rfl);clear hC hd hb hK hS
       first | (go_simp; done) | (go_simp; rfl)
      ·refine At.of _ rfl (fun e_ a w hC hd hb K hK => ?_)
       have q31 := (hd 3 (by decide)).2 31 rfl;rw [show e_ 3 = _ from (hd 3 (by decide)).1] at q31;refine value_ (w1 := w) (v := .pointer (some (Addr.add ad (i * 3)))) (by rfl) rfl ?_ (hK.out _ _ (Below.refl _ _) rfl);clear hC hd hb hK hS
       first | (go_simp; done) | (go_simp; rfl)
      ·refine At.of _ rfl (fun e_ a w hC hd hb K hK => ?_)
       have q32 := (hd 4 (by decide)).2 32 rfl;rw [show e_ 4 = _ from (hd 4 (by decide)).1] at q32;obtain ⟨x0, x1, x2⟩ := hC.2.2.1;refine value_ (w1 := w) (v := .int .i64 e.v) (by rfl) rfl ?_ (hK.out _ _ (Below.refl _ _) rfl);clear hC hd hb hK hS
       first | (go_simp; done) | (go_simp; rfl)
      ·refine At.of _ rfl (fun e_ a w hC hd hb K hK => ?_)
       have b3 : a.tmps[3]? = some (.pointer (some ⟨w0.heap.size + 1, 0, none⟩)) := hb 3 (by decide);refine value_ (w1 := w) (v := .pointer (some ⟨w0.heap.size + 1, 2, none⟩)) (by rfl) rfl ?_ (hK.out _ _ (Below.refl _ _) rfl);clear hC hd hb hK hS
       first | (go_simp; done) | (go_simp; rfl)
      ·refine At.of _ rfl (fun e_ a w hC hd hb K hK => ?_)
       have q34 := (hd 6 (by decide)).2 34 rfl;rw [show e_ 6 = _ from (hd 6 (by decide)).1] at q34;have cc2 : w.cell? ⟨w0.heap.size + 1, 2, none⟩ = some (.slice (some bd) n d2) := Ctx.blk hC.2.1 2 rfl;refine value_ (w1 := w) (v := .slice (some bd) n d2) (by rfl) rfl ?_ (hK.out _ _ (Below.refl _ _) rfl);clear hC hd hb hK hS
       first | (go_simp; done) | (go_simp; rfl)
      ·refine At.of _ rfl (fun e_ a w hC hd hb K hK => ?_)
       have b5 : a.tmps[5]? = some (.int .i64 (i : Int)) := hb 5 (by decide);refine value_ (w1 := w) (v := .int .i64 (i : Int)) (by rfl) rfl ?_ (hK.out _ _ (Below.refl _ _) rfl);clear hC hd hb hK hS
       first | (go_simp; done) | (go_simp; rfl)
      ·refine At.of _ rfl (fun e_ a w hC hd hb K hK => ?_)
       have q35 := (hd 7 (by decide)).2 35 rfl;rw [show e_ 7 = _ from (hd 7 (by decide)).1] at q35;have q36 := (hd 8 (by decide)).2 36 rfl;rw [show e_ 8 = _ from (hd 8 (by decide)).1] at q36;refine value_ (w1 := w) (v := .pointer (some (Addr.add bd (i * 3)))) (by rfl) rfl ?_ (hK.out _ _ (Below.refl _ _) rfl);clear hC hd hb hK hS
       first | (go_simp; done) | (go_simp; rfl)
      ·refine At.of _ rfl (fun e_ a w hC hd hb K hK => ?_)
       have q37 := (hd 9 (by decide)).2 37 rfl;rw [show e_ 9 = _ from (hd 9 (by decide)).1] at q37;refine value_ (w1 := w) (v := .pointer (some (Addr.add bd (i * 3)))) (by rfl) rfl ?_ (hK.out _ _ (Below.refl _ _) rfl);clear hC hd hb hK hS
       first | (go_simp; done) | (go_simp; rfl)
      ·refine At.of _ rfl (fun e_ a w hC hd hb K hK => ?_)
       have q38 := (hd 10 (by decide)).2 38 rfl;rw [show e_ 10 = _ from (hd 10 (by decide)).1] at q38;obtain ⟨x0, x1, x2⟩ := hC.2.2.2.1;refine value_ (w1 := w) (v := .int .i64 g.v) (by rfl) rfl ?_ (hK.out _ _ (Below.refl _ _) rfl);clear hC hd hb hK hS
       first | (go_simp; done) | (go_simp; rfl)
      ·refine At.of _ rfl (fun e_ a w hC hd hb K hK => ?_)
       have q33 := (hd 5 (by decide)).2 33 rfl;rw [show e_ 5 = _ from (hd 5 (by decide)).1] at q33;have q39 := (hd 11 (by decide)).2 39 rfl;rw [show e_ 11 = _ from (hd 11 (by decide)).1] at q39;have hv0 := hv.out;refine value_ (w1 := w) (v := .bool false) (by rfl) rfl ?_ (hK.out _ _ (Below.refl _ _) rfl);clear hC hd hb hK hS
       first | (go_simp; done) | (go_simp; rfl)
      ·refine At.of _ rfl (fun e_ a w hC hd hb K hK => ?_)
       have q40 := (hd 12 (by decide)).2 40 rfl;rw [show e_ 12 = _ from (hd 12 (by decide)).1] at q40;refine value_ (w1 := w) (v := .bool false) (by rfl) rfl ?_ (hK.out _ _ (Below.refl _ _) rfl);clear hC hd hb hK hS
       first | (go_simp; done) | (go_simp; rfl)
      ·refine At.of _ rfl (fun e_ a w hC hd hb K hK => ?_)
       have gg41 := (hd 13 (by decide)).2 41 rfl;rw [show e_ 13 = _ from (hd 13 (by decide)).1] at gg41;have b2 : a.tmps[2]? = some (.pointer (some ⟨w0.heap.size, 0, none⟩)) := hb 2 (by decide);refine value_ (w1 := w) (v := .pointer (some ⟨w0.heap.size, 2, none⟩)) (by simp [Region.wanted, yielded, gg41]) rfl ?_ (hK.out _ _ (Below.refl _ _) rfl);clear hC hd hb hK hS
       first | (go_simp; done) | (go_simp; rfl)
      ·refine At.of _ rfl (fun e_ a w hC hd hb K hK => ?_)
       have gg41 := (hd 13 (by decide)).2 41 rfl;rw [show e_ 13 = _ from (hd 13 (by decide)).1] at gg41;have q42 := (hd 14 (by decide)).2 42 rfl;rw [show e_ 14 = _ from (hd 14 (by decide)).1] at q42;have cc2 : w.cell? ⟨w0.heap.size, 2, none⟩ = some (.slice (some ad) n d) := Ctx.blk hC.1 2 rfl;refine value_ (w1 := w) (v := .slice (some ad) n d) (by simp [Region.wanted, yielded, gg41]) rfl ?_ (hK.out _ _ (Below.refl _ _) rfl);clear hC hd hb hK hS
       first | (go_simp; done) | (go_simp; rfl)
      ·refine At.of _ rfl (fun e_ a w hC hd hb K hK => ?_)
       have gg41 := (hd 13 (by decide)).2 41 rfl;rw [show e_ 13 = _ from (hd 13 (by decide)).1] at gg41;have b5 : a.tmps[5]? = some (.int .i64 (i : Int)) := hb 5 (by decide);refine value_ (w1 := w) (v := .int .i64 (i : Int)) (by simp [Region.wanted, yielded, gg41]) rfl ?_ (hK.out _ _ (Below.refl _ _) rfl);clear hC hd hb hK hS
       first | (go_simp; done) | (go_simp; rfl)
      ·refine At.of _ rfl (fun e_ a w hC hd hb K hK => ?_)
       have gg41 := (hd 13 (by decide)).2 41 rfl;rw [show e_ 13 = _ from (hd 13 (by decide)).1] at gg41;have q43 := (hd 15 (by decide)).2 43 rfl;rw [show e_ 15 = _ from (hd 15 (by decide)).1] at q43;have q44 := (hd 16 (by decide)).2 44 rfl;rw [show e_ 16 = _ from (hd 16 (by decide)).1] at q44;refine value_ (w1 := w) (v := .pointer (some (Addr.add ad (i * 3)))) (by simp [Region.wanted, yielded, gg41]) rfl ?_ (hK.out _ _ (Below.refl _ _) rfl);clear hC hd hb hK hS
       first | (go_simp; done) | (go_simp; rfl)
      ·refine At.of _ rfl (fun e_ a w hC hd hb K hK => ?_)
       have gg41 := (hd 13 (by decide)).2 41 rfl;rw [show e_ 13 = _ from (hd 13 (by decide)).1] at gg41;have q45 := (hd 17 (by decide)).2 45 rfl;rw [show e_ 17 = _ from (hd 17 (by decide)).1] at q45;refine value_ (w1 := w) (v := .pointer (some ⟨(Addr.add ad (i * 3)).block, (Addr.add ad (i * 3)).off + 1, none⟩)) (by simp [Region.wanted, yielded, gg41]) rfl ?_ (hK.out _ _ (Below.refl _ _) rfl);clear hC hd hb hK hS
       first | (go_simp; done) | (go_simp; rfl)
      ·refine At.of _ rfl (fun e_ a w hC hd hb K hK => ?_)
       have gg41 := (hd 13 (by decide)).2 41 rfl;rw [show e_ 13 = _ from (hd 13 (by decide)).1] at gg41;have q46 := (hd 18 (by decide)).2 46 rfl;rw [show e_ 18 = _ from (hd 18 (by decide)).1] at q46;obtain ⟨x0, x1, x2⟩ := hC.2.2.1;refine value_ (w1 := w) (v := .agg #[.bool e.b, .slice e.A e.n e.c]) (by simp [Region.wanted, yielded, gg41]) rfl ?_ (hK.out _ _ (Below.refl _ _) rfl);clear hC hd hb hK hS
       first | (go_simp; done) | (go_simp; rfl)
      ·refine At.of _ rfl (fun e_ a w hC hd hb K hK => ?_)
       have gg41 := (hd 13 (by decide)).2 41 rfl;rw [show e_ 13 = _ from (hd 13 (by decide)).1] at gg41;have b3 : a.tmps[3]? = some (.pointer (some ⟨w0.heap.size + 1, 0, none⟩)) := hb 3 (by decide);refine value_ (w1 := w) (v := .pointer (some ⟨w0.heap.size + 1, 2, none⟩)) (by simp [Region.wanted, yielded, gg41]) rfl ?_ (hK.out _ _ (Below.refl _ _) rfl);clear hC hd hb hK hS
       first | (go_simp; done) | (go_simp; rfl)
      ·refine At.of _ rfl (fun e_ a w hC hd hb K hK => ?_)
       have gg41 := (hd 13 (by decide)).2 41 rfl;rw [show e_ 13 = _ from (hd 13 (by decide)).1] at gg41;have q48 := (hd 20 (by decide)).2 48 rfl;rw [show e_ 20 = _ from (hd 20 (by decide)).1] at q48;have cc2 : w.cell? ⟨w0.heap.size + 1, 2, none⟩ = some (.slice (some bd) n d2) := Ctx.blk hC.2.1 2 rfl;refine value_ (w1 := w) (v := .slice (some bd) n d2) (by simp [Region.wanted, yielded, gg41]) rfl ?_ (hK.out _ _ (Below.refl _ _) rfl);clear hC hd hb hK hS
       first | (go_simp; done) | (go_simp; rfl)
      ·refine At.of _ rfl (fun e_ a w hC hd hb K hK => ?_)
       have gg41 := (hd 13 (by decide)).2 41 rfl;rw [show e_ 13 = _ from (hd 13 (by decide)).1] at gg41;have b5 : a.tmps[5]? = some (.int .i64 (i : Int)) := hb 5 (by decide);refine value_ (w1 := w) (v := .int .i64 (i : Int)) (by simp [Region.wanted, yielded, gg41]) rfl ?_ (hK.out _ _ (Below.refl _ _) rfl);clear hC hd hb hK hS
       first | (go_simp; done) | (go_simp; rfl)
      ·refine At.of _ rfl (fun e_ a w hC hd hb K hK => ?_)
       have gg41 := (hd 13 (by decide)).2 41 rfl;rw [show e_ 13 = _ from (hd 13 (by decide)).1] at gg41;have q49 := (hd 21 (by decide)).2 49 rfl;rw [show e_ 21 = _ from (hd 21 (by decide)).1] at q49;have q50 := (hd 22 (by decide)).2 50 rfl;rw [show e_ 22 = _ from (hd 22 (by decide)).1] at q50;refine value_ (w1 := w) (v := .pointer (some (Addr.add bd (i * 3)))) (by simp [Region.wanted, yielded, gg41]) rfl ?_ (hK.out _ _ (Below.refl _ _) rfl);clear hC hd hb hK hS
       first | (go_simp; done) | (go_simp; rfl)
      ·refine At.of _ rfl (fun e_ a w hC hd hb K hK => ?_)
       have gg41 := (hd 13 (by decide)).2 41 rfl;rw [show e_ 13 = _ from (hd 13 (by decide)).1] at gg41;have q51 := (hd 23 (by decide)).2 51 rfl;rw [show e_ 23 = _ from (hd 23 (by decide)).1] at q51;refine value_ (w1 := w) (v := .pointer (some ⟨(Addr.add bd (i * 3)).block, (Addr.add bd (i * 3)).off + 1, none⟩)) (by simp [Region.wanted, yielded, gg41]) rfl ?_ (hK.out _ _ (Below.refl _ _) rfl);clear hC hd hb hK hS
       first | (go_simp; done) | (go_simp; rfl)
      ·refine At.of _ rfl (fun e_ a w hC hd hb K hK => ?_)
       have gg41 := (hd 13 (by decide)).2 41 rfl;rw [show e_ 13 = _ from (hd 13 (by decide)).1] at gg41;have q52 := (hd 24 (by decide)).2 52 rfl;rw [show e_ 24 = _ from (hd 24 (by decide)).1] at q52;obtain ⟨x0, x1, x2⟩ := hC.2.2.2.1;refine value_ (w1 := w) (v := .agg #[.bool g.b, .slice g.A g.n g.c]) (by simp [Region.wanted, yielded, gg41]) rfl ?_ (hK.out _ _ (Below.refl _ _) rfl);clear hC hd hb hK hS
       first | (go_simp; done) | (go_simp; rfl)
      ·refine At.of _ rfl (fun e_ a w hC hd hb K hK => ?_)
       have gg41 := (hd 13 (by decide)).2 41 rfl;rw [show e_ 13 = _ from (hd 13 (by decide)).1] at gg41;have q47 := (hd 19 (by decide)).2 47 rfl;rw [show e_ 19 = _ from (hd 19 (by decide)).1] at q47;have q53 := (hd 25 (by decide)).2 53 rfl;rw [show e_ 25 = _ from (hd 25 (by decide)).1] at q53;refine goes_ Tryd.func56 (by kernel_rfl) rfl #[.agg #[.bool e.b, .slice e.A e.n e.c], .agg #[.bool g.b, .slice g.A g.n g.c]] (by simp [Region.wanted, yielded, gg41]) rfl rfl (by first | (simp [Act.eval, q47, q53]; done) | (simp [Act.eval, q47, q53]; rfl)) ?_;refine (hS.out w hC).mono ?_;rintro en w' ⟨v, rfl, hv, hb'⟩;exact ⟨v, rfl, hK.out v w' hb' hv⟩
      ·refine At.of _ rfl (fun e_ a w hC hd hb K hK => ?_)
       have gg41 := (hd 13 (by decide)).2 41 rfl;rw [show e_ 13 = _ from (hd 13 (by decide)).1] at gg41;have q54 := (hd 26 (by decide)).2 54 rfl;rw [show e_ 26 = _ from (hd 26 (by decide)).1] at q54;refine value_ (w1 := w) (v := .bool true) (by simp [Region.wanted, yielded, gg41]) rfl ?_ (hK.out _ _ (Below.refl _ _) rfl);clear hC hd hb hK hS
       first | (go_simp; done) | (go_simp; rfl)
      ·refine At.of _ rfl (fun e_ a w hC hd hb K hK => ?_)
       have q41 := (hd 13 (by decide)).2 41 rfl;rw [show e_ 13 = _ from (hd 13 (by decide)).1] at q41;have q55 := (hd 27 (by decide)).2 55 rfl;rw [show e_ 27 = _ from (hd 27 (by decide)).1] at q55;refine value_ (w1 := w) (v := .bool true) (by rfl) rfl ?_ (hK.out _ _ (Below.refl _ _) rfl);clear hC hd hb hK hS
       first | (go_simp; done) | (go_simp; rfl)
      ·intro e_ w10 C hr
       have r28 : e_ 28 = .bool true := hr.2;simp only [fill, Act.put, r28, if_true, List.setIfInBounds_toArray, List.set_cons_zero, List.set_cons_succ]
       have hb10 := (show Below w3.heap.size w3 w10 from C.2.2.2.2.2.2.1)
       clear hr r28 C hS
       go_wp2_with fail
       go_ret;exact ⟨rfl, below_step CB.out hb10⟩
   ·obtain rfl := hneA.out (fun h => hv h.1)
    have CB := Sdq.mk (show Below w0.heap.size w0 w3 from C.out.2.2.1);have hv := Sdq.mk (show (e.v = g.v) = False by rw [ev, gv]; simp [hv]);clear hS0 hneA ev gv hyeA
    go_upto_region 6 with fail
    clear y2;refine absW _ hC6.out ?_;clear hC6 C2;intro w6 C;refine flowT (n := 29) r11_Same.tab6 rfl (Ctx _) (Rl [uEq (.pointer (some ⟨w0.heap.size, 2, none⟩)), uEq (.slice (some ad) n d), uEq (.int .i64 (i : Int)), uEq (.pointer (some (Addr.add ad (i * 3)))), uEq (.pointer (some (Addr.add ad (i * 3)))), uEq (.int .i64 e.v), uEq (.pointer (some ⟨w0.heap.size + 1, 2, none⟩)), uEq (.slice (some bd) n d2), uEq (.int .i64 (i : Int)), uEq (.pointer (some (Addr.add bd (i * 3)))), uEq (.pointer (some (Addr.add bd (i * 3)))), uEq (.int .i64 g.v), uEq (.bool true), uEq (.bool true), uEq undef, uEq undef, uEq undef, uEq undef, uEq undef, uEq undef, uEq undef, uEq undef, uEq undef, uEq undef, uEq undef, uEq undef, uEq undef, uEq undef, uEq (.bool true)]) rfl (by kernel_rfl) (fun _ _ h hb => h.below hb) (Rl.up _) C ⟨⟨⟨⟨⟨⟨⟨⟨⟨⟨⟨⟨⟨⟨⟨⟨⟨⟨⟨⟨⟨⟨⟨⟨⟨⟨⟨⟨⟨trivial, ?_⟩, ?_⟩, ?_⟩, ?_⟩, ?_⟩, ?_⟩, ?_⟩, ?_⟩, ?_⟩, ?_⟩, ?_⟩, ?_⟩, ?_⟩, ?_⟩, ?_⟩, ?_⟩, ?_⟩, ?_⟩, ?_⟩, ?_⟩, ?_⟩, ?_⟩, ?_⟩, ?_⟩, ?_⟩, ?_⟩, ?_⟩, ?_⟩, ?_⟩ ?_
    ·refine At.of _ rfl (fun e_ a w hC hd hb K hK => ?_)
     have b2 : a.tmps[2]? = some (.pointer (some ⟨w0.heap.size, 0, none⟩)) := hb 2 (by decide);refine value_ (w1 := w) (v := .pointer (some ⟨w0.heap.size, 2, none⟩)) (by rfl) rfl ?_ (hK.out _ _ (Below.refl _ _) rfl);clear hC hd hb hK
     first | (go_simp; done) | (go_simp; rfl)
    ·refine At.of _ rfl (fun e_ a w hC hd hb K hK => ?_)
     have q28 := (hd 0 (by decide)).2 28 rfl;rw [show e_ 0 = _ from (hd 0 (by decide)).1] at q28;have cc2 : w.cell? ⟨w0.heap.size, 2, none⟩ = some (.slice (some ad) n d) := Ctx.blk hC.1 2 rfl;refine value_ (w1 := w) (v := .slice (some ad) n d) (by rfl) rfl ?_ (hK.out _ _ (Below.refl _ _) rfl);clear hC hd hb hK
     first | (go_simp; done) | (go_simp; rfl)
    ·refine At.of _ rfl (fun e_ a w hC hd hb K hK => ?_)
     have b5 : a.tmps[5]? = some (.int .i64 (i : Int)) := hb 5 (by decide);refine value_ (w1 := w) (v := .int .i64 (i : Int)) (by rfl) rfl ?_ (hK.out _ _ (Below.refl _ _) rfl);clear hC hd hb hK
     first | (go_simp; done) | (go_simp; rfl)
    ·refine At.of _ rfl (fun e_ a w hC hd hb K hK => ?_)
     have q29 := (hd 1 (by decide)).2 29 rfl;rw [show e_ 1 = _ from (hd 1 (by decide)).1] at q29;have q30 := (hd 2 (by decide)).2 30 rfl;rw [show e_ 2 = _ from (hd 2 (by decide)).1] at q30;refine value_ (w1 := w) (v := .pointer (some (Addr.add ad (i * 3)))) (by rfl) rfl ?_ (hK.out _ _ (Below.refl _ _) rfl);clear hC hd hb hK
     first | (go_simp; done) | (go_simp; rfl)
    ·refine At.of _ rfl (fun e_ a w hC hd hb K hK => ?_)
     have q31 := (hd 3 (by decide)).2 31 rfl;rw [show e_ 3 = _ from (hd 3 (by decide)).1] at q31;refine value_ (w1 := w) (v := .pointer (some (Addr.add ad (i * 3)))) (by rfl) rfl ?_ (hK.out _ _ (Below.refl _ _) rfl);clear hC hd hb hK
     first | (go_simp; done) | (go_simp; rfl)
    ·refine At.of _ rfl (fun e_ a w hC hd hb K hK => ?_)
     have q32 := (hd 4 (by decide)).2 32 rfl;rw [show e_ 4 = _ from (hd 4 (by decide)).1] at q32;obtain ⟨x0, x1, x2⟩ := hC.2.2.1;refine value_ (w1 := w) (v := .int .i64 e.v) (by rfl) rfl ?_ (hK.out _ _ (Below.refl _ _) rfl);clear hC hd hb hK
     first | (go_simp; done) | (go_simp; rfl)
    ·refine At.of _ rfl (fun e_ a w hC hd hb K hK => ?_)
     have b3 : a.tmps[3]? = some (.pointer (some ⟨w0.heap.size + 1, 0, none⟩)) := hb 3 (by decide);refine value_ (w1 := w) (v := .pointer (some ⟨w0.heap.size + 1, 2, none⟩)) (by rfl) rfl ?_ (hK.out _ _ (Below.refl _ _) rfl);clear hC hd hb hK
     first | (go_simp; done) | (go_simp; rfl)
    ·refine At.of _ rfl (fun e_ a w hC hd hb K hK => ?_)
     have q34 := (hd 6 (by decide)).2 34 rfl;rw [show e_ 6 = _ from (hd 6 (by decide)).1] at q34;have cc2 : w.cell? ⟨w0.heap.size + 1, 2, none⟩ = some (.slice (some bd) n d2) := Ctx.blk hC.2.1 2 rfl;refine value_ (w1 := w) (v := .slice (some bd) n d2) (by rfl) rfl ?_ (hK.out _ _ (Below.refl _ _) rfl);clear hC hd hb hK
     first | (go_simp; done) | (go_simp; rfl)
    ·refine At.of _ rfl (fun e_ a w hC hd hb K hK => ?_)
     have b5 : a.tmps[5]? = some (.int .i64 (i : Int)) := hb 5 (by decide);refine value_ (w1 := w) (v := .int .i64 (i : Int)) (by rfl) rfl ?_ (hK.out _ _ (Below.refl _ _) rfl);clear hC hd hb hK
     first | (go_simp; done) | (go_simp; rfl)
    ·refine At.of _ rfl (fun e_ a w hC hd hb K hK => ?_)
     have q35 := (hd 7 (by decide)).2 35 rfl;rw [show e_ 7 = _ from (hd 7 (by decide)).1] at q35;have q36 := (hd 8 (by decide)).2 36 rfl;rw [show e_ 8 = _ from (hd 8 (by decide)).1] at q36;refine value_ (w1 := w) (v := .pointer (some (Addr.add bd (i * 3)))) (by rfl) rfl ?_ (hK.out _ _ (Below.refl _ _) rfl);clear hC hd hb hK
     first | (go_simp; done) | (go_simp; rfl)
    ·refine At.of _ rfl (fun e_ a w hC hd hb K hK => ?_)
     have q37 := (hd 9 (by decide)).2 37 rfl;rw [show e_ 9 = _ from (hd 9 (by decide)).1] at q37;refine value_ (w1 := w) (v := .pointer (some (Addr.add bd (i * 3)))) (by rfl) rfl ?_ (hK.out _ _ (Below.refl _ _) rfl);clear hC hd hb hK
     first | (go_simp; done) | (go_simp; rfl)
    ·refine At.of _ rfl (fun e_ a w hC hd hb K hK => ?_)
     have q38 := (hd 10 (by decide)).2 38 rfl;rw [show e_ 10 = _ from (hd 10 (by decide)).1] at q38;obtain ⟨x0, x1, x2⟩ := hC.2.2.2.1;refine value_ (w1 := w) (v := .int .i64 g.v) (by rfl) rfl ?_ (hK.out _ _ (Below.refl _ _) rfl);clear hC hd hb hK
     first | (go_simp; done) | (go_simp; rfl)
    ·refine At.of _ rfl (fun e_ a w hC hd hb K hK => ?_)
     have q33 := (hd 5 (by decide)).2 33 rfl;rw [show e_ 5 = _ from (hd 5 (by decide)).1] at q33;have q39 := (hd 11 (by decide)).2 39 rfl;rw [show e_ 11 = _ from (hd 11 (by decide)).1] at q39;have hv0 := hv.out;refine value_ (w1 := w) (v := .bool true) (by rfl) rfl ?_ (hK.out _ _ (Below.refl _ _) rfl);clear hC hd hb hK
     first | (go_simp; done) | (go_simp; rfl)
    ·refine At.of _ rfl (fun e_ a w hC hd hb K hK => ?_)
     have q40 := (hd 12 (by decide)).2 40 rfl;rw [show e_ 12 = _ from (hd 12 (by decide)).1] at q40;refine value_ (w1 := w) (v := .bool true) (by rfl) rfl ?_ (hK.out _ _ (Below.refl _ _) rfl);clear hC hd hb hK
     first | (go_simp; done) | (go_simp; rfl)
    ·refine At.of _ rfl (fun e_ a w hC hd hb K hK => ?_)
     have gg41 := (hd 13 (by decide)).2 41 rfl;rw [show e_ 13 = _ from (hd 13 (by decide)).1] at gg41;refine skipG_ (by simp [Region.wanted, yielded, gg41]) (hK.out _ _ (Below.refl _ _) rfl)
    ·refine At.of _ rfl (fun e_ a w hC hd hb K hK => ?_)
     have gg41 := (hd 13 (by decide)).2 41 rfl;rw [show e_ 13 = _ from (hd 13 (by decide)).1] at gg41;refine skipG_ (by simp [Region.wanted, yielded, gg41]) (hK.out _ _ (Below.refl _ _) rfl)
    ·refine At.of _ rfl (fun e_ a w hC hd hb K hK => ?_)
     have gg41 := (hd 13 (by decide)).2 41 rfl;rw [show e_ 13 = _ from (hd 13 (by decide)).1] at gg41;refine skipG_ (by simp [Region.wanted, yielded, gg41]) (hK.out _ _ (Below.refl _ _) rfl)
    ·refine At.of _ rfl (fun e_ a w hC hd hb K hK => ?_)
     have gg41 := (hd 13 (by decide)).2 41 rfl;rw [show e_ 13 = _ from (hd 13 (by decide)).1] at gg41;refine skipG_ (by simp [Region.wanted, yielded, gg41]) (hK.out _ _ (Below.refl _ _) rfl)
    ·refine At.of _ rfl (fun e_ a w hC hd hb K hK => ?_)
     have gg41 := (hd 13 (by decide)).2 41 rfl;rw [show e_ 13 = _ from (hd 13 (by decide)).1] at gg41;refine skipG_ (by simp [Region.wanted, yielded, gg41]) (hK.out _ _ (Below.refl _ _) rfl)
    ·refine At.of _ rfl (fun e_ a w hC hd hb K hK => ?_)
     have gg41 := (hd 13 (by decide)).2 41 rfl;rw [show e_ 13 = _ from (hd 13 (by decide)).1] at gg41;refine skipG_ (by simp [Region.wanted, yielded, gg41]) (hK.out _ _ (Below.refl _ _) rfl)
    ·refine At.of _ rfl (fun e_ a w hC hd hb K hK => ?_)
     have gg41 := (hd 13 (by decide)).2 41 rfl;rw [show e_ 13 = _ from (hd 13 (by decide)).1] at gg41;refine skipG_ (by simp [Region.wanted, yielded, gg41]) (hK.out _ _ (Below.refl _ _) rfl)
    ·refine At.of _ rfl (fun e_ a w hC hd hb K hK => ?_)
     have gg41 := (hd 13 (by decide)).2 41 rfl;rw [show e_ 13 = _ from (hd 13 (by decide)).1] at gg41;refine skipG_ (by simp [Region.wanted, yielded, gg41]) (hK.out _ _ (Below.refl _ _) rfl)
    ·refine At.of _ rfl (fun e_ a w hC hd hb K hK => ?_)
     have gg41 := (hd 13 (by decide)).2 41 rfl;rw [show e_ 13 = _ from (hd 13 (by decide)).1] at gg41;refine skipG_ (by simp [Region.wanted, yielded, gg41]) (hK.out _ _ (Below.refl _ _) rfl)
    ·refine At.of _ rfl (fun e_ a w hC hd hb K hK => ?_)
     have gg41 := (hd 13 (by decide)).2 41 rfl;rw [show e_ 13 = _ from (hd 13 (by decide)).1] at gg41;refine skipG_ (by simp [Region.wanted, yielded, gg41]) (hK.out _ _ (Below.refl _ _) rfl)
    ·refine At.of _ rfl (fun e_ a w hC hd hb K hK => ?_)
     have gg41 := (hd 13 (by decide)).2 41 rfl;rw [show e_ 13 = _ from (hd 13 (by decide)).1] at gg41;refine skipG_ (by simp [Region.wanted, yielded, gg41]) (hK.out _ _ (Below.refl _ _) rfl)
    ·refine At.of _ rfl (fun e_ a w hC hd hb K hK => ?_)
     have gg41 := (hd 13 (by decide)).2 41 rfl;rw [show e_ 13 = _ from (hd 13 (by decide)).1] at gg41;refine skipG_ (by simp [Region.wanted, yielded, gg41]) (hK.out _ _ (Below.refl _ _) rfl)
    ·refine At.of _ rfl (fun e_ a w hC hd hb K hK => ?_)
     have gg41 := (hd 13 (by decide)).2 41 rfl;rw [show e_ 13 = _ from (hd 13 (by decide)).1] at gg41;refine skipG_ (by simp [Region.wanted, yielded, gg41]) (hK.out _ _ (Below.refl _ _) rfl)
    ·refine At.of _ rfl (fun e_ a w hC hd hb K hK => ?_)
     have gg41 := (hd 13 (by decide)).2 41 rfl;rw [show e_ 13 = _ from (hd 13 (by decide)).1] at gg41;refine skipG_ (by simp [Region.wanted, yielded, gg41]) (hK.out _ _ (Below.refl _ _) rfl)
    ·refine At.of _ rfl (fun e_ a w hC hd hb K hK => ?_)
     have q41 := (hd 13 (by decide)).2 41 rfl;rw [show e_ 13 = _ from (hd 13 (by decide)).1] at q41;have q55 := (hd 27 (by decide)).2 55 rfl;rw [show e_ 27 = _ from (hd 27 (by decide)).1] at q55;refine value_ (w1 := w) (v := .bool true) (by rfl) rfl ?_ (hK.out _ _ (Below.refl _ _) rfl);clear hC hd hb hK
     first | (go_simp; done) | (go_simp; rfl)
    ·intro e_ w10 C hr
     have r28 : e_ 28 = .bool true := hr.2;simp only [fill, Act.put, r28, if_true, List.setIfInBounds_toArray, List.set_cons_zero, List.set_cons_succ]
     have hb10 := (show Below w3.heap.size w3 w10 from C.2.2.2.2.2.2.1)
     clear hr r28 C
     go_wp2_with fail
     go_ret;exact ⟨rfl, below_step CB.out hb10⟩
theorem r11_Same (u v : Value) (x y : TR) (L : Nat) (w0 : World) (h : Kv kTR (fun _ => True) w0 u x) (h' : Kv kTR (fun _ => True) w0 v y) (hx : DIn L x) (hy : DIn L y) (hL : L ≤ 200000) :
  Calls Tryd.prog 28 #[u, v] w0 fun e w' => e = .returned (.bool (decide (nv x.f0 = nv y.f0 ∧ psR x.f1 = psR y.f1))) ∧ Below w0.heap.size w0 w' := by
 by_cases hk : nv x.f0 = nv y.f0
 ·have h0 : sgn (nv x.f0 - nv y.f0) = 0 := by unfold sgn; rw [if_neg (by omega), if_pos (by omega)]
  by_cases hl : x.f1.length = y.f1.length
  ·have := r11_Same_e u v x y L w0 h h' hx hy hL h0 hl
   simpa only [hk, true_and] using this
  ·have h1 : psR x.f1 ≠ psR y.f1 := fun he => hl (by have := congrArg List.length he; rwa [psR_len, psR_len] at this)
   have := r11_Same_l u v x y L w0 h h' hx hy hL h0 hl
   rwa [decide_eq_false (fun hh => h1 hh.2)]
 ·rw [decide_eq_false (fun hh => hk hh.1)]
  by_cases hlt : nv x.f0 < nv y.f0
  ·exact r11_Same_k1 u v x y L w0 h h' hx hy hL (by unfold sgn; rw [if_pos (by omega)])
  ·exact r11_Same_k2 u v x y L w0 h h' hx hy hL (by unfold sgn; rw [if_neg (by omega), if_neg (by omega)])
end Go.Proofs.YthpgjgmaamcaoaaDoor.P.R
end
