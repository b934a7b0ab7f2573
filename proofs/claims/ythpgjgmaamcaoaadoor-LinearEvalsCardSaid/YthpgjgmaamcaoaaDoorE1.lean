/- Walks and words of this session, put together by a program of this session (pack.py). Conditions: as each text says. -/
import Derived.Test.YthpgjgmaamcaoaaDoorProg
import Derived.Below
import Derived.Deep.Draws
import Derived.Deep.AppendLies
import Derived.Maps.AppendAt
import Derived.OwnWalk
import Derived.Laws.BytesArg
import Derived.Laws.MakeOwn
import Derived.Laws.OwnMore
import Derived.Deep.OwnRows
import Derived.Tactics
import Derived.Lib.ConvBytes
import Derived.Laws.Slices
import Derived.WalkKit
import Derived.KernelRfl
import Derived.RowKit3
import Derived.Deep.LoopGhost
import Derived.Deep.QuietTactic
import Derived.BigQuiet
import Derived.WideLaws
import Derived.Deep.DeepCutAuto
import Derived.Deep.CutBlock
import Derived.Deep.RegionHeld3
import Derived.Laws.Rows
import Derived.Lib.AppendStr
import Derived.ArgAppend
import Derived.Laws.IdiomCopy
import Derived.OrdersHeld
import Derived.Laws.BitsLemmas
import Derived.RowKit
import Derived.Laws.StructEq
import Derived.RangeFuncNested
import Derived.RangeFuncBound
import Derived.RangeFuncCalls
import Derived.RangeFuncLeaves
import Derived.Shelf.Abstract
import Derived.Shelf.RegionOpen
import Derived.OwnWalkIn
import Derived.TacticsInMore
import Derived.LoopNIn
import Derived.LoopIn
import Derived.StillTailTactics
import Derived.Test.YthpgjgmaamcaoaaDoorE0
set_option linter.unusedVariables false
set_option linter.unusedSimpArgs false
section
namespace Go.Proofs.YthpgjgmaamcaoaaDoor.P
open Go.RowKit Go.Proofs.YthpgjgmaamcaoaaDoorW.PrintWords Go.Proofs.YthpgjgmaamcaoaaDoorW.PrintLast Go.Proofs.YthpgjgmaamcaoaaDoorW.PrintMore
attribute [local go_sem] max2_int min2_int max_two min_two max_three min_three max_four min_four
set_option linter.unusedVariables false
set_option linter.unusedSimpArgs false
theorem info3 : (Tryd.prog.info? 3).map (fun i => (i.zero, i.size, i.bytes)) = some (some (.int .i64 0), 1, 8) := by kernel_rfl
theorem info5 : (Tryd.prog.info? 5).map (fun i => (i.zero, i.size, i.bytes)) = some (some (.int .u8 0), 1, 1) := by kernel_rfl
theorem info93 : (Tryd.prog.info? 93).map (fun i => (i.zero, i.size, i.bytes)) = some (some (.int .u32 0), 1, 4) := by kernel_rfl
structure S24 where
 f0 : Bool
 f1 : (List Int)
def z24 : S24 := ⟨false, ([] : List Int)⟩
def k24 : Kd S24 := Kd.iso (Kd.pair Kd.bool (Kd.slice 93 (Kd.int .u32))) (fun x : S24 => (x.f0, x.f1))
theorem k24_heap : Kd.Heap k24 := Kd.heap_iso _ (Kd.heap_pair Kd.heap_bool (Kd.heap_slice 93 (Kd.heap_int .u32)))
theorem k24_open {w : World} {x : S24} {cs : List Value} (h : k24.K w x cs) : ∃ A1 c1, cs = [.bool x.f0, .slice A1 x.f1.length c1] ∧ x.f1.length ≤ c1 ∧ (Kd.int .u32).C w A1 x.f1.length x.f1 := by
 obtain ⟨_, _, rfl, rfl, ⟨A1, c1, rfl, l1, g1⟩⟩ := h;exact ⟨A1, c1, rfl, l1, g1⟩
theorem k24_mk (w : World) (x : S24) {A1 : Option Addr} {c1 : Nat} (l1 : x.f1.length ≤ c1) (g1 : (Kd.int .u32).C w A1 x.f1.length x.f1) : k24.K w x [.bool x.f0, .slice A1 x.f1.length c1] := ⟨[.bool x.f0], [.slice A1 x.f1.length c1], rfl, rfl, ⟨A1, c1, rfl, l1, g1⟩⟩
theorem k24_openF {W : World} {ok : Nat → Prop} {x : S24} {cs : List Value} (h : Kd.FK k24 W ok x cs) : ∃ A1 c1, cs = [.bool x.f0, .slice A1 x.f1.length c1] ∧ x.f1.length ≤ c1 ∧ Kd.F (Kd.int .u32) W ok A1 x.f1.length x.f1 := by
 obtain ⟨A1, c1, rfl, l1, _⟩ := k24_open (Kd.FK_now h);exact ⟨A1, c1, rfl, l1, (fun W' hW => by obtain ⟨A1_, c1_, he, l1_, g1_⟩ := k24_open (h W' hW); injection (Option.some.inj (show some (Value.slice A1 x.f1.length c1) = some (Value.slice A1_ x.f1.length c1_) from congrArg (fun l => l[1]?) he)) with ha_ _ _; rw [ha_]; exact g1_)⟩
theorem k24_mkF (W : World) (ok : Nat → Prop) (x : S24) {A1 : Option Addr} {c1 : Nat} (l1 : x.f1.length ≤ c1) (g1 : Kd.F (Kd.int .u32) W ok A1 x.f1.length x.f1) : Kd.FK k24 W ok x [.bool x.f0, .slice A1 x.f1.length c1] := fun W2 hW => k24_mk W2 x l1 (g1 W2 hW)
structure S44 where
 f0 : Int
 f1 : S24
def z44 : S44 := ⟨(0 : Int), z24⟩
def k44 : Kd S44 := Kd.iso (Kd.pair (Kd.int .i64) k24) (fun x : S44 => (x.f0, x.f1))
theorem k44_heap : Kd.Heap k44 := Kd.heap_iso _ (Kd.heap_pair (Kd.heap_int .i64) k24_heap)
theorem k44_open {w : World} {x : S44} {cs : List Value} (h : k44.K w x cs) : ∃ A2 c2, cs = [.int .i64 x.f0, .bool x.f1.f0, .slice A2 x.f1.f1.length c2] ∧ x.f1.f1.length ≤ c2 ∧ (Kd.int .u32).C w A2 x.f1.f1.length x.f1.f1 := by
 obtain ⟨_, _, rfl, rfl, s1⟩ := h;obtain ⟨A2, c2, rfl, l2, g2⟩ := k24_open s1;exact ⟨A2, c2, rfl, l2, g2⟩
theorem k44_mk (w : World) (x : S44) {A2 : Option Addr} {c2 : Nat} (l2 : x.f1.f1.length ≤ c2) (g2 : (Kd.int .u32).C w A2 x.f1.f1.length x.f1.f1) : k44.K w x [.int .i64 x.f0, .bool x.f1.f0, .slice A2 x.f1.f1.length c2] := ⟨[.int .i64 x.f0], [.bool x.f1.f0, .slice A2 x.f1.f1.length c2], rfl, rfl, (k24_mk w x.f1 l2 g2)⟩
theorem k44_openF {W : World} {ok : Nat → Prop} {x : S44} {cs : List Value} (h : Kd.FK k44 W ok x cs) : ∃ A2 c2, cs = [.int .i64 x.f0, .bool x.f1.f0, .slice A2 x.f1.f1.length c2] ∧ x.f1.f1.length ≤ c2 ∧ Kd.F (Kd.int .u32) W ok A2 x.f1.f1.length x.f1.f1 := by
 obtain ⟨A2, c2, rfl, l2, _⟩ := k44_open (Kd.FK_now h);exact ⟨A2, c2, rfl, l2, (fun W' hW => by obtain ⟨A2_, c2_, he, l2_, g2_⟩ := k44_open (h W' hW); injection (Option.some.inj (show some (Value.slice A2 x.f1.f1.length c2) = some (Value.slice A2_ x.f1.f1.length c2_) from congrArg (fun l => l[2]?) he)) with ha_ _ _; rw [ha_]; exact g2_)⟩
theorem k44_mkF (W : World) (ok : Nat → Prop) (x : S44) {A2 : Option Addr} {c2 : Nat} (l2 : x.f1.f1.length ≤ c2) (g2 : Kd.F (Kd.int .u32) W ok A2 x.f1.f1.length x.f1.f1) : Kd.FK k44 W ok x [.int .i64 x.f0, .bool x.f1.f0, .slice A2 x.f1.f1.length c2] := fun W2 hW => k44_mk W2 x l2 (g2 W2 hW)
structure S34 where
 f0 : Bool
 f1 : (List Int)
def z34 : S34 := ⟨false, ([] : List Int)⟩
def k34 : Kd S34 := Kd.iso (Kd.pair Kd.bool (Kd.slice 3 (Kd.int .i64))) (fun x : S34 => (x.f0, x.f1))
theorem k34_open {w : World} {x : S34} {cs : List Value} (h : k34.K w x cs) : ∃ A1 c1, cs = [.bool x.f0, .slice A1 x.f1.length c1] ∧ x.f1.length ≤ c1 ∧ (Kd.int .i64).C w A1 x.f1.length x.f1 := by
 obtain ⟨_, _, rfl, rfl, ⟨A1, c1, rfl, l1, g1⟩⟩ := h;exact ⟨A1, c1, rfl, l1, g1⟩
theorem k34_mk (w : World) (x : S34) {A1 : Option Addr} {c1 : Nat} (l1 : x.f1.length ≤ c1) (g1 : (Kd.int .i64).C w A1 x.f1.length x.f1) : k34.K w x [.bool x.f0, .slice A1 x.f1.length c1] := ⟨[.bool x.f0], [.slice A1 x.f1.length c1], rfl, rfl, ⟨A1, c1, rfl, l1, g1⟩⟩
theorem k34_openF {W : World} {ok : Nat → Prop} {x : S34} {cs : List Value} (h : Kd.FK k34 W ok x cs) : ∃ A1 c1, cs = [.bool x.f0, .slice A1 x.f1.length c1] ∧ x.f1.length ≤ c1 ∧ Kd.F (Kd.int .i64) W ok A1 x.f1.length x.f1 := by
 obtain ⟨A1, c1, rfl, l1, _⟩ := k34_open (Kd.FK_now h);exact ⟨A1, c1, rfl, l1, (fun W' hW => by obtain ⟨A1_, c1_, he, l1_, g1_⟩ := k34_open (h W' hW); injection (Option.some.inj (show some (Value.slice A1 x.f1.length c1) = some (Value.slice A1_ x.f1.length c1_) from congrArg (fun l => l[1]?) he)) with ha_ _ _; rw [ha_]; exact g1_)⟩
theorem k34_mkF (W : World) (ok : Nat → Prop) (x : S34) {A1 : Option Addr} {c1 : Nat} (l1 : x.f1.length ≤ c1) (g1 : Kd.F (Kd.int .i64) W ok A1 x.f1.length x.f1) : Kd.FK k34 W ok x [.bool x.f0, .slice A1 x.f1.length c1] := fun W2 hW => k34_mk W2 x l1 (g1 W2 hW)
structure S66 where
 f0 : Int
 f1 : S34
def z66 : S66 := ⟨(0 : Int), z34⟩
def k66 : Kd S66 := Kd.iso (Kd.pair (Kd.int .i64) k34) (fun x : S66 => (x.f0, x.f1))
theorem k66_open {w : World} {x : S66} {cs : List Value} (h : k66.K w x cs) : ∃ A2 c2, cs = [.int .i64 x.f0, .bool x.f1.f0, .slice A2 x.f1.f1.length c2] ∧ x.f1.f1.length ≤ c2 ∧ (Kd.int .i64).C w A2 x.f1.f1.length x.f1.f1 := by
 obtain ⟨_, _, rfl, rfl, s1⟩ := h;obtain ⟨A2, c2, rfl, l2, g2⟩ := k34_open s1;exact ⟨A2, c2, rfl, l2, g2⟩
theorem k66_mk (w : World) (x : S66) {A2 : Option Addr} {c2 : Nat} (l2 : x.f1.f1.length ≤ c2) (g2 : (Kd.int .i64).C w A2 x.f1.f1.length x.f1.f1) : k66.K w x [.int .i64 x.f0, .bool x.f1.f0, .slice A2 x.f1.f1.length c2] := ⟨[.int .i64 x.f0], [.bool x.f1.f0, .slice A2 x.f1.f1.length c2], rfl, rfl, (k34_mk w x.f1 l2 g2)⟩
theorem k66_openF {W : World} {ok : Nat → Prop} {x : S66} {cs : List Value} (h : Kd.FK k66 W ok x cs) : ∃ A2 c2, cs = [.int .i64 x.f0, .bool x.f1.f0, .slice A2 x.f1.f1.length c2] ∧ x.f1.f1.length ≤ c2 ∧ Kd.F (Kd.int .i64) W ok A2 x.f1.f1.length x.f1.f1 := by
 obtain ⟨A2, c2, rfl, l2, _⟩ := k66_open (Kd.FK_now h);exact ⟨A2, c2, rfl, l2, (fun W' hW => by obtain ⟨A2_, c2_, he, l2_, g2_⟩ := k66_open (h W' hW); injection (Option.some.inj (show some (Value.slice A2 x.f1.f1.length c2) = some (Value.slice A2_ x.f1.f1.length c2_) from congrArg (fun l => l[2]?) he)) with ha_ _ _; rw [ha_]; exact g2_)⟩
theorem k66_mkF (W : World) (ok : Nat → Prop) (x : S66) {A2 : Option Addr} {c2 : Nat} (l2 : x.f1.f1.length ≤ c2) (g2 : Kd.F (Kd.int .i64) W ok A2 x.f1.f1.length x.f1.f1) : Kd.FK k66 W ok x [.int .i64 x.f0, .bool x.f1.f0, .slice A2 x.f1.f1.length c2] := fun W2 hW => k66_mk W2 x l2 (g2 W2 hW)
structure S78 where
 f0 : Int
 f1 : S24
def z78 : S78 := ⟨(0 : Int), z24⟩
def k78 : Kd S78 := Kd.iso (Kd.pair (Kd.int .i64) k24) (fun x : S78 => (x.f0, x.f1))
theorem k78_heap : Kd.Heap k78 := Kd.heap_iso _ (Kd.heap_pair (Kd.heap_int .i64) k24_heap)
theorem k78_open {w : World} {x : S78} {cs : List Value} (h : k78.K w x cs) : ∃ A2 c2, cs = [.int .i64 x.f0, .bool x.f1.f0, .slice A2 x.f1.f1.length c2] ∧ x.f1.f1.length ≤ c2 ∧ (Kd.int .u32).C w A2 x.f1.f1.length x.f1.f1 := by
 obtain ⟨_, _, rfl, rfl, s1⟩ := h;obtain ⟨A2, c2, rfl, l2, g2⟩ := k24_open s1;exact ⟨A2, c2, rfl, l2, g2⟩
theorem k78_openF {W : World} {ok : Nat → Prop} {x : S78} {cs : List Value} (h : Kd.FK k78 W ok x cs) : ∃ A2 c2, cs = [.int .i64 x.f0, .bool x.f1.f0, .slice A2 x.f1.f1.length c2] ∧ x.f1.f1.length ≤ c2 ∧ Kd.F (Kd.int .u32) W ok A2 x.f1.f1.length x.f1.f1 := by
 obtain ⟨A2, c2, rfl, l2, _⟩ := k78_open (Kd.FK_now h);exact ⟨A2, c2, rfl, l2, (fun W' hW => by obtain ⟨A2_, c2_, he, l2_, g2_⟩ := k78_open (h W' hW); injection (Option.some.inj (show some (Value.slice A2 x.f1.f1.length c2) = some (Value.slice A2_ x.f1.f1.length c2_) from congrArg (fun l => l[2]?) he)) with ha_ _ _; rw [ha_]; exact g2_)⟩
structure S118 where
 f0 : Int
 f1 : S34
def z118 : S118 := ⟨(0 : Int), z34⟩
def k118 : Kd S118 := Kd.iso (Kd.pair (Kd.int .i64) k34) (fun x : S118 => (x.f0, x.f1))
theorem k118_open {w : World} {x : S118} {cs : List Value} (h : k118.K w x cs) : ∃ A2 c2, cs = [.int .i64 x.f0, .bool x.f1.f0, .slice A2 x.f1.f1.length c2] ∧ x.f1.f1.length ≤ c2 ∧ (Kd.int .i64).C w A2 x.f1.f1.length x.f1.f1 := by
 obtain ⟨_, _, rfl, rfl, s1⟩ := h;obtain ⟨A2, c2, rfl, l2, g2⟩ := k34_open s1;exact ⟨A2, c2, rfl, l2, g2⟩
theorem k118_mk (w : World) (x : S118) {A2 : Option Addr} {c2 : Nat} (l2 : x.f1.f1.length ≤ c2) (g2 : (Kd.int .i64).C w A2 x.f1.f1.length x.f1.f1) : k118.K w x [.int .i64 x.f0, .bool x.f1.f0, .slice A2 x.f1.f1.length c2] := ⟨[.int .i64 x.f0], [.bool x.f1.f0, .slice A2 x.f1.f1.length c2], rfl, rfl, (k34_mk w x.f1 l2 g2)⟩
theorem k118_openF {W : World} {ok : Nat → Prop} {x : S118} {cs : List Value} (h : Kd.FK k118 W ok x cs) : ∃ A2 c2, cs = [.int .i64 x.f0, .bool x.f1.f0, .slice A2 x.f1.f1.length c2] ∧ x.f1.f1.length ≤ c2 ∧ Kd.F (Kd.int .i64) W ok A2 x.f1.f1.length x.f1.f1 := by
 obtain ⟨A2, c2, rfl, l2, _⟩ := k118_open (Kd.FK_now h);exact ⟨A2, c2, rfl, l2, (fun W' hW => by obtain ⟨A2_, c2_, he, l2_, g2_⟩ := k118_open (h W' hW); injection (Option.some.inj (show some (Value.slice A2 x.f1.f1.length c2) = some (Value.slice A2_ x.f1.f1.length c2_) from congrArg (fun l => l[2]?) he)) with ha_ _ _; rw [ha_]; exact g2_)⟩
theorem k118_mkF (W : World) (ok : Nat → Prop) (x : S118) {A2 : Option Addr} {c2 : Nat} (l2 : x.f1.f1.length ≤ c2) (g2 : Kd.F (Kd.int .i64) W ok A2 x.f1.f1.length x.f1.f1) : Kd.FK k118 W ok x [.int .i64 x.f0, .bool x.f1.f0, .slice A2 x.f1.f1.length c2] := fun W2 hW => k118_mk W2 x l2 (g2 W2 hW)
end Go.Proofs.YthpgjgmaamcaoaaDoor.P
end
section
namespace Go.Proofs.YthpgjgmaamcaoaaDoor.P
open Go.RowKit Go.Proofs.YthpgjgmaamcaoaaDoorW.PrintWords Go.Proofs.YthpgjgmaamcaoaaDoorW.PrintLast Go.Proofs.YthpgjgmaamcaoaaDoorW.PrintMore
structure UpP where
 p : World → Prop
 up : ∀ W W' : World, p W → Below W.heap.size W W' → p W'
def Ctx : List UpP → World → Prop
 | [], _ => True
 | u :: l, W => u.p W ∧ Ctx l W
theorem Ctx.below {W W' : World} (hb : Below W.heap.size W W') : ∀ {l : List UpP}, Ctx l W → Ctx l W'
 | [], _ => trivial
 | u :: _, h => ⟨u.up W W' h.1 hb, Ctx.below hb h.2⟩
theorem Ctx.alloc {W : World} {l : List UpP} (h : Ctx l W) (o : Obj) : Ctx l (W.alloc o) := h.below (bal (Below.refl _ _) o)
theorem Ctx.drew {W : World} {l : List UpP} (h : Ctx l W) : Ctx l W.drew := h.below (below_drew (Below.refl _ _))
theorem Ctx.drewN {W : World} {l : List UpP} (h : Ctx l W) (n : Nat) : Ctx l (W.drewN n) := h.below (pbdN (Below.refl _ _) n)
theorem Ctx.cons {W : World} {l : List UpP} (u : UpP) (h1 : u.p W) (h : Ctx l W) : Ctx (u :: l) W := ⟨h1, h⟩
def uBlk (g : Nat) (cs : List Value) (t : Nat) : UpP := ⟨fun W => W.heap[g]? = some (.cells cs.toArray t (0, 0)), fun W W' h hb => by
 have hlt : g < W.heap.size := (Array.getElem?_eq_some_iff.1 h).1
 rw [hb.block g hlt]; exact h⟩
def uB (w : World) : UpP := ⟨fun W => Below w.heap.size w W, fun _ _ h hb => below_step h hb⟩
theorem Ctx.blk {W : World} {g : Nat} {cs : List Value} {t : Nat} (h : (uBlk g cs t).p W) (i : Nat) {v : Value} (hv : cs[i]? = some v) : W.cell? ⟨g, i, none⟩ = some v := by
 have h' : W.heap[g]? = some (.cells cs.toArray t (0, 0)) := h
 simp [World.cell?, h', hv]
theorem Ctx.frz {W : World} {g : Nat} {cs : List Value} {t : Nat} (h : (uBlk g cs t).p W) (i : Nat) : W.frozen? ⟨g, i, none⟩ = false := by
 have h' : W.heap[g]? = some (.cells cs.toArray t (0, 0)) := h
 simp [World.frozen?, h']
theorem Ctx.new {W : World} {l : List UpP} {cs : List Value} {t : Nat} (h : Ctx l W) : Ctx (uBlk W.heap.size cs t :: l) (W.alloc (.cells cs.toArray t (0, 0))) :=
 ⟨by show (W.alloc _).heap[W.heap.size]? = _; exact blk_new W _, h.alloc _⟩
end Go.Proofs.YthpgjgmaamcaoaaDoor.P
namespace Go.Proofs.YthpgjgmaamcaoaaDoor.P
open Go.RowKit
theorem absW {P : Program} {c : Code} {Q : Exit → Act → World → Prop} {a : Act} {W : World} (l : List UpP) (h : Ctx l W) (hk : ∀ W', Ctx l W' → c.wp P Q a W') : c.wp P Q a W := hk W h
end Go.Proofs.YthpgjgmaamcaoaaDoor.P
namespace Go.Proofs.YthpgjgmaamcaoaaDoor.P
open Go.RowKit Go.Proofs.YthpgjgmaamcaoaaDoorW.PrintWords
theorem Ctx.put {W : World} {g t : Nat} {cs : List Value} (h : (uBlk g cs t).p W) (i : Nat) (v : Value) : (uBlk g (cs.set i v) t).p (W.setCell ⟨g, i, none⟩ v) := by
 have h' : W.heap[g]? = some (.cells cs.toArray t (0, 0)) := h;exact blk_put h' i v (by simp)
theorem Ctx.far {W : World} {g g' t : Nat} {cs : List Value} (h : (uBlk g cs t).p W) (i : Nat) (v : Value) (hn : g ≠ g') : (uBlk g cs t).p (W.setCell ⟨g', i, none⟩ v) := by
 have h' : W.heap[g]? = some (.cells cs.toArray t (0, 0)) := h;exact blk_far h' hn v
end Go.Proofs.YthpgjgmaamcaoaaDoor.P
namespace Go.Proofs.YthpgjgmaamcaoaaDoor.P
theorem Ctx.nil {W : World} : Ctx [] W := True.intro
end Go.Proofs.YthpgjgmaamcaoaaDoor.P
end
section
namespace Go.Proofs.YthpgjgmaamcaoaaDoor.P
open Go.RowKit Go.Proofs.YthpgjgmaamcaoaaDoorW.PrintWords
def fill : List (Option Tmp) → Nat → (Nat → Value) → (Nat → Bool) → Act → Act
 | [], _, _, _, a => a
 | d :: D, k, e, l, a => fill D (k + 1) e l (if l k then a.put d (e k) else a)
theorem put_comm {a : Act} {d d' : Option Tmp} {v v' : Value} (h : d = none ∨ d' = none ∨ d ≠ d') : (a.put d v).put d' v' = (a.put d' v').put d v := by
 cases d with
 | none => rfl
 | some d =>
  cases d' with
  | none => rfl
  | some d' =>
   have hne : d ≠ d' := by simpa using h
   show Act.mk _ _ = Act.mk _ _
   congr 1
   exact Array.setIfInBounds_comm v v' hne
theorem fill_put {d : Option Tmp} {v : Value} {e : Nat → Value} {l : Nat → Bool} : ∀ (D : List (Option Tmp)) (k : Nat) (a : Act), (∀ x ∈ D, d = none ∨ x = none ∨ d ≠ x) → fill D k e l (a.put d v) = (fill D k e l a).put d v
 | [], _, _, _ => rfl
 | x :: D, k, a, h => by
  simp only [fill]
  have h2 := fun y hy => h y (List.mem_cons_of_mem x hy)
  split
  ·rw [put_comm (h x (List.mem_cons_self ..))]; exact fill_put D (k + 1) _ h2
  ·exact fill_put D (k + 1) _ h2
theorem fill_congr {e e' : Nat → Value} {l l' : Nat → Bool} : ∀ (D : List (Option Tmp)) (k : Nat) (a : Act), (∀ j, k ≤ j → j < k + D.length → l j = l' j ∧ (l j = true → e j = e' j)) → fill D k e l a = fill D k e' l' a
 | [], _, _, _ => rfl
 | x :: D, k, a, h => by
  simp only [fill];obtain ⟨h1, h2⟩ := h k (Nat.le_refl _) (by simp);rw [← h1]
  have hr := fun a => fill_congr (e := e) (e' := e') (l := l) (l' := l') D (k + 1) a (fun j h3 h4 => h j (by omega) (by simp; omega))
  split
  ·rename_i ht; rw [h2 ht]; exact hr _
  ·exact hr _
def apart : List (Option Tmp) → Bool
 | [] => true
 | d :: D => D.all (fun x => d.isNone || x.isNone || d != x) && apart D
theorem apart_all {d x : Option Tmp} {D : List (Option Tmp)} (h : D.all (fun x => d.isNone || x.isNone || d != x) = true) (hx : x ∈ D) : d = none ∨ x = none ∨ d ≠ x := by
 have := List.all_eq_true.1 h x hx;simp only [Bool.or_eq_true, Option.isNone_iff_eq_none, bne_iff_ne, ne_eq] at this;exact (or_assoc.1 this)
theorem fill_set {e : Nat → Value} {l : Nat → Bool} {v : Value} : ∀ (D : List (Option Tmp)) (k i : Nat) (a : Act) (d : Option Tmp), apart D = true → D[i]? = some d → l (k + i) = false →
  (fill D k e l a).put d v = fill D k (fun j => if j = k + i then v else e j) (fun j => if j = k + i then true else l j) a
 | [], _, _, _, _, _, h, _ => by simp at h
 | x :: D, k, 0, a, d, hA, h, hl => by
  obtain rfl : x = d := by simpa using h
  simp only [apart, Bool.and_eq_true] at hA;simp only [Nat.add_zero] at hl ⊢;simp only [fill, hl, if_true, Bool.false_eq_true, if_false];rw [← fill_put D (k + 1) a (fun y hy => apart_all hA.1 hy)];exact fill_congr D (k + 1) _ (fun j h1 h2 => by simp [show ¬ j = k by omega])
 | x :: D, k, i + 1, a, d, hA, h, hl => by
  simp only [apart, Bool.and_eq_true] at hA;simp only [fill, show ¬ k = k + (i + 1) by omega, if_false];have := fill_set (e := e) (l := l) (v := v) D (k + 1) i (if l k = true then a.put x (e k) else a) d hA.2 (by simpa using h) (by rw [show k + 1 + i = k + (i + 1) by omega]; exact hl);rw [show k + 1 + i = k + (i + 1) by omega] at this;exact this
theorem put_at {a : Act} {t : Tmp} {d : Option Tmp} {v : Value} (h : d ≠ some t) : (a.put d v).tmps[t]? = a.tmps[t]? := by
 cases d with
 | none => rfl
 | some d =>
  have hne : d ≠ t := fun e => h (by rw [e])
  show (a.tmps.setIfInBounds d v)[t]? = _
  rw [Array.getElem?_setIfInBounds_ne hne]
theorem fill_other {t : Tmp} {e : Nat → Value} {l : Nat → Bool} : ∀ (D : List (Option Tmp)) (k : Nat) (a : Act), some t ∉ D → (fill D k e l a).tmps[t]? = a.tmps[t]?
 | [], _, _, _ => rfl
 | x :: D, k, a, h => by
  simp only [fill]
  have h1 : x ≠ some t := fun e => h (by rw [e]; exact List.mem_cons_self ..)
  rw [fill_other D (k + 1) _ (fun hx => h (List.mem_cons_of_mem _ hx))]
  split
  ·exact put_at h1
  ·rfl
theorem fill_at {t : Tmp} {e : Nat → Value} {l : Nat → Bool} : ∀ (D : List (Option Tmp)) (k i : Nat) (a : Act), apart D = true → D[i]? = some (some t) → l (k + i) = true → t < a.tmps.size → (fill D k e l a).tmps[t]? = some (e (k + i))
 | [], _, _, _, _, h, _, _ => by simp at h
 | x :: D, k, 0, a, hA, h, hl, ht => by
  obtain rfl : x = some t := by simpa using h
  simp only [apart, Bool.and_eq_true] at hA;simp only [Nat.add_zero] at hl ⊢;simp only [fill, hl, if_true];rw [fill_other D (k + 1) _ (fun hx => by rcases apart_all hA.1 hx with h | h | h <;> simp at h)]
  show (a.tmps.setIfInBounds t (e k))[t]? = _
  simp [ht]
 | x :: D, k, i + 1, a, hA, h, hl, ht => by
  simp only [apart, Bool.and_eq_true] at hA;simp only [fill]
  have := fill_at (e := e) (l := l) D (k + 1) i (if l k = true then a.put x (e k) else a) hA.2 (by simpa using h) (by rw [show k + 1 + i = k + (i + 1) by omega]; exact hl) (by
   split
   ·cases x <;> simp [Act.put, ht]
   ·exact ht)
  rw [show k + 1 + i = k + (i + 1) by omega] at this;exact this
def early (ops : Array Oper) : Bool := (List.range ops.size).all fun i => ((ops[i]?).map fun o => o.after.all fun e => !Region.binds .any e || decide (e.on < i)).getD true
def dsts (ops : Array Oper) : List (Option Tmp) := ops.toList.map (·.dst)
def waits (ops : Array Oper) (k : Nat) : List Nat := ((ops[k]?).map fun o => (o.after.toList.filter (Region.binds .any)).map (·.on)).getD []
def marks (ops : Array Oper) : Nat → List Nat → List Nat
 | 0, m => m
 | k + 1, m => marks ops k (if m.contains k then m ++ waits ops k else m)
section
variable {P : Program} {ops : Array Oper} {Q : Exit → Act → World → Prop}
def Step (P : Program) (ops : Array Oper) (Q : Exit → Act → World → Prop) (a0 : Act) (C : World → Prop) (R : Nat → Value → World → Prop) (i : Nat) : Prop :=
 ∀ o, ops[i]? = some o → ∀ (e : Nat → Value) (a : Act) (w : World), C w → (∀ x ∈ o.after, Region.binds .any x = true → R x.on (e x.on) w ∧ ∀ t, (ops[x.on]?).bind (·.dst) = some t → a.tmps[t]? = some (e x.on)) →
  (∀ t, some t ∉ dsts ops → a.tmps[t]? = a0.tmps[t]?) → ∀ K : Act → World → Prop, (∀ v w', Below w.heap.size w w' → R i v w' → K (a.put o.dst v) w') →
  if Region.wanted o (yielded ops a.tmps) = true then Oper.wp P o a w K Q else K (a.put o.dst undef) w
def lf (l : Array Bool) (j : Nat) : Bool := l.getD j false
theorem ready_mem {l : Array Bool} {i : Nat} (h : i ∈ Region.ready .any ops l) (hs : l.size = ops.size) : ∃ o, ops[i]? = some o ∧ lf l i = false ∧ i < l.size ∧ ∀ x ∈ o.after, Region.binds .any x = true → lf l x.on = true := by
 unfold Region.ready at h;simp only [List.mem_filter, List.mem_range, Bool.and_eq_true, Bool.not_eq_true'] at h;obtain ⟨h1, h2, h3⟩ := h;refine ⟨ops[i], by simp [h1], ?_, by omega, fun x hx hb => ?_⟩
 ·unfold lf
  rw [Array.getD_eq_getD_getElem?] at h2 ⊢;rw [Array.getElem?_eq_getElem (by omega)] at h2 ⊢
  simpa using h2
 ·simp only [Array.getElem?_eq_getElem h1, Option.map_some, Option.getD_some, Array.all_eq_true'] at h3
  have := h3 x hx;rw [hb] at this
  simpa [lf] using this
theorem ready_nil {l : Array Bool} (h : Region.ready .any ops l = []) (hE : early ops = true) (hs : l.size = ops.size) : ∀ j, j < ops.size → lf l j = true := by
 intro j
 induction j using Nat.strongRecOn with
 | _ j ih =>
  intro hj
  cases hl : lf l j with
  | true => rfl
  | false =>
   have hm : j ∈ Region.ready .any ops l := by
    unfold Region.ready;simp only [List.mem_filter, List.mem_range, Bool.and_eq_true, Bool.not_eq_true'];refine ⟨hj, ?_, ?_⟩
    ·unfold lf at hl
     rw [Array.getD_eq_getD_getElem?] at hl ⊢;rw [Array.getElem?_eq_getElem (by omega)] at hl ⊢
     simpa using hl
    ·simp only [Array.getElem?_eq_getElem hj, Option.map_some, Option.getD_some, Array.all_eq_true']
     intro x hx;have h1 := List.all_eq_true.1 hE j (List.mem_range.2 hj);simp only [Array.getElem?_eq_getElem hj, Option.map_some, Option.getD_some, Array.all_eq_true'] at h1
     cases hbx : Region.binds .any x with
     | false => simp
     | true =>
      have h2 := h1 x hx;rw [hbx] at h2;have := ih x.on (by simpa using h2) (by have := (show x.on < j by simpa using h2); omega);unfold lf at this;rw [this]
      simp
   rw [h] at hm;cases hm
theorem waits_mem {k x : Nat} (h : x ∈ waits ops k) : ∃ o, ops[k]? = some o ∧ ∃ y ∈ o.after, Region.binds .any y = true ∧ y.on = x := by
 unfold waits at h
 cases ho : ops[k]? with
 | none => rw [ho] at h; simp at h
 | some o =>
  rw [ho] at h;simp only [Option.map_some, Option.getD_some, List.mem_map, List.mem_filter] at h;obtain ⟨y, ⟨h1, h2⟩, h3⟩ := h;exact ⟨o, rfl, y, by simpa using h1, h2, h3⟩
def Closed (ops : Array Oper) (l : Array Bool) : Prop := ∀ k, lf l k = true → ∀ x ∈ waits ops k, lf l x = true
theorem marks_listed {l : Array Bool} (hc : Closed ops l) : ∀ (k : Nat) (m : List Nat), (∀ x ∈ m, lf l x = true) → ∀ x ∈ marks ops k m, lf l x = true
 | 0, _, h => h
 | k + 1, m, h => by
  unfold marks;refine marks_listed hc k _ ?_
  split
  ·rename_i hk
   intro x hx
   rcases List.mem_append.1 hx with hx | hx
   ·exact h x hx
   ·exact hc k (h k (by simpa using hk)) x hx
  ·exact h
def cnt (l : Nat → Bool) : Nat → Nat
 | 0 => 0
 | k + 1 => cnt l k + (if l k = true then 0 else 1)
theorem cnt_congr {l l' : Nat → Bool} : ∀ n, (∀ j, j < n → l j = l' j) → cnt l n = cnt l' n
 | 0, _ => rfl
 | n + 1, h => by
  simp only [cnt];rw [cnt_congr n (fun j hj => h j (by omega)), h n (by omega)]
theorem cnt_set {l : Nat → Bool} {i : Nat} (hl : l i = false) : ∀ n, i < n → cnt (fun j => if j = i then true else l j) n + 1 = cnt l n
 | n + 1, h => by
  simp only [cnt];by_cases hi : i = n
  ·subst hi
   rw [cnt_congr (l' := l) i (fun j hj => by rw [if_neg (by omega)])]
   simp [hl]
  ·have := cnt_set hl n (by omega)
   simp only [show ¬ n = i by omega, if_false]
   omega
theorem lf_set {l : Array Bool} {i : Nat} (hi : i < l.size) : lf (l.setIfInBounds i true) = fun j => if j = i then true else lf l j := by
 funext j
 unfold lf;rw [Array.getD_eq_getD_getElem?, Array.getD_eq_getD_getElem?];by_cases h : j = i
 ·subst h; simp [hi]
 ·rw [if_neg h, Array.getElem?_setIfInBounds_ne (Ne.symm h)]
def FI (ops : Array Oper) (a0 : Act) (C : World → Prop) (R : Nat → Value → World → Prop) (l : Array Bool) (a : Act) (w : World) : Prop :=
 l.size = ops.size ∧ Closed ops l ∧ C w ∧ ∃ e, a = fill (dsts ops) 0 e (lf l) a0 ∧ ∀ j, lf l j = true → R j (e j) w
section
variable {a0 : Act} {C : World → Prop} {R : Nat → Value → World → Prop}
theorem dst_at {i : Nat} {o : Oper} (h : ops[i]? = some o) : (dsts ops)[i]? = some o.dst := by
 unfold dsts;rw [List.getElem?_map, Array.getElem?_toList, h]
 rfl
theorem fi_step (hA : apart (dsts ops) = true) (hT : ∀ t, some t ∈ dsts ops → t < a0.tmps.size) (hC : ∀ w w', C w → Below w.heap.size w w' → C w') (hR : ∀ j v w w', R j v w → Below w.heap.size w w' → R j v w')
  {l : Array Bool} {a : Act} {w : World} {i : Nat} (hI : FI ops a0 C R l a w) (hi : i ∈ Region.ready .any ops l) (hS : Step P ops Q a0 C R i) {K : Act → World → Prop} (hK : ∀ a' w', FI ops a0 C R (l.setIfInBounds i true) a' w' → K a' w') : wpOp P ops Q i K a w := by
 obtain ⟨hs, hc, hCw, e, rfl, hr⟩ := hI;obtain ⟨o, ho, hli, hisz, hw⟩ := ready_mem hi hs;refine wpOp_step ho (fun K' hK' => ?_);refine hS o ho e _ w hCw (fun x hx hb => ⟨hr _ (hw x hx hb), fun t ht => ?_⟩) (fun t ht => fill_other _ 0 a0 ht) K' (fun v w' hb hv => hK' _ _ (hK _ _ ?_))
 ·cases hox : ops[x.on]? with
  | none => rw [hox] at ht; simp at ht
  | some y =>
   rw [hox] at ht;have hd := dst_at hox;rw [show y.dst = some t from ht] at hd;have := fill_at (e := e) (l := lf l) (dsts ops) 0 x.on a0 hA hd (by rw [Nat.zero_add]; exact hw x hx hb) (hT t (List.mem_of_getElem? hd));rw [Nat.zero_add] at this;exact this
 ·refine ⟨by simp [hs], ?_, hC _ _ hCw hb, fun j => if j = i then v else e j, ?_, fun j hj => ?_⟩
  ·intro k hk x hx
   rw [lf_set hisz] at hk ⊢
   dsimp only at hk ⊢
   by_cases hxi : x = i
   ·rw [if_pos hxi]
   ·rw [if_neg hxi]
    by_cases hki : k = i
    ·subst hki
     obtain ⟨o', ho', y, hy, hyb, rfl⟩ := waits_mem hx;obtain rfl := Option.some.inj (ho.symm.trans ho');exact hw y hy hyb
    ·rw [if_neg hki] at hk
     exact hc k hk x hx
  ·rw [lf_set hisz]
   have := fill_set (e := e) (l := lf l) (v := v) (dsts ops) 0 i a0 o.dst hA (dst_at ho) (by rw [Nat.zero_add]; exact hli)
   simpa using this
  ·rw [lf_set hisz] at hj
   dsimp only at hj ⊢
   by_cases hji : j = i
   ·subst hji; simpa using hv
   ·rw [if_neg hji] at hj ⊢
    exact hR _ _ _ _ (hr j hj) hb
theorem fi_end (hE : early ops = true) {l : Array Bool} {a : Act} {w : World} (hI : FI ops a0 C R l a w) (hr : Region.ready .any ops l = []) : ∃ e, C w ∧ a = fill (dsts ops) 0 e (fun _ => true) a0 ∧ ∀ j, j < ops.size → R j (e j) w := by
 obtain ⟨hs, hc, hCw, e, rfl, hR⟩ := hI;have hall := ready_nil hr hE hs;refine ⟨e, hCw, fill_congr _ 0 a0 (fun j _ hj => ⟨hall j (by simpa [dsts] using hj), fun _ => rfl⟩), fun j hj => hR j (hall j hj)⟩
theorem ready_zero {l : Array Bool} (hs : l.size = ops.size) (h : cnt (lf l) ops.size = 0) : Region.ready .any ops l = [] := by
 cases hr : Region.ready .any ops l with
 | nil => rfl
 | cons i r =>
  obtain ⟨o, ho, hli, hisz, _⟩ := ready_mem (l := l) (i := i) (by rw [hr]; exact List.mem_cons_self ..) hs;have := cnt_set hli ops.size (by omega)
  omega
theorem cnt_next {l : Array Bool} {i : Nat} (hi : i ∈ Region.ready .any ops l) (hs : l.size = ops.size) : cnt (lf (l.setIfInBounds i true)) ops.size + 1 = cnt (lf l) ops.size := by
 obtain ⟨o, ho, hli, hisz, _⟩ := ready_mem hi hs;rw [lf_set hisz];exact cnt_set hli ops.size (by omega)
theorem flow_all (hE : early ops = true) (hA : apart (dsts ops) = true) (hT : ∀ t, some t ∈ dsts ops → t < a0.tmps.size) (hC : ∀ w w', C w → Below w.heap.size w w' → C w') (hR : ∀ j v w w', R j v w → Below w.heap.size w w' → R j v w')
  (hS : ∀ i, i < ops.size → Step P ops Q a0 C R i) (hQ : ∀ e w, C w → (∀ j, j < ops.size → R j (e j) w) → Q .normal (fill (dsts ops) 0 e (fun _ => true) a0) w) :
  ∀ fuel l a w, FI ops a0 C R l a w → cnt (lf l) ops.size ≤ fuel → wpAny P .any ops Q fuel l a w
 | 0, l, a, w, hI, hn => by
  have hr := ready_zero hI.1 (Nat.le_zero.1 hn);obtain ⟨e, hCw, rfl, h⟩ := fi_end hE hI hr;exact ⟨hr, hQ e w hCw h⟩
 | fuel + 1, l, a, w, hI, hn => by
  refine ⟨fun hr => ?_, fun i hi => ?_⟩
  ·obtain ⟨e, hCw, rfl, h⟩ := fi_end hE hI hr
   exact hQ e w hCw h
  ·obtain ⟨o, ho, _, _, _⟩ := ready_mem hi hI.1
   have := cnt_next hi hI.1;exact fi_step hA hT hC hR hI hi (hS i (Array.getElem?_eq_some_iff.1 ho).1) (fun a' w' hI' => flow_all hE hA hT hC hR hS hQ fuel _ a' w' hI' (by omega))
theorem flow_but {m : Nat} (hm : ops.size = m + 1) (hM : (List.range m).all (marks ops m (waits ops m)).contains = true) (hE : early ops = true) (hA : apart (dsts ops) = true) (hT : ∀ t, some t ∈ dsts ops → t < a0.tmps.size) (hC : ∀ w w', C w → Below w.heap.size w w' → C w') (hR : ∀ j v w w', R j v w → Below w.heap.size w w' → R j v w')
  (hS : ∀ i, i < m → Step P ops Q a0 C R i) (hQ : ∀ o, ops[m]? = some o → ∀ e w, C w → (∀ j, j < m → R j (e j) w) → ∀ a, a = fill (dsts ops) 0 e (fun j => decide (j < m)) a0 → ∀ K : Act → World → Prop, (∀ a' w', Q .normal a' w' → K a' w') → if Region.wanted o (yielded ops a.tmps) = true then Oper.wp P o a w K Q else K (a.put o.dst undef) w) :
  ∀ fuel l a w, FI ops a0 C R l a w → lf l m = false → cnt (lf l) ops.size ≤ fuel → wpAny P .any ops Q fuel l a w
 | 0, l, a, w, hI, hl, hn => by
  have := cnt_set hl ops.size (by omega)
  omega
 | fuel + 1, l, a, w, hI, hl, hn => by
  refine ⟨fun hr => ?_, fun i hi => ?_⟩
  ·have := ready_nil hr hE hI.1 m (by omega)
   rw [hl] at this;cases this
  ·obtain ⟨o, ho, hli, hisz, hw⟩ := ready_mem hi hI.1
   have hnx := cnt_next hi hI.1;have hilt := (Array.getElem?_eq_some_iff.1 ho).1;by_cases him : i = m
   ·subst him
    obtain ⟨hs, hc, hCw, e, rfl, hr⟩ := hI
    have hall : ∀ j, j < i → lf l j = true := fun j hj => by
     have h1 := List.all_eq_true.1 hM j (List.mem_range.2 hj);refine marks_listed hc i _ (fun x hx => ?_) j (by simpa using h1);obtain ⟨o', ho', y, hy, hyb, rfl⟩ := waits_mem hx;obtain rfl := Option.some.inj (ho.symm.trans ho');exact hw y hy hyb
    have hnil : Region.ready .any ops (l.setIfInBounds i true) = [] := by
     refine ready_zero (by simp [hs]) ?_
     have hz : ∀ n, (∀ j, j < n → lf (l.setIfInBounds i true) j = true) → cnt (lf (l.setIfInBounds i true)) n = 0 := fun n => by
      induction n with
      | zero => intro _; rfl
      | succ n ih => intro h; simp only [cnt]; rw [ih (fun j hj => h j (by omega)), if_pos (h n (by omega))]
     refine hz _ (fun j hj => ?_);rw [lf_set hisz]
     dsimp only
     by_cases hji : j = i
     ·rw [if_pos hji]
     ·rw [if_neg hji]; exact hall j (by omega)
    refine wpOp_step ho (fun K' hK' => ?_);refine hQ o ho e w hCw (fun j hj => hr j (hall j hj)) _ (fill_congr _ 0 a0 (fun j _ hj => ?_)) K' (fun a' w' hq => hK' _ _ ?_)
    ·have hj2 : j < ops.size := by simpa [dsts] using hj
     refine ⟨?_, fun _ => rfl⟩;by_cases hji : j < i
     ·rw [hall j hji]; simp [hji]
     ·obtain rfl : j = i := by omega
      rw [hl]; simp
    ·cases fuel with
     | zero => exact ⟨hnil, hq⟩
     | succ fuel => exact ⟨fun _ => hq, by rw [hnil]; intro _ h; cases h⟩
   ·refine fi_step hA hT hC hR hI hi (hS i (by omega)) (fun a' w' hI' => flow_but hm hM hE hA hT hC hR hS hQ fuel _ a' w' hI' ?_ (by omega))
    rw [lf_set hisz]
    dsimp only
    rw [if_neg (Ne.symm him)];exact hl
theorem fi_start {w0 : World} (h : C w0) : FI ops a0 C R (Array.replicate ops.size false) a0 w0 := by
 have hl : ∀ j, lf (Array.replicate ops.size false) j = false := fun j => by
  unfold lf;rw [Array.getD_eq_getD_getElem?];rw [Array.getElem?_replicate]
  split <;> rfl
 refine ⟨by simp, fun k hk => ?_, h, fun _ => undef, ?_, fun j hj => ?_⟩
 ·rw [hl] at hk; cases hk
 ·have : ∀ (D : List (Option Tmp)) (k : Nat), fill D k (fun _ => undef) (lf (Array.replicate ops.size false)) a0 = a0 := fun D => by
   induction D with
   | nil => intro _; rfl
   | cons d D ih => intro k; simp only [fill, hl, Bool.false_eq_true, if_false]; exact ih _
  rw [this]
 ·rw [hl] at hj; cases hj
theorem cnt_le {l : Nat → Bool} : ∀ n, cnt l n ≤ n
 | 0 => Nat.le_refl _
 | n + 1 => by
  have := cnt_le (l := l) n;simp only [cnt]
  split <;> omega
theorem flow {id : Nat} {w0 : World} (C : World → Prop) (R : Nat → Value → World → Prop) (hm : P.follows .mixedOrders = true) (hE : early ops = true) (hA : apart (dsts ops) = true) (hT : (dsts ops).all (fun d => (d.map fun t => decide (t < a0.tmps.size)).getD true) = true)
  (hC : ∀ w w', C w → Below w.heap.size w w' → C w') (hR : ∀ j v w w', R j v w → Below w.heap.size w w' → R j v w') (h0 : C w0)
  (hS : ∀ i, i < ops.size → Step P ops Q a0 C R i) (hQ : ∀ e w, C w → (∀ j, j < ops.size → R j (e j) w) → Q .normal (fill (dsts ops) 0 e (fun _ => true) a0) w) : (Code.region id ops true).wp P Q a0 w0 :=
 wp_region_any hm (flow_all hE hA (fun t ht => by have := List.all_eq_true.1 hT _ ht; simpa using this) hC hR hS hQ _ _ _ _ (fi_start (hC _ _ h0 (below_drew (Below.refl _ _)))) (cnt_le _))
theorem flow_last {id : Nat} {w0 : World} (m : Nat) (C : World → Prop) (R : Nat → Value → World → Prop) (hn : ops.size = m + 1) (hM : (List.range m).all (marks ops m (waits ops m)).contains = true) (hm : P.follows .mixedOrders = true) (hE : early ops = true) (hA : apart (dsts ops) = true) (hT : (dsts ops).all (fun d => (d.map fun t => decide (t < a0.tmps.size)).getD true) = true)
  (hC : ∀ w w', C w → Below w.heap.size w w' → C w') (hR : ∀ j v w w', R j v w → Below w.heap.size w w' → R j v w') (h0 : C w0)
  (hS : ∀ i, i < m → Step P ops Q a0 C R i) (hQ : ∀ o, ops[m]? = some o → ∀ e w, C w → (∀ j, j < m → R j (e j) w) → ∀ a, a = fill (dsts ops) 0 e (fun j => decide (j < m)) a0 → ∀ K : Act → World → Prop, (∀ a' w', Q .normal a' w' → K a' w') → if Region.wanted o (yielded ops a.tmps) = true then Oper.wp P o a w K Q else K (a.put o.dst undef) w) : (Code.region id ops true).wp P Q a0 w0 :=
 wp_region_any hm (flow_but hn hM hE hA (fun t ht => by have := List.all_eq_true.1 hT _ ht; simpa using this) hC hR hS hQ _ _ _ _ (fi_start (hC _ _ h0 (below_drew (Below.refl _ _)))) (by unfold lf; rw [Array.getD_eq_getD_getElem?, Array.getElem?_replicate]; split <;> rfl) (cnt_le _))
def tabOf (ops : Array Oper) : List (Option Tmp) × List (List Nat) := (dsts ops, (List.range ops.size).map (waits ops))
def earlyW (W : List (List Nat)) : Bool := W.zipIdx.all fun x => x.1.all fun j => decide (j < x.2)
def marksW (W : List (List Nat)) : Nat → List Nat → List Nat
 | 0, m => m
 | k + 1, m => marksW W k (if m.contains k then m ++ W.getD k [] else m)
def Steps (f : Nat → Prop) : Nat → Prop
 | 0 => True
 | n + 1 => Steps f n ∧ f n
theorem Steps.all {f : Nat → Prop} : ∀ {n : Nat}, Steps f n → ∀ i, i < n → f i
 | n + 1, h, i, hi => by
  by_cases hn : i = n
  ·subst hn; exact h.2
  ·exact h.1.all i (by omega)
def At (P : Program) (ops : Array Oper) (Q : Exit → Act → World → Prop) (D : List (Option Tmp)) (W : List (List Nat)) (a0 : Act) (C : World → Prop) (R : Nat → Value → World → Prop) (i : Nat) : Prop :=
 ∀ (e : Nat → Value) (a : Act) (w : World), C w → (∀ j, j ∈ W.getD i [] → R j (e j) w ∧ ∀ t, D[j]? = some (some t) → a.tmps[t]? = some (e j)) → (∀ t, some t ∉ D → a.tmps[t]? = a0.tmps[t]?) →
  ∀ K : Act → World → Prop, Sdq (∀ v w', Below w.heap.size w w' → R i v w' → K (a.put (D.getD i none) v) w') →
  match ops[i]? with
  | some o => if Region.wanted o (yielded ops a.tmps) = true then Oper.wp P o a w K Q else K (a.put (D.getD i none) undef) w
  | none => True
theorem waits_tab {D : List (Option Tmp)} {W : List (List Nat)} (h : tabOf ops = (D, W)) (i : Nat) (hi : i < ops.size) : W.getD i [] = waits ops i := by
 have h2 : (List.range ops.size).map (waits ops) = W := congrArg Prod.snd h;rw [← h2, List.getD_eq_getElem?_getD]
 simp [hi]
theorem dst_tab {D : List (Option Tmp)} {W : List (List Nat)} (h : tabOf ops = (D, W)) {i : Nat} {o : Oper} (ho : ops[i]? = some o) : D.getD i none = o.dst := by
 have h2 : dsts ops = D := congrArg Prod.fst h;rw [← h2, List.getD_eq_getElem?_getD, dst_at ho]
 rfl
theorem early_tab {D : List (Option Tmp)} {W : List (List Nat)} (h : tabOf ops = (D, W)) (hE : earlyW W = true) : early ops = true := by
 have h2 : (List.range ops.size).map (waits ops) = W := congrArg Prod.snd h;unfold early
 refine List.all_eq_true.2 fun i hi => ?_
 have hi := List.mem_range.1 hi;rw [Array.getElem?_eq_getElem hi];simp only [Option.map_some, Option.getD_some, Array.all_eq_true'];intro x hx
 cases hb : Region.binds .any x with
 | false => simp
 | true =>
  have hw : x.on ∈ W.getD i [] := by
   rw [waits_tab h i hi];unfold waits;rw [Array.getElem?_eq_getElem hi];simp only [Option.map_some, Option.getD_some, List.mem_map, List.mem_filter];exact ⟨x, ⟨by simpa using hx, hb⟩, rfl⟩
  have hl : i < W.length := by rw [← h2]; simpa using hi
  have := List.all_eq_true.1 hE (W[i], i) (by
   rw [List.mem_iff_getElem?]
   exact ⟨i, by simp [hl]⟩)
  have h3 := List.all_eq_true.1 this x.on (by rw [List.getD_eq_getElem?_getD] at hw; simpa [hl] using hw)
  simpa using h3
theorem marks_tab {D : List (Option Tmp)} {W : List (List Nat)} (h : tabOf ops = (D, W)) : ∀ k m, k ≤ ops.size → marks ops k m = marksW W k m
 | 0, _, _ => rfl
 | k + 1, m, hk => by
  simp only [marks, marksW];rw [waits_tab h k (by omega), marks_tab h k _ (by omega)]
theorem step_at {D : List (Option Tmp)} {W : List (List Nat)} (h : tabOf ops = (D, W)) {i : Nat} (hs : At P ops Q D W a0 C R i) : Step P ops Q a0 C R i := by
 intro o ho e a w hC hd hb K hK;have hD : dsts ops = D := congrArg Prod.fst h;have hi := (Array.getElem?_eq_some_iff.1 ho).1;have := hs e a w hC (fun j hj => ?_) (fun t ht => hb t (by rw [hD]; exact ht)) K ⟨fun v w' h1 h2 => by rw [dst_tab h ho]; exact hK v w' h1 h2⟩
 ·rw [ho, dst_tab h ho] at this
  exact this
 ·rw [waits_tab h i hi] at hj
  obtain ⟨o', ho', y, hy, hyb, rfl⟩ := waits_mem hj;obtain rfl := Option.some.inj (ho.symm.trans ho');obtain ⟨h1, h2⟩ := hd y hy hyb;refine ⟨h1, fun t ht => h2 t ?_⟩
  cases hy2 : ops[y.on]? with
  | none =>
   rw [← hD] at ht;unfold dsts at ht;rw [List.getElem?_map, Array.getElem?_toList, hy2] at ht
   simp at ht
  | some oy =>
   have := dst_at hy2;rw [hD, ht] at this
   simpa using (Option.some.inj this).symm
theorem flowT {id n : Nat} {w0 : World} {D : List (Option Tmp)} {W : List (List Nat)} (h : tabOf ops = (D, W)) (hn : ops.size = n) (C : World → Prop) (R : Nat → Value → World → Prop) (hm : P.follows .mixedOrders = true) (hc : (earlyW W && apart D && D.all (fun d => (d.map fun t => decide (t < a0.tmps.size)).getD true)) = true)
  (hC : ∀ w w', C w → Below w.heap.size w w' → C w') (hR : ∀ j v w w', R j v w → Below w.heap.size w w' → R j v w') (h0 : C w0)
  (hS : Steps (At P ops Q D W a0 C R) n) (hQ : ∀ e w, C w → Steps (fun j => R j (e j) w) n → Q .normal (fill D 0 e (fun _ => true) a0) w) : (Code.region id ops true).wp P Q a0 w0 := by
 subst hn;simp only [Bool.and_eq_true] at hc;have hD : dsts ops = D := congrArg Prod.fst h;refine flow C R hm (early_tab h hc.1.1) (by rw [hD]; exact hc.1.2) (by rw [hD]; exact hc.2) hC hR h0 (fun i hi => step_at h (hS.all i hi)) (fun e w hCw hr => ?_);rw [hD];refine hQ e w hCw ?_
 have hall : ∀ n, n ≤ ops.size → Steps (fun j => R j (e j) w) n := fun n => by
  induction n with
  | zero => intro _; trivial
  | succ n ih => intro hn; exact ⟨ih (by omega), hr n (by omega)⟩
 exact hall _ (Nat.le_refl _)
theorem flowL {id m : Nat} {w0 : World} {D : List (Option Tmp)} {W : List (List Nat)} (h : tabOf ops = (D, W)) (hn : ops.size = m + 1) (C : World → Prop) (R : Nat → Value → World → Prop) (hm : P.follows .mixedOrders = true) (hc : (earlyW W && apart D && D.all (fun d => (d.map fun t => decide (t < a0.tmps.size)).getD true) && (List.range m).all (marksW W m (W.getD m [])).contains) = true)
  (hC : ∀ w w', C w → Below w.heap.size w w' → C w') (hR : ∀ j v w w', R j v w → Below w.heap.size w w' → R j v w') (h0 : C w0)
  (hS : Steps (At P ops Q D W a0 C R) m) (o : Oper) (ho : ops[m]? = some o) (hQ : ∀ e w, C w → Steps (fun j => R j (e j) w) m → ∀ a, a = fill D 0 e (fun j => decide (j < m)) a0 → ∀ K : Act → World → Prop, Sdq (∀ a' w', Q .normal a' w' → K a' w') → if Region.wanted o (yielded ops a.tmps) = true then Oper.wp P o a w K Q else K (a.put o.dst undef) w) : (Code.region id ops true).wp P Q a0 w0 := by
 simp only [Bool.and_eq_true] at hc;have hD : dsts ops = D := congrArg Prod.fst h;refine flow_last m C R hn (by rw [marks_tab h m _ (by omega), ← waits_tab h m (by omega)]; exact hc.2) hm (early_tab h hc.1.1.1) (by rw [hD]; exact hc.1.1.2) (by rw [hD]; exact hc.1.2) hC hR h0 (fun i hi => step_at h (hS.all i hi)) (fun o' ho' e w hCw hr a ha K hK => ?_);obtain rfl := Option.some.inj (ho.symm.trans ho');rw [hD] at ha;refine hQ e w hCw ?_ a ha K ⟨hK⟩
 have hall : ∀ n, n ≤ m → Steps (fun j => R j (e j) w) n := fun n => by
  induction n with
  | zero => intro _; trivial
  | succ n ih => intro hn; exact ⟨ih (by omega), hr n (by omega)⟩
 exact hall _ (Nat.le_refl _)
theorem At.of {D : List (Option Tmp)} {W : List (List Nat)} {i : Nat} (o : Oper) (ho : ops[i]? = some o) (h : ∀ (e : Nat → Value) (a : Act) (w : World), C w → (∀ j, j ∈ W.getD i [] → R j (e j) w ∧ ∀ t, D[j]? = some (some t) → a.tmps[t]? = some (e j)) → (∀ t, some t ∉ D → a.tmps[t]? = a0.tmps[t]?) →
  ∀ K : Act → World → Prop, Sdq (∀ v w', Below w.heap.size w w' → R i v w' → K (a.put (D.getD i none) v) w') → if Region.wanted o (yielded ops a.tmps) = true then Oper.wp P o a w K Q else K (a.put (D.getD i none) undef) w) : At P ops Q D W a0 C R i := by
 intro e a w h1 h2 h3 K h4;rw [ho];exact h e a w h1 h2 h3 K h4
end
def Rl (l : List (Value → UpP)) (j : Nat) (v : Value) (w : World) : Prop := match l[j]? with
 | some u => (u v).p w
 | none => True
theorem Rl.up (l : List (Value → UpP)) (j : Nat) (v : Value) (w w' : World) (h : Rl l j v w) (hb : Below w.heap.size w w') : Rl l j v w' := by
 unfold Rl at *
 split
 ·rename_i u hu
  rw [hu] at h;exact (u v).up w w' h hb
 ·trivial
def uEq (c v : Value) : UpP := ⟨fun _ => v = c, fun _ _ h _ => h⟩
end
end Go.Proofs.YthpgjgmaamcaoaaDoor.P
end
section
namespace Go.Proofs.YthpgjgmaamcaoaaDoor.P
open Go.RowKit Go.Proofs.YthpgjgmaamcaoaaDoorW.PrintWords
section
variable {P : Program} {ops : Array Oper} {Q : Exit → Act → World → Prop} {a0 : Act} {C : World → Prop} {G : Nat → World → Prop} {R : Nat → Option Nat → Value → World → Prop} {p : Nat} {Z : Obj}
def AtX (P : Program) (ops : Array Oper) (Q : Exit → Act → World → Prop) (D : List (Option Tmp)) (W : List (List Nat)) (a0 : Act) (C : World → Prop) (G : Nat → World → Prop) (p : Nat) (R : Nat → Option Nat → Value → World → Prop) (i : Nat) : Prop :=
 i ≠ p → ∀ (b : Option Nat) (e : Nat → Value) (a : Act) (w : World), C w → (∀ g, b = some g → G g w) → (∀ j, j ∈ W.getD i [] → (j ≠ p → R j b (e j) w) ∧ ∀ t, D[j]? = some (some t) → a.tmps[t]? = some (e j)) → (∀ t, some t ∉ D → a.tmps[t]? = a0.tmps[t]?) →
  ∀ K : Act → World → Prop, Sdq (∀ v w', Below w.heap.size w w' → R i b v w' → K (a.put (D.getD i none) v) w') →
  match ops[i]? with
  | some o => if Region.wanted o (yielded ops a.tmps) = true then Oper.wp P o a w K Q else K (a.put (D.getD i none) undef) w
  | none => True
theorem AtX.of {D : List (Option Tmp)} {W : List (List Nat)} {i : Nat} (o : Oper) (ho : ops[i]? = some o) (h : ∀ (b : Option Nat) (e : Nat → Value) (a : Act) (w : World), C w → (∀ g, b = some g → G g w) → (∀ j, j ∈ W.getD i [] → (j ≠ p → R j b (e j) w) ∧ ∀ t, D[j]? = some (some t) → a.tmps[t]? = some (e j)) → (∀ t, some t ∉ D → a.tmps[t]? = a0.tmps[t]?) →
  ∀ K : Act → World → Prop, Sdq (∀ v w', Below w.heap.size w w' → R i b v w' → K (a.put (D.getD i none) v) w') → if Region.wanted o (yielded ops a.tmps) = true then Oper.wp P o a w K Q else K (a.put (D.getD i none) undef) w) : AtX P ops Q D W a0 C G p R i := by
 intro _ b e a w h1 h1' h2 h3 K h4;rw [ho];exact h b e a w h1 h1' h2 h3 K h4
end
structure UpX where
 p : (Nat → Prop) → Value → World → Prop
 up : ∀ O v w w', p O v w → Below w.heap.size w w' → p O v w'
 bd : ∀ (O O' : Nat → Prop) v w, p O v w → (∀ k, O k → k < w.heap.size → O' k) → p O' v w
def Rx (l : List UpX) (O : Nat → Prop) (j : Nat) (b : Option Nat) (v : Value) (w : World) : Prop := match l[j]? with
 | some u => u.p (fun k => O k ∧ b ≠ some k) v w
 | none => True
theorem Rx.up (l : List UpX) (O : Nat → Prop) (j : Nat) (b : Option Nat) (v : Value) (w w' : World) (h : Rx l O j b v w) (hb : Below w.heap.size w w') : Rx l O j b v w' := by
 unfold Rx at *
 split
 ·rename_i u hu
  rw [hu] at h;exact u.up _ v w w' h hb
 ·trivial
theorem Rx.laid (l : List UpX) (O : Nat → Prop) (Z : Obj) (j : Nat) (v : Value) (w : World) (h : Rx l O j none v w) : Rx l O j (some w.heap.size) v (w.alloc Z) := by
 unfold Rx at *
 split
 ·rename_i u hu
  rw [hu] at h;exact u.up _ v w _ (u.bd _ _ v w h (fun k hk hlt => ⟨hk.1, fun e => by have := Option.some.inj e; omega⟩)) (bal (Below.refl _ _) _)
 ·trivial
end Go.Proofs.YthpgjgmaamcaoaaDoor.P
end
section
namespace Go.Proofs.YthpgjgmaamcaoaaDoor.P
open Go.RowKit Go.Proofs.YthpgjgmaamcaoaaDoorW.PrintWords Go.Proofs.YthpgjgmaamcaoaaDoorW.PrintLast Go.Proofs.YthpgjgmaamcaoaaDoorW.PrintMore
def Kv {α : Type} (d : Kd α) (ok : Nat → Prop) (w : World) (v : Value) (x : α) : Prop := ∃ cs : List Value, v = .agg cs.toArray ∧ Kd.FK d w ok x cs
section
variable {α : Type} {d : Kd α} {ok ok' : Nat → Prop} {w w' : World} {v : Value} {x : α}
theorem Kv.below (h : Kv d ok w v x) (hb : Below w.heap.size w w') : Kv d ok w' v x := by
 obtain ⟨cs, rfl, hk⟩ := h;exact ⟨cs, rfl, Kd.FK_below hk hb⟩
theorem Kv.alloc (h : Kv d ok w v x) (o : Obj) : Kv d ok (w.alloc o) v x := h.below (bal (Below.refl _ _) o)
theorem Kv.mono (h : Kv d ok w v x) (hok : ∀ k, ok k → ok' k) : Kv d ok' w v x := by
 obtain ⟨cs, rfl, hk⟩ := h;exact ⟨cs, rfl, Kd.FK_mono hk hok⟩
theorem Kv.far (h : Kv d ok w v x) {p : Addr} (hok : ∀ k, ok k → k ≠ p.block) (u : Value) : Kv d ok (w.setCell p u) v x := by
 obtain ⟨cs, rfl, hk⟩ := h;exact ⟨cs, rfl, Kd.FK_step hk (fun k hk _ => Below.heap_setCell w p u k (hok k hk))⟩
def uK (d : Kd α) (ok : Nat → Prop) (v : Value) (x : α) : UpP := ⟨fun W => Kv d ok W v x, fun _ _ h hb => h.below hb⟩
def uKd (d : Kd α) (ok : Nat → Prop) (x : α) (v : Value) : UpP := ⟨fun W => Kv d ok W v x, fun _ _ h hb => h.below hb⟩
def Cv (d : Kd α) (ok : Nat → Prop) (w : World) (v : Value) (xs : List α) : Prop := ∃ A c, v = .slice A xs.length c ∧ xs.length ≤ c ∧ Kd.F d w ok A xs.length xs
def uCv (d : Kd α) (ok : Nat → Prop) (xs : List α) (v : Value) : UpP := ⟨fun W => Cv d ok W v xs, fun _ _ h hb => by obtain ⟨A, c, e, hc, h⟩ := h; exact ⟨A, c, e, hc, Kd.F_below h hb⟩⟩
end
def KPost {α : Type} (d : Kd α) (ok : Nat → Prop) (w : World) (x : α) (e : Ending) (w' : World) : Prop := ∃ v, e = .returned v ∧ Kv d ok w' v x ∧ Below w.heap.size w w'
theorem Kv.bound {α : Type} {d : Kd α} {ok : Nat → Prop} {w : World} {v : Value} {x : α} (h : Kv d ok w v x) : Kv d (fun k => ok k ∧ k < w.heap.size) w v x := by
 obtain ⟨cs, rfl, hk⟩ := h;exact ⟨cs, rfl, Kd.FK_bound hk⟩
theorem Kv.within {α : Type} {d : Kd α} {ok ok' : Nat → Prop} {w : World} {v : Value} {x : α} (h : Kv d ok w v x) (hm : ∀ k, ok k → k < w.heap.size → ok' k) : Kv d ok' w v x := h.bound.mono (fun k hk => hm k hk.1 hk.2)
end Go.Proofs.YthpgjgmaamcaoaaDoor.P
end
section
namespace Go.Proofs.YthpgjgmaamcaoaaDoor.Nm
def val (B : Int) : List Int → Int
 | [] => 0
 | x :: r => x + B * val B r
def Dg (B : Int) (l : List Int) : Prop := ∀ x ∈ l, 0 ≤ x ∧ x < B
variable {B : Int}
@[simp] theorem val_nil : val B [] = 0 := rfl
theorem val_cons (x : Int) (r : List Int) : val B (x :: r) = x + B * val B r := rfl
theorem Dg.nil : Dg B [] := fun _ h => by cases h
theorem Dg.cons {x : Int} {r : List Int} (hx : 0 ≤ x ∧ x < B) (h : Dg B r) : Dg B (x :: r) := fun y hy => by
 rcases List.mem_cons.1 hy with rfl | hy
 ·exact hx
 ·exact h y hy
theorem Dg.head {x : Int} {r : List Int} (h : Dg B (x :: r)) : 0 ≤ x ∧ x < B := h x (List.mem_cons_self ..)
theorem Dg.tail {x : Int} {r : List Int} (h : Dg B (x :: r)) : Dg B r := fun y hy => h y (List.mem_cons_of_mem _ hy)
theorem Dg.append {a b : List Int} (ha : Dg B a) (hb : Dg B b) : Dg B (a ++ b) := fun x hx => (List.mem_append.1 hx).elim (ha x) (hb x)
theorem Dg.left {a b : List Int} (h : Dg B (a ++ b)) : Dg B a := fun x hx => h x (List.mem_append.2 (.inl hx))
theorem Dg.right {a b : List Int} (h : Dg B (a ++ b)) : Dg B b := fun x hx => h x (List.mem_append.2 (.inr hx))
theorem Dg.take {a : List Int} (h : Dg B a) (n : Nat) : Dg B (a.take n) := fun x hx => h x (List.mem_of_mem_take hx)
theorem Dg.drop {a : List Int} (h : Dg B a) (n : Nat) : Dg B (a.drop n) := fun x hx => h x (List.mem_of_mem_drop hx)
theorem val_append : ∀ (a b : List Int), val B (a ++ b) = val B a + B ^ a.length * val B b
 | [], b => by simp
 | x :: a, b => by
  rw [List.cons_append, val_cons, val_append a b, val_cons, List.length_cons, Int.pow_succ, Int.mul_add, Int.add_assoc];rw [← Int.mul_assoc, Int.mul_comm B (B ^ a.length)]
theorem pow_pos' (hB : 1 ≤ B) (n : Nat) : 1 ≤ B ^ n := by
 induction n with
 | zero => simp
 | succ n ih => rw [Int.pow_succ]; exact Int.le_trans (by simp) (Int.mul_le_mul ih hB (by omega) (by omega))
theorem val_nonneg (hB : 0 ≤ B) : ∀ {l : List Int}, Dg B l → 0 ≤ val B l
 | [], _ => by simp
 | x :: r, h => by
  rw [val_cons];have h1 := h.head.1;have h2 := Int.mul_nonneg hB (val_nonneg hB h.tail)
  omega
theorem val_lt (hB : 1 ≤ B) : ∀ {l : List Int}, Dg B l → val B l < B ^ l.length
 | [], _ => by simp
 | x :: r, h => by
  rw [val_cons, List.length_cons, Int.pow_succ, Int.mul_comm (B ^ r.length)];have h1 := h.head.2;have h2 := val_lt hB h.tail;have h3 : B * (val B r + 1) ≤ B * B ^ r.length := Int.mul_le_mul_of_nonneg_left (by omega) (by omega);rw [Int.mul_add] at h3
  omega
def digF (B : Int) : Nat → Int → List Int
 | 0, _ => []
 | k + 1, n => if n ≤ 0 then [] else n % B :: digF B k (n / B)
def dig (B n : Int) : List Int := digF B n.toNat n
theorem digF_more (hB : 2 ≤ B) : ∀ {k m : Nat} {n : Int}, n.toNat ≤ k → n.toNat ≤ m → digF B k n = digF B m n
 | 0, 0, _, _, _ => rfl
 | 0, m + 1, n, h, _ => by rw [digF, digF, if_pos (by omega)]
 | k + 1, 0, n, _, h => by rw [digF, digF, if_pos (by omega)]
 | k + 1, m + 1, n, h, h' => by
  rw [digF, digF]
  split
  ·rfl
  ·have h1 : n / B < n := Int.ediv_lt_self_of_pos_of_ne_one (by omega) (by omega)
   have h0 : 0 ≤ n / B := Int.ediv_nonneg (by omega) (by omega);rw [digF_more hB (k := k) (m := m) (by omega) (by omega)]
theorem dig_zero : dig B 0 = [] := rfl
theorem dig_neg {n : Int} (h : n ≤ 0) : dig B n = [] := by
 unfold dig;rw [show n.toNat = 0 by omega]
 rfl
theorem dig_succ (hB : 2 ≤ B) {n : Int} (h : 0 < n) : dig B n = n % B :: dig B (n / B) := by
 unfold dig;have h1 : n / B < n := Int.ediv_lt_self_of_pos_of_ne_one (by omega) (by omega);have h0 : 0 ≤ n / B := Int.ediv_nonneg (by omega) (by omega);rw [show n.toNat = (n.toNat - 1) + 1 by omega, digF, if_neg (by omega), digF_more hB (k := n.toNat - 1) (m := (n / B).toNat) (by omega) (Nat.le_refl _)]
theorem dig_Dg (hB : 2 ≤ B) (n : Int) : Dg B (dig B n) := by
 by_cases h : n ≤ 0
 ·rw [dig_neg h]; exact Dg.nil
 ·rw [dig_succ hB (by omega)]
  have h1 : n / B < n := Int.ediv_lt_self_of_pos_of_ne_one (by omega) (by omega);have h0 : 0 ≤ n / B := Int.ediv_nonneg (by omega) (by omega);exact Dg.cons ⟨Int.emod_nonneg _ (by omega), Int.emod_lt_of_pos _ (by omega)⟩ (dig_Dg hB (n / B))
termination_by n.toNat
decreasing_by omega
theorem val_dig (hB : 2 ≤ B) (n : Int) (hn : 0 ≤ n) : val B (dig B n) = n := by
 by_cases h : n ≤ 0
 ·rw [dig_neg h]; simp; omega
 ·rw [dig_succ hB (by omega), val_cons]
  have h1 : n / B < n := Int.ediv_lt_self_of_pos_of_ne_one (by omega) (by omega);have h0 : 0 ≤ n / B := Int.ediv_nonneg (by omega) (by omega);rw [val_dig hB (n / B) h0];exact Int.emod_add_mul_ediv n B
termination_by n.toNat
decreasing_by omega
def Tm (l : List Int) : Prop := ∀ x, l.getLast? = some x → x ≠ 0
theorem Tm.nil : Tm [] := fun x h => by simp at h
theorem Tm.tail {x : Int} {r : List Int} (h : Tm (x :: r)) : Tm r := fun y hy => h y (by
 cases r with
 | nil => simp at hy
 | cons z r => rw [List.getLast?_cons_cons]; exact hy)
theorem val_pos (hB : 1 ≤ B) : ∀ {l : List Int}, Dg B l → Tm l → l ≠ [] → 0 < val B l
 | [x], h, ht, _ => by
  have h1 := h.head.1;have h2 := ht x rfl
  simp [val_cons]; omega
 | x :: y :: r, h, ht, _ => by
  rw [val_cons];have h1 := h.head.1;have h2 := val_pos hB h.tail ht.tail (by simp);have h3 : 0 < B * val B (y :: r) := Int.mul_pos (by omega) h2
  omega
theorem dig_val (hB : 2 ≤ B) : ∀ {l : List Int}, Dg B l → Tm l → dig B (val B l) = l
 | [], _, _ => rfl
 | x :: r, h, ht => by
  have h0 := val_nonneg (B := B) (by omega) h.tail;have hp := val_pos (B := B) (by omega) h ht (by simp);rw [dig_succ hB hp, val_cons]
  have e1 : (x + B * val B r) % B = x := by
   rw [Int.add_mul_emod_self_left]; exact Int.emod_eq_of_lt h.head.1 h.head.2
  have e2 : (x + B * val B r) / B = val B r := by
   rw [Int.add_mul_ediv_left _ _ (by omega), Int.ediv_eq_zero_of_lt h.head.1 h.head.2, Int.zero_add]
  rw [e1, e2, dig_val hB h.tail ht.tail]
theorem dig_Tm (hB : 2 ≤ B) (n : Int) : Tm (dig B n) := by
 by_cases h : n ≤ 0
 ·rw [dig_neg h]; exact Tm.nil
 ·have h1 : n / B < n := Int.ediv_lt_self_of_pos_of_ne_one (by omega) (by omega)
  have h0 : 0 ≤ n / B := Int.ediv_nonneg (by omega) (by omega);have ih := dig_Tm hB (n / B);rw [dig_succ hB (by omega)];intro x hx;by_cases h2 : n / B ≤ 0
  ·rw [dig_neg h2] at hx
   have e : n / B = 0 := by omega
   have := Int.emod_add_mul_ediv n B;rw [e] at this
   simp at hx
   omega
  ·rw [dig_succ hB (n := n / B) (by omega)] at hx ih
   rw [List.getLast?_cons_cons] at hx;exact ih x hx
termination_by n.toNat
decreasing_by omega
def trim : List Int → List Int
 | [] => []
 | x :: r => if trim r = [] ∧ x = 0 then [] else x :: trim r
theorem trim_val : ∀ l : List Int, val B (trim l) = val B l
 | [] => rfl
 | x :: r => by
  rw [trim]
  split
  ·rename_i h
   have := trim_val r;rw [h.1] at this;rw [val_cons, ← this, h.2]; simp
  ·rw [val_cons, val_cons, trim_val r]
theorem trim_Dg {l : List Int} (h : Dg B l) : Dg B (trim l) := by
 induction l with
 | nil => exact h
 | cons x r ih =>
  rw [trim]
  split
  ·exact Dg.nil
  ·exact Dg.cons h.head (ih h.tail)
theorem trim_Tm : ∀ l : List Int, Tm (trim l)
 | [] => Tm.nil
 | x :: r => by
  rw [trim]
  split
  ·exact Tm.nil
  ·rename_i h
   intro y hy
   cases ht : trim r with
   | nil =>
    rw [ht] at hy
    simp at hy
    intro e;exact h ⟨ht, by omega⟩
   | cons z t =>
    have := trim_Tm r;rw [ht] at hy this;rw [List.getLast?_cons_cons] at hy;exact this y hy
theorem trim_dig (hB : 2 ≤ B) {l : List Int} (h : Dg B l) : trim l = dig B (val B l) := by
 rw [← trim_val l, dig_val hB (trim_Dg h) (trim_Tm l)]
theorem trim_self {l : List Int} (h : Tm l) : trim l = l := by
 induction l with
 | nil => rfl
 | cons x r ih =>
  rw [trim, ih h.tail, if_neg];rintro ⟨rfl, rfl⟩;exact h 0 rfl rfl
theorem trim_snoc_zero (l : List Int) : trim (l ++ [0]) = trim l := by
 induction l with
 | nil => rfl
 | cons x r ih => rw [List.cons_append, trim, trim, ih]
theorem trim_snoc {l : List Int} {x : Int} (h : x ≠ 0) : trim (l ++ [x]) = l ++ [x] := trim_self (fun y hy => by simp at hy; omega)
theorem trim_length (l : List Int) : (trim l).length ≤ l.length := by
 induction l with
 | nil => exact Nat.le_refl _
 | cons x r ih =>
  rw [trim]
  split
  ·simp
  ·simp; exact ih
theorem trim_take (l : List Int) : trim l = l.take (trim l).length := by
 induction l with
 | nil => rfl
 | cons x r ih =>
  rw [trim]
  split
  ·rfl
  ·rw [List.length_cons, List.take_succ_cons, ← ih]
theorem dig_len (hB : 2 ≤ B) {n : Int} {k : Nat} (h : n < B ^ k) : (dig B n).length ≤ k := by
 by_cases h0 : n ≤ 0
 ·rw [dig_neg h0]; simp
 ·refine Classical.byContradiction fun hc => ?_
  have h1 := dig_Dg hB n;have hp := val_dig hB n (by omega)
  have : B ^ k ≤ val B (dig B n) := by
   have e : dig B n = (dig B n).take k ++ (dig B n).drop k := (List.take_append_drop k _).symm
   have ht : 0 < val B ((dig B n).drop k) := val_pos (by omega) (h1.drop k) (fun x hx => dig_Tm hB n x (by
    rw [e, List.getLast?_append, hx]; rfl)) (fun hn => by
     have := congrArg List.length hn
     simp at this; omega)
   rw [e, val_append];have h3 := val_nonneg (B := B) (by omega) (h1.take k);rw [List.length_take, Nat.min_eq_left (by omega)];have h4 : B ^ k * 1 ≤ B ^ k * val B ((dig B n).drop k) := Int.mul_le_mul_of_nonneg_left (by omega) (Int.le_trans (by omega) (pow_pos' (B := B) (by omega) k))
   omega
  omega
end Go.Proofs.YthpgjgmaamcaoaaDoor.Nm
end
section
namespace Go.Proofs.YthpgjgmaamcaoaaDoor.P
open Go.RowKit Go.Proofs.YthpgjgmaamcaoaaDoorW.PrintWords Go.Proofs.YthpgjgmaamcaoaaDoorW.PrintLast Go.Proofs.YthpgjgmaamcaoaaDoorW.PrintMore
section
variable {α : Type} {d : Kd α} {ok ok' : Nat → Prop} {w w' : World} {v : Value} {xs : List α}
theorem Cv.below (h : Cv d ok w v xs) (hb : Below w.heap.size w w') : Cv d ok w' v xs := by
 obtain ⟨A, c, e, hc, h⟩ := h;exact ⟨A, c, e, hc, Kd.F_below h hb⟩
theorem Cv.mono (h : Cv d ok w v xs) (hm : ∀ k, ok k → ok' k) : Cv d ok' w v xs := by
 obtain ⟨A, c, e, hc, h⟩ := h;exact ⟨A, c, e, hc, Kd.F_mono h hm⟩
theorem Cv.within (h : Cv d ok w v xs) (hm : ∀ k, ok k → k < w.heap.size → ok' k) : Cv d ok' w v xs := by
 obtain ⟨A, c, e, hc, h⟩ := h;exact ⟨A, c, e, hc, Kd.F_mono (Kd.F_bound h) (fun k hk => hm k hk.1 hk.2)⟩
theorem Cv.nil : Cv d ok w (.slice none 0 0) [] := ⟨none, 0, rfl, Nat.le_refl _, Kd.F_nil d w ok⟩
theorem Cv.ofR {e base : Nat} (h : d.R e w base ok v xs) : Cv d ok w v xs := Kd.R_V (base' := base) h
end
def CPost {α : Type} (d : Kd α) (ok : Nat → Prop) (w : World) (xs : List α) (e : Ending) (w' : World) : Prop := ∃ v, e = .returned v ∧ Cv d ok w' v xs ∧ Below w.heap.size w w'
def IsRow (k : IntKind) (w : World) (A : Option Addr) (xs : List Int) : Prop := ∀ (i : Nat) (hi : i < xs.length), ∃ ad, A = some ad ∧ w.cell? (ad.add i) = some (.int k xs[i])
theorem row_of {k : IntKind} {ok : Nat → Prop} {w : World} {A : Option Addr} {n : Nat} {xs : List Int} (h : Kd.F (Kd.int k) w ok A n xs) : IsRow k w A xs := fun i hi => by
 obtain ⟨ad, c, he, hcl, hK, hcc, _⟩ := Kd.F_get h 0 i (by omega) (by have := Kd.F_len h; omega);have hc : c = [.int k (xs.getD (i : Int).toNat 0)] := Kd.FK_now hK;subst hc;refine ⟨ad, he, ?_⟩;have := hcc 0 _ rfl;rw [show (Kd.int k).sz = 1 from rfl] at this
 simpa [hi] using this
theorem IsRow.below {k : IntKind} {w w' : World} {A : Option Addr} {xs : List Int} (h : IsRow k w A xs) (hb : Below w.heap.size w w') : IsRow k w' A xs := fun i hi => by
 obtain ⟨ad, e, hc⟩ := h i hi;exact ⟨ad, e, pw_cell_below hb hc⟩
theorem row_some {k : IntKind} {w : World} {A : Option Addr} {xs : List Int} (h : IsRow k w A xs) {i : Nat} (hi : i < xs.length) : ∃ ad, A = some ad ∧ ∀ (j : Nat) (hj : j < xs.length), w.cell? (ad.add j) = some (.int k xs[j]) := by
 obtain ⟨ad, e, _⟩ := h i hi;subst e;exact ⟨ad, rfl, fun j hj => by obtain ⟨ad', e, hc⟩ := h j hj; cases e; exact hc⟩
theorem cut_h {P : Program} {t e : TypeId} {i : TypeInfo} (ht : P.underlying t = some (.slice e)) (hi : P.info? e = some i) (A : Option Addr) (n c m : Nat) (hm : m ≤ c) :
  ∀ W : World, (Instr.slice t (.slice A n c) none (some (.int .i64 (m : Int))) none).run P W = .ok (.slice A m c) W := by
 intro W
 have hel : P.elem t = e := by simp [Program.elem, ht]
 have hu : P.underlying t = some (.slice (P.elem t)) := by rw [hel]; exact ht
 have ha : (A.map fun x => x.add 0) = A := by cases A <;> simp [Addr.add]
 rw [run_slice_h W t A n c hu .i64 (m : Int) (Int.natCast_nonneg _) (by omega), hel]
 simp [sizeOf, typeInfo, hi, sliced, Result.andThen, ha]
section
variable {α : Type} {d : Kd α} {ok : Nat → Prop} {w : World} {A : Option Addr} {c : Nat} {xs : List α}
theorem Cv.take (hc : xs.length ≤ c) (h : Kd.F d w ok A xs.length xs) (m : Nat) (hm : m ≤ xs.length) : Cv d ok w (.slice A m c) (xs.take m) :=
 ⟨A, c, by rw [List.length_take, Nat.min_eq_left hm], by rw [List.length_take]; omega, Kd.F_take h hm⟩
theorem Cv.drop (hc : xs.length ≤ c) (h : Kd.F d w ok A xs.length xs) (m : Nat) (hm : m ≤ xs.length) : Cv d ok w (.slice (if c = m then A else A.map (·.add (m * d.sz))) (xs.length - m) (c - m)) (xs.drop m) :=
 ⟨_, c - m, by rw [List.length_drop], by rw [List.length_drop]; omega, Kd.F_cut h hm hc⟩
end
theorem info_of {P : Program} {e : TypeId} {z : Value} {sz b : Nat} (h : (P.info? e).map (fun i => (i.zero, i.size, i.bytes)) = some (some z, sz, b)) : ∃ i, P.info? e = some i ∧ i.size = sz := by
 obtain ⟨i, hi, _, h2, _⟩ := info_parts h;exact ⟨i, hi, h2⟩
end Go.Proofs.YthpgjgmaamcaoaaDoor.P
end
section
namespace Go.Proofs.YthpgjgmaamcaoaaDoor.P
open Go.RowKit Go.Proofs.YthpgjgmaamcaoaaDoorW.PrintWords Go.Proofs.YthpgjgmaamcaoaaDoorW.PrintLast Go.Proofs.YthpgjgmaamcaoaaDoorW.PrintMore Go.Proofs.YthpgjgmaamcaoaaDoor.Nm
theorem trim_step {xs : List Int} {m : Nat} (h : m < xs.length) (h0 : xs[m] = 0) : trim (xs.take (m + 1)) = trim (xs.take m) := by
 rw [List.take_succ_eq_append_getElem h, h0, trim_snoc_zero]
theorem trim_stop {xs : List Int} {m : Nat} (h : m < xs.length) (h0 : xs[m] ≠ 0) : trim (xs.take (m + 1)) = xs.take (m + 1) := by
 rw [List.take_succ_eq_append_getElem h];exact trim_snoc h0
set_option maxRecDepth 100000 in
theorem nat_trim0 (ok : Nat → Prop) (A : Option Addr) (c : Nat) (xs : List Int) (w : World) (hc : xs.length ≤ c) (hF : Kd.F (Kd.int .u32) w ok A xs.length xs) : Calls Tryd.prog 94 #[.slice A xs.length c] w fun e w' => e = .returned (.slice A (trim xs).length c) ∧ w' = w := by
 have hr := Sdq.mk (row_of hF);have hF := Sdq.mk hF;have hm := Kd.F_max hF.out;have hc' := Sdq.mk hc;clear hc;go_enter Tryd.func94, Tryd.ntmps94;go_wp2
 go_loop [3] (fun n => ∃ m : Nat, m ≤ xs.length ∧ n = .int .i64 m ∧ Sdq (trim (xs.take m) = trim xs)) (fun n => (intOf n).toNat)
 case atStart => exact ⟨xs.length, Nat.le_refl _, rfl, ⟨by rw [List.take_length]⟩⟩
 case round =>
  obtain ⟨m, hmx, rfl, ht⟩ := hrel
  cases m with
  | zero =>
   go_wp2;go_ret;exact ⟨by rw [← ht.out]; rfl, rfl⟩
  | succ m =>
   obtain ⟨ad, rfl, hcell⟩ := row_some hr.out (show m < xs.length by omega);have hx := hcell m (by omega);clear hcell;by_cases h0 : xs[m] = 0
   ·rw [h0] at hx
    have ht' := Sdq.mk ((trim_step (by omega) h0).symm.trans ht.out);clear h0 ht;go_wp2
    go_round
    case rel => exact ⟨m, by omega, by go_num, ht'⟩
    case measure => simp [intOf]
   ·have ht' := Sdq.mk ((trim_stop (by omega) h0).symm.trans ht.out)
    have hb : (xs[m] == 0) = false := by simpa using h0
    have hle : m + 1 ≤ c := by have := hc'.out; omega
    clear h0 ht;go_wp2;go_ret;exact ⟨by rw [← ht'.out, show (xs.take (m + 1)).length = m + 1 by rw [List.length_take]; omega]; rfl, rfl⟩
theorem trim_cv {ok : Nat → Prop} {A : Option Addr} {c : Nat} {xs : List Int} {w : World} (hc : xs.length ≤ c) (hF : Kd.F (Kd.int .u32) w ok A xs.length xs) : Cv (Kd.int .u32) ok w (.slice A (trim xs).length c) (trim xs) := by
 rw [trim_take xs];have h := Cv.take hc hF (trim xs).length (trim_length xs)
 rwa [show ((xs.take (trim xs).length).length) = (trim xs).length by rw [List.length_take, Nat.min_eq_left (trim_length xs)]]
theorem nat_trim (ok : Nat → Prop) (v : Value) (xs : List Int) (w : World) (h : Cv (Kd.int .u32) ok w v xs) : Calls Tryd.prog 94 #[v] w (CPost (Kd.int .u32) ok w (trim xs)) := by
 obtain ⟨A, c, rfl, hc, hF⟩ := h;refine (nat_trim0 ok A c xs w hc hF).mono ?_;rintro e w' ⟨rfl, rfl⟩;exact ⟨_, rfl, trim_cv hc hF, Below.refl _ _⟩
theorem fresh_row {k : IntKind} {e : Nat} {w w1 : World} {v : Value} {xs : List Int} {ok : Nat → Prop} (h : (Kd.int k).R e w1 w.heap.size (fun k => w.heap.size ≤ k) v xs) (hok : ∀ k, w.heap.size ≤ k → ok k) : Cv (Kd.int k) ok w1 v xs := (Cv.ofR h).mono hok
set_option maxRecDepth 100000 in
theorem nat_Norm (ok : Nat → Prop) (w : World) (hok : ∀ k, w.heap.size ≤ k → ok k) (v : Value) (xs : List Int) (h : Cv (Kd.int .u32) (fun _ => True) w v xs) (hs : xs.length ≤ 1000000) : Calls Tryd.prog 96 #[v] w (CPost (Kd.int .u32) ok w (trim xs)) := by
 obtain ⟨A, c, rfl, hc, hF⟩ := h;have hr := Sdq.mk (row_of hF);have hF := Sdq.mk hF;have hok := Sdq.mk hok;have hc' := Sdq.mk hc;clear hc;go_enter Tryd.func96, Tryd.ntmps96;go_wp2
 go_loop [3] (fun n => ∃ m : Nat, m ≤ xs.length ∧ n = .int .i64 m ∧ Sdq (trim (xs.take m) = trim xs)) (fun n => (intOf n).toNat)
 case atStart => exact ⟨xs.length, Nat.le_refl _, rfl, ⟨by rw [List.take_length]⟩⟩
 case round =>
  obtain ⟨m, hmx, rfl, ht⟩ := hrel
  cases m with
  | zero =>
   have hle : (0 : Nat) ≤ c := Nat.zero_le _
   go_wp2_with (first
    | ((with_reducible refine gate_builtin (b := .append) (xs := #[.const (.slice none 0 0), .tmp 20]) rfl ?_); at_builtin; refine Kd.R_append_rows (Kd.int .u32) (w0 := w) w.heap.size rfl (.const (.slice none 0 0)) (.tmp 20) 22 93 (.int .u32 0) 4 rfl Tryd.underlying22 info93 rfl (by decide) (by decide) (.slice none 0 0) ([] : List Int) (xs.take 0) A 0 c (fun k => w.heap.size ≤ k) (fun _ => False) rfl rfl (Kd.R_nil _ _ _ _ _) (Kd.F_now (Kd.F_take hF.out (Nat.zero_le _))) (fun _ _ h => h) (fun _ h => h.elim) (fun _ h => h) (Below.refl _ _) (Nat.le_refl _) (by simp) ?_; intro v1 w1 ho hb hg hat; have ho := Sdq.mk ho; have hb := Sdq.mk hb; clear hg hat))
   go_ret;exact ⟨_, rfl, by rw [show trim xs = [] ++ xs.take 0 from ht.out.symm]; exact fresh_row ho.out hok.out, hb.out⟩
  | succ m =>
   obtain ⟨ad, rfl, hcell⟩ := row_some hr.out (show m < xs.length by omega);have hx := hcell m (by omega);clear hcell;by_cases h0 : xs[m] = 0
   ·rw [h0] at hx
    have ht' := Sdq.mk ((trim_step (by omega) h0).symm.trans ht.out);clear h0 ht;go_wp2
    go_round
    case rel => exact ⟨m, by omega, by go_num, ht'⟩
    case measure => simp [intOf]
   ·have ht' := Sdq.mk ((trim_stop (by omega) h0).symm.trans ht.out)
    have hb : (xs[m] == 0) = false := by simpa using h0
    have hle : m + 1 ≤ c := by have := hc'.out; omega
    have hC : Kd.C (Kd.int .u32) w (some ad) (xs.take (m + 1)).length (xs.take (m + 1)) := Kd.F_now (Kd.F_take hF.out (by omega));rw [show (xs.take (m + 1)).length = m + 1 by rw [List.length_take]; omega] at hC;have hC := Sdq.mk hC;have hl := Sdq.mk (show (([] : List Int).length + (m + 1)) * 4 ≤ 140737488355328 by simp; omega);clear h0 ht
    go_wp2_with (first
     | ((with_reducible refine gate_builtin (b := .append) (xs := #[.const (.slice none 0 0), .tmp 20]) rfl ?_); at_builtin; refine Kd.R_append_rows (Kd.int .u32) (w0 := w) w.heap.size rfl (.const (.slice none 0 0)) (.tmp 20) 22 93 (.int .u32 0) 4 rfl Tryd.underlying22 info93 rfl (by decide) (by decide) (.slice none 0 0) ([] : List Int) (xs.take (m + 1)) (some ad) (m + 1) c (fun k => w.heap.size ≤ k) (fun _ => False) rfl rfl (Kd.R_nil _ _ _ _ _) hC.out (fun _ _ h => h) (fun _ h => h.elim) (fun _ h => h) (Below.refl _ _) (Nat.le_refl _) hl.out ?_; intro v1 w1 ho hb hg hat; have ho := Sdq.mk ho; have hb := Sdq.mk hb; clear hg hat))
    go_ret;exact ⟨_, rfl, by rw [← ht'.out]; exact fresh_row ho.out hok.out, hb.out⟩
end Go.Proofs.YthpgjgmaamcaoaaDoor.P
end
section
namespace Go.Proofs.YthpgjgmaamcaoaaDoor.P
open Go.RowKit Go.Proofs.YthpgjgmaamcaoaaDoorW.PrintWords Go.Proofs.YthpgjgmaamcaoaaDoorW.PrintLast Go.Proofs.YthpgjgmaamcaoaaDoorW.PrintMore Go.Proofs.YthpgjgmaamcaoaaDoor.Nm
abbrev B32 : Int := 4294967296
theorem u64_in {x : Int} (h0 : 0 ≤ x) (h1 : x < 18446744073709551616) : IntKind.u64.wrap x = x := by
 unfold IntKind.wrap
 simp [IntKind.bits, IntKind.signed]
 omega
def AddPost (x y c : Int) (w : World) (e : Ending) (w' : World) : Prop := e = .returned (.tuple #[.int .u32 ((x + y + c) % B32), .int .u32 ((x + y + c) / B32)]) ∧ w = w'
set_option maxRecDepth 100000 in
theorem bits_Add32 (x y c : Int) (w : World) (hx : 0 ≤ x ∧ x < B32) (hy : 0 ≤ y ∧ y < B32) (hc : 0 ≤ c ∧ c ≤ 1) : Calls Tryd.prog 97 #[.int .u32 x, .int .u32 y, .int .u32 c] w (AddPost x y c w) := by
 unfold B32 at hx hy;go_enter Tryd.func97, Tryd.ntmps97;go_wp2
 go_ret2
 exact ⟨rfl, rfl⟩
theorem bits_u32 (a b : Nat) (ha : a < 2 ^ 32) (hb : b < 2 ^ 32) : bits .and .u32 a b = ((a &&& b : Nat) : Int) ∧ bits .or .u32 a b = ((a ||| b : Nat) : Int) ∧ bits .xor .u32 a b = ((a ^^^ b : Nat) : Int) := by
 have h32 : IntKind.u32.bits = 32 := rfl;have ha' : a % 2 ^ 32 = a := Nat.mod_eq_of_lt ha;have hb' : b % 2 ^ 32 = b := Nat.mod_eq_of_lt hb
 have hw : ∀ n : Nat, n < 2 ^ 32 → IntKind.u32.wrap (n : Int) = n := fun n h => by rw [IntKind.wrap_u32]; omega
 refine ⟨?_, ?_, ?_⟩
 ·simp only [bits, h32, BitVec.ofInt_natCast, BitVec.toNat_and, BitVec.toNat_ofNat, ha', hb']
  exact hw _ (Nat.and_lt_two_pow _ hb)
 ·simp only [bits, h32, BitVec.ofInt_natCast, BitVec.toNat_or, BitVec.toNat_ofNat, ha', hb']
  exact hw _ (Nat.or_lt_two_pow ha hb)
 ·simp only [bits, h32, BitVec.ofInt_natCast, BitVec.toNat_xor, BitVec.toNat_ofNat, ha', hb']
  exact hw _ (Nat.xor_lt_two_pow ha hb)
theorem top_bit (a b d : Nat) : (((4294967295 ^^^ a) &&& b) ||| ((4294967295 ^^^ (a ^^^ b)) &&& d)) / 2147483648 = (((1 ^^^ (a / 2147483648)) &&& (b / 2147483648)) ||| ((1 ^^^ ((a / 2147483648) ^^^ (b / 2147483648))) &&& (d / 2147483648))) := by
 have e : ∀ n : Nat, n / 2147483648 = n >>> 31 := fun n => by rw [Nat.shiftRight_eq_div_pow]
 simp only [e, Nat.shiftRight_or_distrib, Nat.shiftRight_and_distrib, Nat.shiftRight_xor_distrib, show 4294967295 >>> 31 = 1 from rfl]
theorem borrow_nat (M a b d : Nat) (hM : M = 4294967295) (ha : a < 2 ^ 32) (hb : b < 2 ^ 32) (hd : d < 2 ^ 32) :
  bits .or .u32 (bits .and .u32 (bits .xor .u32 M a) b) (bits .and .u32 (bits .xor .u32 M (bits .xor .u32 a b)) d) / 2147483648 = (((((1 ^^^ (a / 2147483648)) &&& (b / 2147483648)) ||| ((1 ^^^ ((a / 2147483648) ^^^ (b / 2147483648))) &&& (d / 2147483648))) : Nat) : Int) := by
 have hM' : M < 2 ^ 32 := by omega
 have x1 := Nat.xor_lt_two_pow hM' ha;have x2 := Nat.xor_lt_two_pow ha hb;have x3 := Nat.xor_lt_two_pow hM' x2;rw [(bits_u32 M a hM' ha).2.2, (bits_u32 a b ha hb).2.2, (bits_u32 _ b x1 hb).1, (bits_u32 M _ hM' x2).2.2, (bits_u32 _ d x3 hd).1, (bits_u32 _ _ (Nat.and_lt_two_pow _ hb) (Nat.and_lt_two_pow _ hd)).2.1, ← top_bit a b d, hM]
 omega
theorem borrow_bit (x y c : Int) (hx : 0 ≤ x ∧ x < B32) (hy : 0 ≤ y ∧ y < B32) (hc : 0 ≤ c ∧ c ≤ 1) :
  bits .or .u32 (bits .and .u32 (bits .xor .u32 IntKind.u32.max x) y) (bits .and .u32 (bits .xor .u32 IntKind.u32.max (bits .xor .u32 x y)) ((x - y - c) % 4294967296)) / 2147483648 = if x < y + c then 1 else 0 := by
 unfold B32 at hx hy;obtain ⟨a, rfl⟩ := Int.eq_ofNat_of_zero_le hx.1;obtain ⟨b, rfl⟩ := Int.eq_ofNat_of_zero_le hy.1;obtain ⟨d, hd⟩ := Int.eq_ofNat_of_zero_le (show 0 ≤ ((a : Int) - b - c) % 4294967296 by omega)
 obtain ⟨M, hM⟩ : ∃ M : Nat, M = 4294967295 := ⟨_, rfl⟩
 rw [hd, show IntKind.u32.max = (M : Int) by rw [hM]; rfl, borrow_nat M a b d hM (by omega) (by omega) (by omega)]
 have hp : a / 2147483648 = 0 ∨ a / 2147483648 = 1 := by omega
 have hq : b / 2147483648 = 0 ∨ b / 2147483648 = 1 := by omega
 have hr : d / 2147483648 = 0 ∨ d / 2147483648 = 1 := by omega
 clear hM
 rcases hp with hp | hp <;> rcases hq with hq | hq <;> rcases hr with hr | hr <;> rw [hp, hq, hr] <;> split <;> first | rfl | (exfalso; omega)
def SubPost (x y c : Int) (w : World) (e : Ending) (w' : World) : Prop := e = .returned (.tuple #[.int .u32 ((x - y - c) % B32), .int .u32 (if x < y + c then 1 else 0)]) ∧ w = w'
set_option maxRecDepth 100000 in
theorem bits_Sub32 (x y c : Int) (w : World) (hx : 0 ≤ x ∧ x < B32) (hy : 0 ≤ y ∧ y < B32) (hc : 0 ≤ c ∧ c ≤ 1) : Calls Tryd.prog 98 #[.int .u32 x, .int .u32 y, .int .u32 c] w (SubPost x y c w) := by
 unfold B32 at hx hy;go_enter Tryd.func98, Tryd.ntmps98;go_wp2
 go_ret2
 exact ⟨by rw [← borrow_bit x y c hx hy hc]; rfl, rfl⟩
end Go.Proofs.YthpgjgmaamcaoaaDoor.P
end
section
namespace Go.Proofs.YthpgjgmaamcaoaaDoor.P
open Go.RowKit Go.Proofs.YthpgjgmaamcaoaaDoorW.PrintWords Go.Proofs.YthpgjgmaamcaoaaDoorW.PrintLast Go.Proofs.YthpgjgmaamcaoaaDoorW.PrintMore
def Own (k : IntKind) (e g : Nat) (W : World) (xs : List Int) : Prop := W.heap[g]? = some (.cells (nums k xs).toArray e (0, 0))
section
variable {k : IntKind} {e g : Nat} {W W' : World} {xs : List Int}
theorem Own.lt (h : Own k e g W xs) : g < W.heap.size := blk_lt h
theorem Own.at_ (h : Own k e g W xs) {i : Nat} (hi : i < xs.length) : W.cell? ⟨g, i, none⟩ = some (.int k xs[i]) := by
 rw [bceq h i]
 simp [nums, hi]
theorem Own.free (h : Own k e g W xs) (i : Nat) : W.frozen? ⟨g, i, none⟩ = false := bfz h i
theorem Own.put (h : Own k e g W xs) (i : Nat) (x : Int) : Own k e g (W.setCell ⟨g, i, none⟩ (.int k x)) (xs.set i x) := by
 refine blk_put h i _ ?_
 simp [nums]
theorem Own.below (h : Own k e g W xs) (hb : Below W.heap.size W W') : Own k e g W' xs := (hb.block g (blk_lt h)).trans h
theorem Own.made (W : World) (n : Nat) : Own k e W.heap.size (W.alloc (.cells (madeCells #[.int k 0] n) e)) (List.replicate n 0) := by
 have hl : madeCells #[Value.int k 0] n = (nums k (List.replicate n 0)).toArray := by
  rw [← Array.toList_inj, toList_madeCells_one]
  simp [nums]
 unfold Own;rw [← hl];exact blk_new W _
theorem Own.cv (h : Own k e g W xs) (hm : xs.length ≤ 9223372036854775807) {ok : Nat → Prop} (hg : ok g) (c : Nat) (hc : xs.length ≤ c) : Cv (Kd.int k) ok W (.slice (some ⟨g, 0, none⟩) xs.length c) xs := by
 refine ⟨_, c, rfl, hc, fun W' hW => ?_⟩;have h' : Own k e g W' xs := (hW g hg h.lt).trans h;refine ⟨rfl, hm, fun _ => ⟨_, rfl, fun j p hj => ?_⟩⟩;have hjl := (List.getElem?_eq_some_iff.1 hj).1;have hv := (List.getElem?_eq_some_iff.1 hj).2;refine ⟨[.int k p], rfl, rfl, fun i u hu => ?_⟩
 have hi : i = 0 := by
  have := (List.getElem?_eq_some_iff.1 hu).1
  simpa using this
 subst hi
 obtain rfl : Value.int k p = u := by simpa using hu
 have ha : (⟨g, 0, none⟩ : Addr).add (j * (Kd.int k).sz + 0) = ⟨g, j, none⟩ := by
  rw [show (Kd.int k).sz = 1 from rfl, Nat.mul_one, Nat.add_zero];exact add_plain g j
 rw [ha, h'.at_ hjl, hv]
end
theorem replicate_snoc {l : List Int} {k n : Nat} (h : k < n) (x : Int) : (l ++ List.replicate (n - k) 0).set l.length x = (l ++ [x]) ++ List.replicate (n - (k + 1)) 0 := by
 rw [show n - k = (n - (k + 1)) + 1 by omega, List.replicate_succ, List.set_append_right _ _ (Nat.le_refl _), Nat.sub_self, List.set_cons_zero, List.append_assoc]
 rfl
end Go.Proofs.YthpgjgmaamcaoaaDoor.P
end
section
namespace Go.Proofs.YthpgjgmaamcaoaaDoor.P
open Go.RowKit Go.Proofs.YthpgjgmaamcaoaaDoorW.PrintWords Go.Proofs.YthpgjgmaamcaoaaDoorW.PrintLast Go.Proofs.YthpgjgmaamcaoaaDoorW.PrintMore Go.Proofs.YthpgjgmaamcaoaaDoor.Nm
set_option maxRecDepth 100000
theorem nat_IsZero (v : Value) (xs : List Int) (w : World) (h : Cv (Kd.int .u32) (fun _ => True) w v xs) : Calls Tryd.prog 80 #[v] w fun e w' => e = .returned (.bool ((trim xs).length == 0)) ∧ Below w.heap.size w w' := by
 have H := Sdq.mk h;clear h;go_enter Tryd.func80, Tryd.ntmps80;go_wp2_with (go_at_call 94; refine (nat_trim _ _ _ _ H.out).mono ?_; rintro e w' ⟨v, rfl, ⟨A, c, rfl, hc, hF⟩, hb⟩);go_ret;refine ⟨?_, hb⟩
 cases trim xs <;> rfl
theorem val_take_succ (B : Int) (l : List Int) (k : Nat) : val B (l.take (k + 1)) = val B (l.take k) + B ^ k * l.getD k 0 := by
 by_cases h : k < l.length
 ·rw [List.take_succ_eq_append_getElem h, val_append, List.length_take, Nat.min_eq_left (by omega), val_cons, val_nil, Int.mul_zero, Int.add_zero]
  simp [List.getD_eq_getElem?_getD, h]
 ·rw [List.take_of_length_le (by omega), List.take_of_length_le (by omega)]
  simp [List.getD_eq_getElem?_getD, List.getElem?_eq_none (show l.length ≤ k by omega)]
theorem dg_getD {B : Int} (hB : 0 < B) {l : List Int} (h : Dg B l) (k : Nat) : 0 ≤ l.getD k 0 ∧ l.getD k 0 < B := by
 by_cases hk : k < l.length
 ·rw [List.getD_eq_getElem?_getD, List.getElem?_eq_getElem hk]
  exact h _ (List.getElem_mem hk)
 ·rw [List.getD_eq_getElem?_getD, List.getElem?_eq_none (by omega)]
  exact ⟨by simp, by simpa using hB⟩
theorem val_snoc (B : Int) (l : List Int) (x : Int) : val B (l ++ [x]) = val B l + B ^ l.length * x := by
 rw [val_append, val_cons, val_nil, Int.mul_zero, Int.add_zero]
theorem add_step {ds xs ys : List Int} {c : Int} (h : val B32 ds + B32 ^ ds.length * c = val B32 (xs.take ds.length) + val B32 (ys.take ds.length)) :
  val B32 (ds ++ [(xs.getD ds.length 0 + ys.getD ds.length 0 + c) % B32]) + B32 ^ (ds.length + 1) * ((xs.getD ds.length 0 + ys.getD ds.length 0 + c) / B32) = val B32 (xs.take (ds.length + 1)) + val B32 (ys.take (ds.length + 1)) := by
 rw [val_take_succ, val_take_succ, val_snoc, Int.pow_succ];generalize xs.getD ds.length 0 = x;generalize ys.getD ds.length 0 = y;generalize B32 ^ ds.length = P at *;have e := Int.emod_add_mul_ediv (x + y + c) B32;generalize (x + y + c) % B32 = r at *;generalize (x + y + c) / B32 = q at *
 have e' : P * r + P * B32 * q = P * (x + y + c) := by rw [← e, Int.mul_add, Int.mul_assoc]
 rw [Int.mul_add, Int.mul_add] at e'
 omega
structure AddIn (w : World) (A : Option Addr) (c : Nat) (xs : List Int) (B : Option Addr) (d : Nat) (ys : List Int) (n : Int) : Prop where
 ra : IsRow .u32 w A xs
 rb : IsRow .u32 w B ys
 da : Dg B32 xs
 db : Dg B32 ys
 la : xs.length ≤ 1000000
 le : ys.length ≤ xs.length
 sum : val B32 xs + val B32 ys = n
theorem nat_Add (ok : Nat → Prop) (u v : Value) (xs ys : List Int) (w : World) (hok : ∀ k, w.heap.size ≤ k → ok k) (h : Cv (Kd.int .u32) (fun _ => True) w u xs) (h' : Cv (Kd.int .u32) (fun _ => True) w v ys) (dx : Dg B32 xs) (dy : Dg B32 ys) (lx : xs.length ≤ 1000000) (ly : ys.length ≤ 1000000) :
  Calls Tryd.prog 73 #[u, v] w (CPost (Kd.int .u32) ok w (dig B32 (val B32 xs + val B32 ys))) := by
 obtain ⟨A, c, rfl, hc, hF⟩ := h;obtain ⟨B, d, rfl, hd, hG⟩ := h';have ra := Sdq.mk (row_of hF);have rb := Sdq.mk (row_of hG);have hok := Sdq.mk hok;have Dx := Sdq.mk dx;have Dy := Sdq.mk dy
 obtain ⟨n, hn⟩ : ∃ n : Int, n = val B32 xs + val B32 ys := ⟨_, rfl⟩
 rw [← hn];have hn := Sdq.mk hn;clear hF hG hc hd dx dy;go_enter Tryd.func73, Tryd.ntmps73
 go_upto_if 13 with fail
 go_cut [0, 1] (fun s0 s1 wc => ∃ A c ps B d qs, s0 = .slice A ps.length c ∧ s1 = .slice B qs.length d ∧ Sdq (AddIn w A c ps B d qs n) ∧ wc = w)
 case first =>
  rcases Nat.lt_or_ge xs.length ys.length with hlt | hge
  ·go_wp2
   go_meet
   exact ⟨_, _, _, _, _, _, rfl, rfl, ⟨⟨rb.out, ra.out, Dy.out, Dx.out, ly, by omega, by rw [hn.out, Int.add_comm]⟩⟩, rfl⟩
  ·have hge : ¬ xs.length < ys.length := by omega
   go_wp2
   go_meet
   exact ⟨_, _, _, _, _, _, rfl, rfl, ⟨⟨ra.out, rb.out, Dx.out, Dy.out, lx, by omega, hn.out.symm⟩⟩, rfl⟩
 case rest =>
  obtain ⟨A, c, xs, B, d, ys, rfl, rfl, HI, rfl⟩ := hcut;have hl := HI.out.la;have hmk := print_make_int (P := Tryd.prog) 22 93 (.int .u32 0) 4 Tryd.underlying22 info93 rfl (by decide) ((xs.length : Int) + 1) (by omega) (by omega);rw [show ((xs.length : Int) + 1).toNat = xs.length + 1 by omega] at hmk;have hO := Sdq.mk (Own.made (k := .u32) (e := 93) wc (xs.length + 1));have hB := Sdq.mk (bal (Below.refl wc.heap.size wc) (.cells (madeCells #[.int .u32 0] (xs.length + 1)) 93))
  go_wp2_with fail
  clear hmk;generalize wc.alloc _ = w1 at hO hB ⊢
  go_loopg [6, 22] xs.length (fun gk s6 s22 wr => ∃ (ds : List Int) (cr : Int), gk + ds.length = xs.length ∧ s22 = .int .i64 ds.length ∧ s6 = .int .u32 cr ∧ 0 ≤ cr ∧ cr ≤ 1 ∧ Sdq (Dg B32 ds ∧ val B32 ds + B32 ^ ds.length * cr = val B32 (xs.take ds.length) + val B32 (ys.take ds.length)) ∧ Sdq (Own .u32 93 wc.heap.size wr (ds ++ List.replicate (xs.length + 1 - ds.length) 0)) ∧ Sdq (Below wc.heap.size wc wr))
  case atStart => exact ⟨[], 0, rfl, rfl, rfl, by omega, by omega, ⟨Dg.nil, by simp⟩, ⟨by simpa using hO.out⟩, hB⟩
  case round =>
   clear hO hB;obtain ⟨ds, cr, hg, rfl, rfl, c0, c1, hv, hO, hB⟩ := hrel
   have hlt : ds.length < xs.length + 1 := by omega
   obtain ⟨cv, hcell⟩ : ∃ cv, wr.cell? ⟨wc.heap.size, ds.length, none⟩ = some cv := ⟨_, hO.out.at_ (i := ds.length) (by simp; omega)⟩
   have hfree := hO.out.free ds.length
   cases gk with
   | zero =>
    have hX := hO.out.put ds.length cr;rw [replicate_snoc hlt, show xs.length + 1 - (ds.length + 1) = 0 by omega, List.replicate_zero, List.append_nil] at hX;have hBX := Sdq.mk (bstq (j := ds.length) (v := .int .u32 cr) hB.out (Nat.le_refl _))
    have hres := Sdq.mk (show trim (ds ++ [cr]) = dig B32 n by
     rw [trim_dig (by decide) (hv.out.1.append (Dg.cons ⟨c0, by unfold B32; omega⟩ Dg.nil)), val_snoc, hv.out.2, List.take_of_length_le (by omega), List.take_of_length_le (by have := HI.out.le; omega), HI.out.sum])
    have hT := Sdq.mk (hX.cv (by simp; omega) (ok := fun k => wc.heap.size ≤ k) (Nat.le_refl _) (xs.length + 1) (by simp; omega));rw [show (ds ++ [cr]).length = xs.length + 1 by simp; omega] at hT;rw [show ds.length = xs.length by omega] at hcell hfree hBX hT;clear hX hO hB hv hlt;go_wp2_with (go_at_call 94; refine (nat_trim _ _ _ _ hT.out).mono ?_; rintro e w' ⟨v, rfl, hv, hb⟩);have hv := Sdq.mk (hv.mono hok.out);have hb := Sdq.mk (below_step hBX.out hb);go_ret;exact ⟨_, rfl, hres.out ▸ hv.out, hb.out⟩
   | succ j =>
    have hi : ds.length < xs.length := by omega
    obtain ⟨ad, rfl, hc⟩ := row_some (HI.out.ra.below hB.out) hi;have hx := hc ds.length hi;clear hc;have hxd := dg_getD (by decide) HI.out.da ds.length;have hyd := dg_getD (by decide) HI.out.db ds.length;have hst := Sdq.mk (add_step hv.out.2)
    have ex : xs.getD ds.length 0 = xs[ds.length] := by simp [List.getD_eq_getElem?_getD, hi]
    rw [ex] at hxd hst;have hr := Sdq.mk (show 0 ≤ (xs[ds.length] + ys.getD ds.length 0 + cr) % B32 ∧ (xs[ds.length] + ys.getD ds.length 0 + cr) % B32 < B32 ∧ 0 ≤ (xs[ds.length] + ys.getD ds.length 0 + cr) / B32 ∧ (xs[ds.length] + ys.getD ds.length 0 + cr) / B32 ≤ 1 by unfold B32 at *; omega)
    have hadd := fun W => bits_Add32 xs[ds.length] (ys.getD ds.length 0) cr W hxd hyd ⟨c0, c1⟩
    generalize hy : ys.getD ds.length 0 = y at *;have hX := hO.out.put ds.length ((xs[ds.length] + y + cr) % B32);rw [replicate_snoc hlt] at hX
    have hX : Sdq (Own .u32 93 wc.heap.size _ ((ds ++ [(xs[ds.length] + y + cr) % B32]) ++ List.replicate (xs.length + 1 - (ds ++ [(xs[ds.length] + y + cr) % B32]).length) 0)) := ⟨by rw [List.length_append]; exact hX⟩
    have hBX := Sdq.mk (bstq (j := ds.length) (v := .int .u32 ((xs[ds.length] + y + cr) % B32)) hB.out (Nat.le_refl _))
    have hW : Sdq (Dg B32 (ds ++ [(xs[ds.length] + y + cr) % B32]) ∧ val B32 (ds ++ [(xs[ds.length] + y + cr) % B32]) + B32 ^ (ds ++ [(xs[ds.length] + y + cr) % B32]).length * ((xs[ds.length] + y + cr) / B32) = val B32 (xs.take (ds ++ [(xs[ds.length] + y + cr) % B32]).length) + val B32 (ys.take (ds ++ [(xs[ds.length] + y + cr) % B32]).length)) :=
     ⟨hv.out.1.append (Dg.cons ⟨hr.out.1, hr.out.2.1⟩ Dg.nil), by rw [List.length_append]; exact hst.out⟩
    clear ex hxd hyd hO hv hst;by_cases hj : ds.length < ys.length
    ·obtain ⟨bd, rfl, hc⟩ := row_some (HI.out.rb.below hB.out) hj
     have hyc : wr.cell? (bd.add ds.length) = some (.int .u32 y) := by
      rw [hc ds.length hj, ← hy]
      simp [List.getD_eq_getElem?_getD, hj]
     clear hc hy hB;go_wp2_with (go_at_call 97; refine (hadd _).mono ?_; rintro e w' ⟨rfl, rfl⟩)
     go_roundg j
     case measure => omega
     case rel => exact ⟨ds ++ [(xs[ds.length] + y + cr) % B32], (xs[ds.length] + y + cr) / B32, by simp; omega, by simp, rfl, hr.out.2.2.1, hr.out.2.2.2, hW, hX, hBX⟩
    ·have hy0 : y = 0 := by rw [← hy]; simp [List.getD_eq_getElem?_getD, List.getElem?_eq_none (show ys.length ≤ ds.length by omega)]
     subst hy0;simp only [Int.add_zero] at hX hBX hW hr;clear hy hB;go_wp2_with (go_at_call 97; refine (hadd _).mono ?_; rintro e w' ⟨rfl, rfl⟩)
     go_roundg j
     case measure => omega
     case rel => exact ⟨ds ++ [(xs[ds.length] + cr) % B32], (xs[ds.length] + cr) / B32, by simp; omega, by simp, rfl, hr.out.2.2.1, hr.out.2.2.2, hW, hX, hBX⟩
end Go.Proofs.YthpgjgmaamcaoaaDoor.P
end
section
namespace Go.Proofs.YthpgjgmaamcaoaaDoor.P
open Go.RowKit Go.Shelf Go.Proofs.YthpgjgmaamcaoaaDoorW.PrintWords Go.Proofs.YthpgjgmaamcaoaaDoorW.PrintLast Go.Proofs.YthpgjgmaamcaoaaDoorW.PrintMore Go.Proofs.YthpgjgmaamcaoaaDoor.Nm
set_option maxRecDepth 100000
attribute [local go_sem] Oper.semAt_some
def Keeps (keep : Nat → Prop) (W W' : World) : Prop := W.heap.size ≤ W'.heap.size ∧ ∀ i, i < W.heap.size → keep i → W'.heap[i]? = W.heap[i]?
section
variable {keep : Nat → Prop} {X Y Z : World}
theorem Keeps.refl (W : World) : Keeps keep W W := ⟨Nat.le_refl _, fun _ _ _ => rfl⟩
theorem Keeps.trans (h : Keeps keep X Y) (k : Keeps keep Y Z) : Keeps keep X Z := ⟨Nat.le_trans h.1 k.1, fun i hi hk => (k.2 i (Nat.lt_of_lt_of_le hi h.1) hk).trans (h.2 i hi hk)⟩
theorem Keeps.below (hb : Below X.heap.size X Y) : Keeps keep X Y := ⟨hb.size, fun i hi _ => hb.block i hi⟩
theorem Keeps.set_ (h : Keeps keep X Y) {p : Addr} (hp : ¬ keep p.block) (v : Value) : Keeps keep X (Y.setCell p v) := by
 refine h.trans ⟨by simp, fun i _ hk => Below.heap_setCell Y p v i (fun e => hp (e ▸ hk))⟩
theorem Keeps.cell (h : Keeps keep X Y) {p : Addr} (hp : keep p.block) {v : Value} (hc : X.cell? p = some v) : Y.cell? p = some v := by
 have := h.2 p.block (World.block_lt_of_cell? X p hc) hp;unfold World.cell? at hc ⊢;rw [this];exact hc
theorem keeps_book {w : World} (hk : ∀ i, keep i → i < w.heap.size) (W : World) (l : Nat) (o o' : Obj) (hl : w.heap.size ≤ l) (_ : W.heap[l]? = some o) (_ : o.isCells = false) (_ : o.isWalk = false) : Keeps keep W (W.putObj l o') := by
 refine ⟨by simp [World.putObj], fun i _ hi => ?_⟩;have := hk i hi
 have hne : l ≠ i := by omega
 simp [World.putObj, Array.getElem?_setIfInBounds_ne hne]
end
theorem f_cells {k : IntKind} {ok keep : Nat → Prop} {w : World} {A : Option Addr} {n : Nat} {xs : List Int} (h : Kd.F (Kd.int k) w ok A n xs) (hk : ∀ i, ok i → i < w.heap.size → keep i) {W : World} (hW : Keeps keep w W) : IsRow k W A xs :=
 row_of (ok := fun i => ok i ∧ i < w.heap.size) (Kd.F_step (Kd.F_bound h) (fun i hi hlt => hW.2 i hlt (hk i hi.1 hi.2)))
def dn (n m : Nat) : List (Fin n) := ((List.finRange n).drop m).reverse
theorem dn_end (n : Nat) : dn n n = [] := by simp [dn]
theorem dn_step {n j : Nat} (h : j < n) : dn n j = dn n (j + 1) ++ [⟨j, h⟩] := by
 unfold dn;rw [List.drop_eq_getElem_cons (by simpa using h), List.reverse_cons]
 simp
theorem dn_len (n : Nat) {m : Nat} (h : m ≤ n) : (dn n m).length = n - m := by simp [dn]
theorem dn_mem {n m : Nat} (x : Fin n) : x ∈ dn n m ↔ m ≤ x.1 := by
 unfold dn;rw [List.mem_reverse, List.mem_drop_iff_getElem]
 constructor
 ·rintro ⟨i, hi, rfl⟩
  simp
 ·intro h
  exact ⟨x.1 - m, by have := x.2; simp; omega, by simp; ext; simp; omega⟩
def limbEnc (zs : List Int) (x : Fin zs.length) : Array Value := #[.int .i64 (x.1 : Int), .int .u32 (zs[x.1]'x.2)]
theorem limbs1_in (keep : Nat → Prop) (l Bs : Nat) (ok : Nat → Prop) (A : Option Addr) (c : Nat) (zs : List Int) (hl : zs.length ≤ 1000000) (J Jx : List (Fin zs.length) → World → Prop) (W : World) (hF : Kd.F (Kd.int .u32) W ok A zs.length zs) (hkeep : ∀ i, ok i → i < W.heap.size → keep i) (hBk : keep Bs)
  (hY : ∀ pre x W, J pre W → pre.length < zs.length → YieldAt Fence.wide 1 Tryd.prog l (limbEnc zs x) W fun e W' =>
   (e = .returned (.bool true) ∧ J (pre ++ [x]) W' ∧ Keeps keep W W') ∨ (e = .returned (.bool false) ∧ Jx (pre ++ [x]) W'))
  (hBs : W.cell? ⟨Bs, 0, none⟩ = some (.slice A zs.length c)) (h0 : J [] W) :
  CallsIn Fence.wide 2 Tryd.prog 106 #[.func (.yield l) #[] #[], .pointer (some ⟨Bs, 0, none⟩)] W fun e W' => (∃ v, e = .returned v) ∧
   ((∃ ys, ys = dn zs.length 0 ∧ J ys W') ∨ (∃ pre, (∃ m, m ≤ zs.length ∧ pre = dn zs.length m) ∧ Jx pre W')) := by
 have hF := Sdq.mk hF;refine callsIn_of_wp Tryd.func106 rfl trivial ?_ rfl;simp only [Tryd.ntmps106, List.size_toArray, List.length_cons, List.length_nil, Nat.reduceAdd, Nat.reduceSub, Array.replicate_succ, Array.replicate_zero, List.push_toArray, List.append_toArray, List.nil_append, List.cons_append]
 gi_wp2
 gi_loopw [3] (fun i wr => ∃ m : Nat, m ≤ zs.length ∧ i = .int .i64 ((m : Int) - 1) ∧ J (dn zs.length m) wr ∧ Sdq (Keeps keep W wr)) (fun i _ => (intOf i + 1).toNat)
 case atStart => exact ⟨zs.length, Nat.le_refl _, rfl, by rw [dn_end]; exact h0, ⟨Keeps.refl _⟩⟩
 case round =>
  obtain ⟨m, hm, rfl, hJs, hK⟩ := hrel
  cases m with
  | zero =>
   gi_wp2
   go_end0
   exact ⟨⟨_, rfl⟩, .inl ⟨_, rfl, hJs⟩⟩
  | succ j =>
   rw [show ((j + 1 : Nat) : Int) - 1 = j by omega];have hbc := hK.out.cell (p := ⟨Bs, 0, none⟩) hBk hBs;obtain ⟨ad, rfl, hc⟩ := row_some (f_cells hF.out hkeep hK.out) (show j < zs.length by omega);have hx := hc j (by omega);clear hc;obtain ⟨fn, tmps, assign, body, hy, hR⟩ := hY _ ⟨j, by omega⟩ wr hJs (by rw [dn_len _ hm]; omega)
   dsimp only [limbEnc] at hy
   gi_wp2
   refine hR.mono ?_;rintro e W3 (⟨rfl, hJ3, hk3⟩ | ⟨rfl, hJx3⟩)
   ·gi_wp2
    go_roundw
    case rel => exact ⟨j, by omega, rfl, by rw [dn_step (show j < zs.length by omega)]; exact hJ3, ⟨hK.out.trans hk3⟩⟩
    case measure => simp [intOf]
   ·gi_wp2
    refine bodyPost_ret (results_none rfl _ _ _) rfl ?_;exact ⟨⟨_, rfl⟩, .inr ⟨_, ⟨j, by omega, rfl⟩, by rw [dn_step (show j < zs.length by omega)]; exact hJx3⟩⟩
theorem limbs_stops (keep : Nat → Prop) (Bs : Nat) (ok : Nat → Prop) (A : Option Addr) (c : Nat) (zs : List Int) (hl : zs.length ≤ 1000000) (w : World) (hF : Kd.F (Kd.int .u32) w ok A zs.length zs) (hkeep : ∀ i, ok i → keep i) (hBk : keep Bs) (hBs : w.cell? ⟨Bs, 0, none⟩ = some (.slice A zs.length c)) :
  SeqStopsK Fence.wide 2 Tryd.prog 106 #[.pointer (some ⟨Bs, 0, none⟩)] (limbEnc zs) (Keeps keep) (fun ys => ys = dn zs.length 0) (fun pre => ∃ m, m ≤ zs.length ∧ pre = dn zs.length m) zs.length w := fun l J Jx W hW _ _ hY h0 =>
 limbs1_in keep l Bs ok A c zs hl J Jx W (Kd.F_below hF hW) (fun i hi _ => hkeep i hi) hBk hY (pw_cell_below hW hBs) h0
theorem nat_limbs (A : Option Addr) (n c : Nat) (w : World) : Calls Tryd.prog 95 #[.slice A n c] w fun e w' => e = .returned (.func (.func 106) #[] #[.pointer (some ⟨w.heap.size, 0, none⟩)]) ∧ w' = w.alloc (.cells #[.slice A n c] 22) := by
 go_enter Tryd.func95, Tryd.ntmps95;go_wp2;go_ret;exact ⟨rfl, rfl⟩
theorem wp_range {P : Program} {α : Type} {g : Operand} {ps : Array Tmp} {assign body : Code} {Q : Exit → Act → World → Prop} {a : Act} {w : World}
  {gf : Nat} {lb : Array Value} (hg : a.eval g = .func (.func gf) #[] lb) (eg : ∀ args w, (callFunc gf args).run P w = .ok (.enter gf args) w)
  {encs : α → Array Value} {Kp : World → World → Prop} {S Sp : List α → Prop} {N : Nat} {w0 : World} (hseq : SeqStopsK Fence.wide 2 P gf lb encs Kp S Sp N w0)
  (hKt : ∀ {A B C : World}, Kp A B → Kp B C → Kp A C) (hKb : ∀ (W : World) (l : Nat) (o o' : Obj), w.heap.size ≤ l → W.heap[l]? = some o → o.isCells = false → o.isWalk = false → Kp W (W.putObj l o')) (hb0 : Below w0.heap.size w0 w) (hps : ∀ x, (encs x).size = ps.size)
  (I : List α → World → Prop) (Ix : Code → List α → World → Prop) (hI : OwnFrom w.heap.size I) (hIx : ∀ c, OwnFrom w.heap.size (Ix c)) (h0 : I [] w) (a₁ : α → Act)
  (hassign : ∀ (l : Nat) (x : α) (W : World) (K : Act → World → Prop), K (a₁ x) W →
   assign.wpIn (Fence.wide.inRound l) 1 P (Exit.then K (fun _ _ _ => False)) { tmps := (ps.zip (encs x)).foldl (fun t (p, v) => t.setIfInBounds p v) a.tmps, defers := [] } W)
  (hbody : ∀ (l : Nat) (pre : List α) (x : α) (W : World), I pre W → pre.length < N → body.wpIn (Fence.wide.inRound l) 1 P (ownPostK Kp I Ix (pre ++ [x]) W) (a₁ x) W)
  (hdone : ∀ (D : Nat) (xs : List α) (W : World), w.heap.size ≤ D → S xs → I xs W → W.heap[D]? = some (.deferred (some [])) → Q .normal { a with defers := { target := .collected D, args := #[] } :: a.defers } W)
  (hstop : ∀ (D : Nat) (c : Code) (pre : List α) (W : World), w.heap.size ≤ D → Sp pre → Ix c pre W → W.heap[D]? = some (.deferred (some [])) → c.wp P Q { a with defers := { target := .collected D, args := #[] } :: a.defers } W) :
  (Code.rangeFunc g ps assign body).wp P Q a w :=
 wpIn_wide.1 (wpIn_rangeFunc_ownF (n := 3) rfl (by decide) hg trivial eg hseq hKt hKb hb0 hps I Ix hI hIx h0 a₁ hassign hbody hdone (fun D c pre W h1 h2 h3 h4 => wpIn_wide.2 (hstop D c pre W h1 h2 h3 h4)))
end Go.Proofs.YthpgjgmaamcaoaaDoor.P
end
section
namespace Go.Proofs.YthpgjgmaamcaoaaDoor.P
open Go.RowKit Go.Shelf Go.Proofs.YthpgjgmaamcaoaaDoorW.PrintWords Go.Proofs.YthpgjgmaamcaoaaDoorW.PrintLast Go.Proofs.YthpgjgmaamcaoaaDoorW.PrintMore Go.Proofs.YthpgjgmaamcaoaaDoor.Nm
set_option maxRecDepth 100000
attribute [local go_sem] Oper.semAt_some
def sgn (n : Int) : Int := if n < 0 then -1 else if n = 0 then 0 else 1
theorem marks_ret {F : Fence} {n : Nat} {P : Program} {fn : Func} {R : Ending → World → Prop} {tmps : Array Value} {w : World} (v : Value) (h : (results fn tmps).run P w = .ok v w) (hR : R (.returned v) w) : bodyPostM F n P fn R .ret { tmps := tmps, defers := [] } w := ⟨_, h, hR⟩
theorem marks_ret1 {F : Fence} {n : Nat} {P : Program} {fn : Func} {R : Ending → World → Prop} {tmps : Array Value} {w : World} {D : Nat} (hK : w.heap[D]? = some (.deferred (some []))) (v : Value) (h : (results fn tmps).run P (w.putObj D (.deferred none)) = .ok v (w.putObj D (.deferred none))) (hR : R (.returned v) (w.putObj D (.deferred none))) : bodyPostM F n P fn R .ret { tmps := tmps, defers := [{ target := .collected D, args := #[] }] } w :=
 ⟨by simp, .inl ⟨_, _, rfl, run_takeDeferred hK, _, h, hR⟩⟩
theorem val_len_lt {B : Int} (hB : 2 ≤ B) {a b : List Int} (ha : Dg B a) (hb : Dg B b) (tb : Tm b) (h : a.length < b.length) : val B a < val B b := by
 refine Classical.byContradiction fun hc => ?_
 have h1 := val_lt (B := B) (by omega) ha;have h2 := dig_len hB (n := val B b) (k := a.length) (by omega);rw [dig_val hB hb tb] at h2
 omega
theorem val_drop (B : Int) (l : List Int) (k : Nat) (h : k ≤ l.length) : val B l = val B (l.take k) + B ^ k * val B (l.drop k) := by
 conv => lhs; rw [← List.take_append_drop k l]
 rw [val_append, List.length_take, Nat.min_eq_left h]
theorem val_top_lt {B : Int} (hB : 2 ≤ B) {a b : List Int} (ha : Dg B a) (hb : Dg B b) (hl : a.length = b.length) {j : Nat} (hj : j < a.length) (he : a.drop (j + 1) = b.drop (j + 1)) (hlt : a[j] < b[j]'(by omega)) : val B a < val B b := by
 rw [val_drop B a (j + 1) (by omega), val_drop B b (j + 1) (by omega), he, List.take_succ_eq_append_getElem hj, List.take_succ_eq_append_getElem (show j < b.length by omega), val_snoc, val_snoc, List.length_take, List.length_take, Nat.min_eq_left (by omega), Nat.min_eq_left (by omega)];have h1 := val_lt (B := B) (by omega) (ha.take j);have h2 := val_nonneg (B := B) (by omega) (hb.take j);rw [List.length_take, Nat.min_eq_left (by omega)] at h1;have hp := pow_pos' (B := B) (by omega) j;have h3 : B ^ j * (a[j] + 1) ≤ B ^ j * b[j]'(by omega) := Int.mul_le_mul_of_nonneg_left (by omega) (by omega);rw [Int.mul_add, Int.mul_one] at h3
 omega
theorem below_put {w W : World} {D : Nat} {o : Obj} (h : Below w.heap.size w W) (hD : w.heap.size ≤ D) (hK : W.heap[D]? = some o) (o' : Obj) : Below w.heap.size w (W.putObj D o') :=
 h.grown (grownBy_putObj' W D o') h.size (fun k e => by cases e; exact hD)
theorem cell_put {W : World} {D : Nat} {o o' : Obj} (hK : W.heap[D]? = some o) (ho : o.isCells = false) {a : Addr} {v : Value} (h : W.cell? a = some v) : (W.putObj D o').cell? a = some v := cell_kept h (grownBy_putObj' W D o') (fun r e => by cases e; exact ⟨o, hK, ho⟩)
theorem sgn_lt {n : Int} (h : n < 0) : sgn n = -1 := by unfold sgn; rw [if_pos h]
theorem sgn_gt {n : Int} (h : 0 < n) : sgn n = 1 := by unfold sgn; rw [if_neg (by omega), if_neg (by omega)]
theorem sgn_zero {n : Int} (h : n = 0) : sgn n = 0 := by unfold sgn; rw [if_neg (by omega), if_pos h]
def SameAt (ps qs : List Int) (pre : List (Fin ps.length)) : Prop := ∀ x ∈ pre, ps[x.1]'x.2 = qs.getD x.1 0
def CmpEx (ps qs : List Int) (pre : List (Fin ps.length)) (r : Int) : Prop := ∃ pre' x, pre = pre' ++ [x] ∧ SameAt ps qs pre' ∧ ((ps[x.1]'x.2 < qs.getD x.1 0 ∧ r = -1) ∨ (qs.getD x.1 0 < ps[x.1]'x.2 ∧ r = 1))
theorem same_drop {ps qs : List Int} (hl : ps.length = qs.length) {m : Nat} (h : SameAt ps qs (dn ps.length m)) : ps.drop m = qs.drop m := by
 refine List.ext_getElem (by simp [hl]) fun i h1 h2 => ?_
 have hi : m + i < ps.length := by simp at h1; omega
 have := h ⟨m + i, hi⟩ ((dn_mem _).2 (by simp));simp only [List.getElem_drop];rw [this, List.getD_eq_getElem?_getD, List.getElem?_eq_getElem (show m + i < qs.length by omega)]
 rfl
theorem cmp_ex {ps qs : List Int} (da : Dg B32 ps) (db : Dg B32 qs) (hl : ps.length = qs.length) {m : Nat} (hm : m ≤ ps.length) {r : Int} (h : CmpEx ps qs (dn ps.length m) r) : r = sgn (val B32 ps - val B32 qs) := by
 obtain ⟨pre', x, e, hs, hr⟩ := h
 have hlt : m < ps.length := by
  refine Classical.byContradiction fun hc => ?_
  obtain rfl : m = ps.length := by omega
  rw [dn_end] at e
  simp at e
 rw [dn_step hlt] at e;obtain ⟨rfl, e2⟩ := List.append_inj' e rfl
 injection e2 with e3 _
 subst e3;have hd := same_drop hl hs
 have hq : qs.getD m 0 = qs[m]'(by omega) := by rw [List.getD_eq_getElem?_getD, List.getElem?_eq_getElem (show m < qs.length by omega)]; rfl
 simp only [hq] at hr
 rcases hr with ⟨h, rfl⟩ | ⟨h, rfl⟩
 ·have := val_top_lt (by decide) da db hl hlt hd h
  rw [sgn_lt (n := val B32 ps - val B32 qs) (by omega)]
 ·have := val_top_lt (by decide) db da hl.symm (show m < qs.length by omega) hd.symm h
  rw [sgn_gt (n := val B32 ps - val B32 qs) (by omega)]
theorem cmp_all {ps qs : List Int} (hl : ps.length = qs.length) (h : SameAt ps qs (dn ps.length 0)) : ps = qs := by simpa using same_drop hl h
theorem SameAt.snoc {ps qs : List Int} {pre : List (Fin ps.length)} {x : Fin ps.length} (h : SameAt ps qs pre) (hx : ps[x.1]'x.2 = qs.getD x.1 0) : SameAt ps qs (pre ++ [x]) := fun y hy => by
 rcases List.mem_append.1 hy with hy | hy
 ·exact h y hy
 ·obtain rfl : y = x := by simpa using hy
  exact hx
structure CmpIn (w : World) (A : Option Addr) (c : Nat) (ps : List Int) (B : Option Addr) (d : Nat) (qs : List Int) (n : Int) : Prop where
 fa : Cv (Kd.int .u32) (fun _ => True) w (.slice A ps.length c) ps
 fb : Cv (Kd.int .u32) (fun _ => True) w (.slice B qs.length d) qs
 da : Dg B32 ps
 db : Dg B32 qs
 ta : Tm ps
 tb : Tm qs
 la : ps.length ≤ 1000000
 lb : qs.length ≤ 1000000
 num : val B32 ps - val B32 qs = n
theorem nat_Cmp (u v : Value) (xs ys : List Int) (w : World) (h : Cv (Kd.int .u32) (fun _ => True) w u xs) (h' : Cv (Kd.int .u32) (fun _ => True) w v ys) (dx : Dg B32 xs) (dy : Dg B32 ys) (lx : xs.length ≤ 1000000) (ly : ys.length ≤ 1000000) :
  Calls Tryd.prog 71 #[u, v] w fun e w' => e = .returned (.int .i64 (sgn (val B32 xs - val B32 ys))) ∧ Below w.heap.size w w' := by
 obtain ⟨A, c, rfl, hc, hF⟩ := h;obtain ⟨B, d, rfl, hd, hG⟩ := h'
 have tx := fun W hb => nat_trim0 (fun _ => True) A c xs W hc (Kd.F_below hF hb)
 have ty := fun W hb => nat_trim0 (fun _ => True) B d ys W hd (Kd.F_below hG hb)
 obtain ⟨n, hn⟩ : ∃ n : Int, n = val B32 xs - val B32 ys := ⟨_, rfl⟩
 rw [← hn];have hn := Sdq.mk hn;refine (callsIn_wide (n := 3)).1 (callsIn_of_wp_marks Tryd.func71 rfl trivial (wpIn_wide.2 ?_) rfl);simp only [Tryd.ntmps71, List.size_toArray, List.length_cons, List.length_nil, Nat.reduceAdd, Nat.reduceSub, Array.replicate_succ, Array.replicate_zero, List.push_toArray, List.append_toArray, List.nil_append, List.cons_append]
 go_wp2_with fail
 have C := Ctx.new (cs := [.int .i64 0]) (t := 3) (Ctx.new (cs := [.slice B ys.length d]) (t := 22) (Ctx.cons (uB w) (Below.refl _ _) Ctx.nil));simp only [World.size_alloc] at C;refine absW _ C ?_;clear C;intro w1 C;have hb := C.2.2.1;have x0 := Ctx.blk C.2.1 0 rfl;have y0 := Ctx.frz C.2.1 0;refine wp_region_still_tail 4 (by kernel_rfl) (by kernel_rfl) ?_;simp only [List.take_succ_cons, List.take_zero, List.drop_succ_cons, List.drop_zero]
 still_step
 still_call (tx w1.drew (below_drew hb))
 still_step
 still_call (ty w1.drew (below_drew hb))
 refine wpStill_nil ?_
 go_upto_region 2 with fail
 have C2 : Ctx [uBlk (w.heap.size + 1) [.int .i64 0] 3, uBlk w.heap.size [.slice B (trim ys).length d] 22, uB w] (w1.setCell ⟨w.heap.size, 0, none⟩ (.slice B (trim ys).length d)).drew :=
  Ctx.drew ⟨Ctx.far C.1 0 _ (by omega), Ctx.put C.2.1 0 _, bstq hb (Nat.le_refl _), trivial⟩
 clear C hb x0 y0 tx ty;refine absW _ C2 ?_;clear C2;intro w2 C
 have I : CmpIn w A c (trim xs) B d (trim ys) n := ⟨trim_cv hc hF, trim_cv hd hG, trim_Dg dx, trim_Dg dy, trim_Tm _, trim_Tm _, by have := trim_length xs; omega, by have := trim_length ys; omega, by rw [trim_val, trim_val]; exact hn.out.symm⟩
 clear hn hc hF hd hG dx dy lx ly;generalize trim xs = ps at C I ⊢;generalize trim ys = qs at C I ⊢;have I := Sdq.mk I;have x1 := Ctx.blk C.1 0 rfl;have x2 := Ctx.blk C.2.1 0 rfl;have f1 := Ctx.frz C.1 0;have c1 := Sdq.mk (Ctx.put C.1 0 (.int .i64 (-1)));have c2 := Sdq.mk (Ctx.put C.1 0 (.int .i64 1));have c0 := Sdq.mk (Ctx.put C.1 0 (.int .i64 0));have C := Sdq.mk C
 rcases Nat.lt_trichotomy ps.length qs.length with hlt | hq | hlt
 ·go_wp2
  have x1 := Ctx.blk c1.out 0 rfl;refine marks_ret (.int .i64 (-1)) (by simp [results, Tryd.results71, go_sem, x1]) ⟨?_, bstq C.out.2.2.1 (by omega)⟩;rw [sgn_lt (n := n) (by have := val_len_lt (by decide) I.out.da I.out.db I.out.tb hlt; have := I.out.num; omega)]
 ·have hge : ¬ ps.length < qs.length := by omega
  have heq := Sdq.mk hq;clear hq
  have hle : ¬ qs.length < ps.length := by have := heq.out; omega
  go_wp2_with (go_at_call 95; refine (nat_limbs _ _ _ _).mono ?_; rintro e w' ⟨rfl, rfl⟩);clear x1 x2 f1;have K := Ctx.new (cs := [.slice A ps.length c]) (t := 22) C.out;refine absW _ K ?_;clear K C c0 c1 c2;intro w3 C;have hB2 : Below w.heap.size w w3 := C.2.2.2.1;have hF := Sdq.mk (I.out.fa.below hB2);have hG := Sdq.mk (I.out.fb.below hB2);have C := Sdq.mk C;clear hB2
  obtain ⟨hFr, hFl⟩ : Kd.F (Kd.int .u32) w3 (fun k => k < w3.heap.size) A ps.length ps ∧ True := by
   obtain ⟨A', c', e, _, h⟩ := hF.out
   injection e with e1 _ _
   subst e1;exact ⟨Kd.F_mono (Kd.F_bound h) (fun k hk => hk.2), trivial⟩
  have hGr : Sdq (∀ W, Below w3.heap.size w3 W → IsRow .u32 W B qs) := by
   obtain ⟨B', d', e, _, h⟩ := hG.out
   injection e with e1 _ _
   subst e1;exact ⟨fun W hW => row_of (Kd.F_below h hW)⟩
  apply wp_range (gf := 106) (lb := #[.pointer (some ⟨w2.heap.size, 0, none⟩)]) rfl (enters_of Tryd.func106 (by kernel_rfl) rfl)
   (limbs_stops (fun k => k < w3.heap.size) w2.heap.size (fun k => k < w3.heap.size) A c ps I.out.la w3 hFr (fun _ h => h) (blk_lt C.out.1) (Ctx.blk C.out.1 0 rfl))
   Keeps.trans (keeps_book (fun _ h => h)) (Below.refl _ _) (fun _ => rfl)
   (fun pre W => Below w3.heap.size w3 W ∧ Sdq (SameAt ps qs pre))
   (fun cd pre W => cd = .ret ∧ Below w.heap.size w W ∧ ∃ r, W.cell? ⟨w.heap.size + 1, 0, none⟩ = some (.int .i64 r) ∧ CmpEx ps qs pre r)
   (OwnFrom.and (ownFrom_below (Nat.le_refl _) (Nat.le_refl _)) (ownFrom_pure _ _))
   (fun cd => fun s X Y row hs hg hr => ⟨hs.1, hs.2.1.grown hg hs.2.1.size (fun k e => by have := (hr k e).1; have := C.out.2.2.2.1.size; omega), by obtain ⟨r, h1, h2⟩ := hs.2.2; exact ⟨r, cell_kept h1 hg (fun r e => (hr r e).2), h2⟩⟩)
   ⟨Below.refl _ _, ⟨fun x hx => by cases hx⟩⟩ _ ?assign ?body ?done ?stop
  case assign =>
   intro l x W K hK
   dsimp only [limbEnc]
   gi_wp2
   exact hK
  case body =>
   rintro l pre ⟨j, hj⟩ W ⟨hb, he⟩ hlen
   have hj' : j < qs.length := by have := heq.out; omega
   obtain ⟨bd, eB, hc⟩ := row_some (hGr.out W hb) hj';have hy := hc j hj';clear hc;subst eB;have x2 := Ctx.blk (Ctx.below hb C.out).2.2.1 0 rfl;have x1 := Ctx.blk (Ctx.below hb C.out).2.1 0 rfl;have f1 := Ctx.frz (Ctx.below hb C.out).2.1 0;have hb := Sdq.mk hb
   have hB : ∀ r, Below w.heap.size w (W.setCell ⟨w.heap.size + 1, 0, none⟩ (.int .i64 r)) := fun r => bstq ((Ctx.below hb.out C.out).2.2.2.1) (by omega)
   have hC : ∀ r, (W.setCell ⟨w.heap.size + 1, 0, none⟩ (.int .i64 r)).cell? ⟨w.heap.size + 1, 0, none⟩ = some (.int .i64 r) := fun r => Ctx.blk (Ctx.put (Ctx.below hb.out C.out).2.1 0 (.int .i64 r)) 0 rfl
   have hB := Sdq.mk hB;have hC := Sdq.mk hC
   have hq : qs.getD j 0 = qs[j]'hj' := by rw [List.getD_eq_getElem?_getD, List.getElem?_eq_getElem hj']; rfl
   have hq := Sdq.mk hq
   rcases Int.lt_trichotomy ps[j] (qs[j]'hj') with h | h | h
   ·have h1 : decide (ps[j] < qs[j]'hj') = true := decide_eq_true h
    have hx : Sdq (CmpEx ps qs (pre ++ [⟨j, hj⟩]) (-1)) := ⟨pre, _, rfl, he.out, .inl ⟨by simp only [hq.out]; exact h, rfl⟩⟩
    clear hq
    gi_wp2
    exact ⟨KeepsOthers.setCell _ _ _, rfl, hB.out _, _, hC.out _, hx.out⟩
   ·have hx := Sdq.mk (he.out.snoc (x := ⟨j, hj⟩) (by simp only [hq.out]; exact h))
    have h1 : ¬ ps[j] < qs[j]'hj' := by omega
    have h2 : ¬ qs[j]'hj' < ps[j] := by omega
    clear hq h
    gi_wp2
    exact ⟨KeepsOthers.refl _, Keeps.refl _, hb.out, hx⟩
   ·have h1 : ¬ ps[j] < qs[j]'hj' := by omega
    have hx : Sdq (CmpEx ps qs (pre ++ [⟨j, hj⟩]) 1) := ⟨pre, _, rfl, he.out, .inr ⟨by simp only [hq.out]; exact h, rfl⟩⟩
    clear hq
    gi_wp2
    exact ⟨KeepsOthers.setCell _ _ _, rfl, hB.out _, _, hC.out _, hx.out⟩
  case done =>
   rintro D pre W hD rfl ⟨hb, he⟩ hK;have hz := Sdq.mk (show sgn n = 0 from sgn_zero (by rw [← I.out.num, cmp_all heq.out he.out]; omega));have CC := Ctx.below hb C.out;have x1 := Ctx.blk CC.2.1 0 rfl;have f1 := Ctx.frz CC.2.1 0;have c0 := Ctx.put CC.2.1 0 (.int .i64 0);have hB := Sdq.mk (bstq (j := 0) (v := .int .i64 0) CC.2.2.2.1 (show w.heap.size ≤ w.heap.size + 1 by omega));have hKo := Sdq.mk (show (W.setCell ⟨w.heap.size + 1, 0, none⟩ (.int .i64 0)).heap[D]? = some (.deferred (some [])) from (Below.heap_setCell W _ _ D (show D ≠ w.heap.size + 1 by have := blk_lt C.out.2.1; omega)).trans hK);have hD' := Sdq.mk (show w.heap.size ≤ D by have := blk_lt C.out.2.1; omega);have c0 := Sdq.mk c0;clear hb CC C hK hD;go_wp2;have x1 := cell_put hKo.out rfl (o' := .deferred none) (Ctx.blk c0.out 0 rfl);exact marks_ret1 hKo.out (.int .i64 0) (by simp [results, Tryd.results71, go_sem, x1]) ⟨by rw [hz.out], below_put hB.out hD'.out hKo.out _⟩
  case stop =>
   rintro D cd pre W hD ⟨m, hm, rfl⟩ ⟨rfl, hb, r, hc, hx⟩ hK;have hr := cmp_ex I.out.da I.out.db heq.out hm hx;rw [I.out.num] at hr;have hKo := Sdq.mk hK;have hB := Sdq.mk hb;have hcell := Sdq.mk hc;have hD' := Sdq.mk (show w.heap.size ≤ D by have := blk_lt C.out.2.1; omega);subst hr;clear hK hb hc hD;go_wp2;have x1 := cell_put hKo.out rfl (o' := .deferred none) hcell.out;exact marks_ret1 hKo.out (.int .i64 (sgn n)) (by simp [results, Tryd.results71, go_sem, x1]) ⟨rfl, below_put hB.out hD'.out hKo.out _⟩
 ·have hge : ¬ ps.length < qs.length := by omega
  go_wp2;have x1 := Ctx.blk c2.out 0 rfl;refine marks_ret (.int .i64 1) (by simp [results, Tryd.results71, go_sem, x1]) ⟨?_, bstq C.out.2.2.1 (by omega)⟩;rw [sgn_gt (n := n) (by have := val_len_lt (by decide) I.out.db I.out.da I.out.ta hlt; have := I.out.num; omega)]
end Go.Proofs.YthpgjgmaamcaoaaDoor.P
end
section
namespace Go.Proofs.YthpgjgmaamcaoaaDoor.P
open Go.RowKit Go.Shelf Go.Proofs.YthpgjgmaamcaoaaDoorW.PrintWords Go.Proofs.YthpgjgmaamcaoaaDoorW.PrintLast Go.Proofs.YthpgjgmaamcaoaaDoorW.PrintMore Go.Proofs.YthpgjgmaamcaoaaDoor.Nm
set_option maxRecDepth 100000
theorem nat_Sub_less (u v : Value) (xs ys : List Int) (w : World) (h : Cv (Kd.int .u32) (fun _ => True) w u xs) (h' : Cv (Kd.int .u32) (fun _ => True) w v ys) (dx : Dg B32 xs) (dy : Dg B32 ys) (lx : xs.length ≤ 1000000) (ly : ys.length ≤ 1000000) (hlt : val B32 xs < val B32 ys) :
  Calls Tryd.prog 74 #[u, v] w fun e w' => e = .returned (.tuple #[.slice none 0 0, .int .i64 5]) ∧ Below w.heap.size w w' := by
 have hc := nat_Cmp u v xs ys w h h' dx dy lx ly;rw [sgn_lt (n := val B32 xs - val B32 ys) (by omega)] at hc;clear h h' dx dy lx ly hlt;go_enter Tryd.func74, Tryd.ntmps74;go_wp2_with (go_at_call 71; refine hc.mono ?_; rintro e w' ⟨rfl, hb⟩)
 go_ret2
 exact ⟨rfl, hb⟩
theorem sub_step {ds xs ys : List Int} {c r q : Int} (h : val B32 ds - B32 ^ ds.length * c = val B32 (xs.take ds.length) - val B32 (ys.take ds.length)) (hr : xs.getD ds.length 0 - ys.getD ds.length 0 - c = r - B32 * q) :
  val B32 (ds ++ [r]) - B32 ^ (ds ++ [r]).length * q = val B32 (xs.take (ds ++ [r]).length) - val B32 (ys.take (ds ++ [r]).length) := by
 rw [List.length_append, List.length_singleton, val_take_succ, val_take_succ, val_snoc, Int.pow_succ];generalize xs.getD ds.length 0 = x at *;generalize ys.getD ds.length 0 = y at *;generalize B32 ^ ds.length = P at *
 have e' : P * (x - y - c) = P * (r - B32 * q) := by rw [hr]
 rw [Int.mul_sub, Int.mul_sub, Int.mul_sub, ← Int.mul_assoc] at e'
 omega
structure SubIn (w : World) (A : Option Addr) (c : Nat) (xs : List Int) (B : Option Addr) (d : Nat) (ys : List Int) (n : Int) : Prop where
 ra : IsRow .u32 w A xs
 rb : IsRow .u32 w B ys
 da : Dg B32 xs
 db : Dg B32 ys
 la : xs.length ≤ 1000000
 le : ys.length ≤ xs.length
 n0 : 0 ≤ n
 num : val B32 xs - val B32 ys = n
def SubTo (ok : Nat → Prop) (n : Int) (w : World) (e : Ending) (w' : World) : Prop := ∃ v, e = .returned (.tuple #[v, .int .i64 0]) ∧ Cv (Kd.int .u32) ok w' v (dig B32 n) ∧ Below w.heap.size w w'
theorem len_of_le {a b : List Int} (ha : Dg B32 a) (hb : Dg B32 b) (ta : Tm a) (tb : Tm b) (h : val B32 b ≤ val B32 a) : b.length ≤ a.length := by
 refine Classical.byContradiction fun hc => ?_
 have := val_len_lt (by decide) ha hb tb (show a.length < b.length by omega)
 omega
theorem nat_Sub (ok : Nat → Prop) (u v : Value) (xs ys : List Int) (w : World) (hok : ∀ k, w.heap.size ≤ k → ok k) (h : Cv (Kd.int .u32) (fun _ => True) w u xs) (h' : Cv (Kd.int .u32) (fun _ => True) w v ys) (dx : Dg B32 xs) (dy : Dg B32 ys) (lx : xs.length ≤ 1000000) (ly : ys.length ≤ 1000000) (hle : val B32 ys ≤ val B32 xs) :
  Calls Tryd.prog 74 #[u, v] w (SubTo ok (val B32 xs - val B32 ys) w) := by
 have hc0 := nat_Cmp u v xs ys w h h' dx dy lx ly
 obtain ⟨s, hs⟩ : ∃ s : Int, s = sgn (val B32 xs - val B32 ys) := ⟨_, rfl⟩
 rw [← hs] at hc0
 have hs0 : ¬ s < 0 := by
  rw [hs];unfold sgn;rw [if_neg (by omega)]
  split <;> omega
 obtain ⟨A, c, rfl, hc, hF⟩ := h;obtain ⟨B, d, rfl, hd, hG⟩ := h'
 have I : SubIn w A c (trim xs) B d (trim ys) (val B32 xs - val B32 ys) := by
  have e1 := trim_cv hc hF;have e2 := trim_cv hd hG;obtain ⟨A', c', e, _, f1⟩ := e1
  injection e with e _ _
  subst e;obtain ⟨B', d', e, _, f2⟩ := e2
  injection e with e _ _
  subst e;exact ⟨row_of f1, row_of f2, trim_Dg dx, trim_Dg dy, by have := trim_length xs; omega, len_of_le (trim_Dg dx) (trim_Dg dy) (trim_Tm _) (trim_Tm _) (by rw [trim_val, trim_val]; exact hle), by omega, by rw [trim_val, trim_val]⟩
 have tx := fun W hb => nat_trim0 (fun _ => True) A c xs W hc (Kd.F_below hF hb)
 have ty := fun W hb => nat_trim0 (fun _ => True) B d ys W hd (Kd.F_below hG hb)
 generalize val B32 xs - val B32 ys = n at I hs ⊢;have I := Sdq.mk I;have hok := Sdq.mk hok;clear hs hc hd hF hG dx dy hle lx ly;go_enter Tryd.func74, Tryd.ntmps74
 go_upto_region 3 with (go_at_call 71; refine hc0.mono ?_; rintro e w1 ⟨rfl, hb⟩)
 have tx := tx w1 hb;have ty := ty w1 hb;clear hc0;generalize trim xs = ps at I tx;generalize trim ys = qs at I ty
 go_upto_region 4 with (first | (go_at_call 94; (with_reducible refine tx.mono ?_); rintro e w' ⟨rfl, rfl⟩) | (go_at_call 94; (with_reducible refine ty.mono ?_); rintro e w' ⟨rfl, rfl⟩))
 have ra := Sdq.mk (I.out.ra.below hb);have rb := Sdq.mk (I.out.rb.below hb);have hb := Sdq.mk hb;have hl := I.out.la;clear tx ty hs0;generalize w' = wc at ra rb hb ⊢;have hmk := print_make_int (P := Tryd.prog) 22 93 (.int .u32 0) 4 Tryd.underlying22 info93 rfl (by decide) (ps.length : Int) (by omega) (by omega);rw [Int.toNat_natCast] at hmk;have hO := Sdq.mk (Own.made (k := .u32) (e := 93) wc ps.length);have hB := Sdq.mk (bal (Below.refl wc.heap.size wc) (.cells (madeCells #[.int .u32 0] ps.length) 93))
 go_wp2_with fail
 clear hmk;generalize wc.alloc _ = w1 at hO hB ⊢
 go_loopg [7, 23] ps.length (fun gk s7 s23 wr => ∃ (ds : List Int) (cr : Int), gk + ds.length = ps.length ∧ s23 = .int .i64 ds.length ∧ s7 = .int .u32 cr ∧ 0 ≤ cr ∧ cr ≤ 1 ∧ Sdq (Dg B32 ds ∧ val B32 ds - B32 ^ ds.length * cr = val B32 (ps.take ds.length) - val B32 (qs.take ds.length)) ∧ Sdq (Own .u32 93 wc.heap.size wr (ds ++ List.replicate (ps.length - ds.length) 0)) ∧ Sdq (Below wc.heap.size wc wr))
 case atStart => exact ⟨[], 0, rfl, rfl, rfl, by omega, by omega, ⟨Dg.nil, by simp⟩, ⟨by simpa using hO.out⟩, hB⟩
 case round =>
  clear hO hB;obtain ⟨ds, cr, hg, rfl, rfl, c0, c1, hv, hO, hB⟩ := hrel
  cases gk with
  | zero =>
   have hres := Sdq.mk (show trim ds = dig B32 n by
    have e := hv.out.2;rw [List.take_of_length_le (show ps.length ≤ ds.length by omega), List.take_of_length_le (show qs.length ≤ ds.length by have := I.out.le; omega), I.out.num] at e;have h1 := val_lt (B := B32) (by decide) hv.out.1;have h2 := I.out.n0
    have hcr : cr = 0 := by
     rcases (show cr = 0 ∨ cr = 1 by omega) with h | h
     ·exact h
     ·rw [h] at e; omega
    rw [hcr, Int.mul_zero, Int.sub_zero] at e
    rw [trim_dig (by decide) hv.out.1, e])
   have hX := hO.out;rw [show ps.length - ds.length = 0 by omega, List.replicate_zero, List.append_nil] at hX;have hT := Sdq.mk (hX.cv (by omega) (ok := fun k => wc.heap.size ≤ k) (Nat.le_refl _) ps.length (by omega));rw [show ds.length = ps.length by omega] at hT
   have hlen : ds.length = ps.length := by omega
   have hge : ¬ (ds.length : Int) < (ps.length : Int) := by omega
   clear hX hO hv hlen;go_wp2_with (go_at_call 94; refine (nat_trim _ _ _ _ hT.out).mono ?_; rintro e w' ⟨v, rfl, hv, hb2⟩);have hv := Sdq.mk (hv.mono (fun k hk => hok.out k (Nat.le_trans hb.out.size hk)));have hb3 := Sdq.mk (below_step hb.out (below_step hB.out hb2))
   go_ret2
   exact ⟨_, rfl, hres.out ▸ hv.out, hb3.out⟩
  | succ j =>
   have hlt : ds.length < ps.length := by omega
   obtain ⟨cv, hcell⟩ : ∃ cv, wr.cell? ⟨wc.heap.size, ds.length, none⟩ = some cv := ⟨_, hO.out.at_ (i := ds.length) (by simp; omega)⟩
   have hfree := hO.out.free ds.length;obtain ⟨ad, rfl, hc⟩ := row_some (ra.out.below hB.out) hlt;have hx := hc ds.length hlt;clear hc;have hxd := dg_getD (by decide) I.out.da ds.length;have hyd := dg_getD (by decide) I.out.db ds.length
   have ex : ps.getD ds.length 0 = ps[ds.length] := by simp [List.getD_eq_getElem?_getD, hlt]
   rw [ex] at hxd
   have hsub := fun W => bits_Sub32 ps[ds.length] (qs.getD ds.length 0) cr W hxd hyd ⟨c0, c1⟩
   unfold SubPost at hsub
   obtain ⟨r, hr⟩ : ∃ r : Int, r = (ps[ds.length] - qs.getD ds.length 0 - cr) % B32 := ⟨_, rfl⟩
   obtain ⟨q, hq⟩ : ∃ q : Int, q = if ps[ds.length] < qs.getD ds.length 0 + cr then 1 else 0 := ⟨_, rfl⟩
   rw [← hr, ← hq] at hsub
   have hR : Sdq (0 ≤ r ∧ r < B32 ∧ 0 ≤ q ∧ q ≤ 1 ∧ ps.getD ds.length 0 - qs.getD ds.length 0 - cr = r - B32 * q) := ⟨by
    rw [ex, hr, hq];unfold B32 at *
    split <;> omega⟩
   have hW : Sdq (Dg B32 (ds ++ [r]) ∧ val B32 (ds ++ [r]) - B32 ^ (ds ++ [r]).length * q = val B32 (ps.take (ds ++ [r]).length) - val B32 (qs.take (ds ++ [r]).length)) :=
    ⟨hv.out.1.append (Dg.cons ⟨hR.out.1, hR.out.2.1⟩ Dg.nil), sub_step hv.out.2 hR.out.2.2.2.2⟩
   have hX := hO.out.put ds.length r;rw [replicate_snoc hlt] at hX
   have hX : Sdq (Own .u32 93 wc.heap.size _ ((ds ++ [r]) ++ List.replicate (ps.length - (ds ++ [r]).length) 0)) := ⟨by rw [List.length_append]; exact hX⟩
   have hBX := Sdq.mk (bstq (j := ds.length) (v := .int .u32 r) hB.out (Nat.le_refl _));generalize hy : qs.getD ds.length 0 = y at hsub;clear ex hxd hyd hO hv hr hq;by_cases hj : ds.length < qs.length
   ·obtain ⟨bd, rfl, hc⟩ := row_some (rb.out.below hB.out) hj
    have hyc : wr.cell? (bd.add ds.length) = some (.int .u32 y) := by
     rw [hc ds.length hj, ← hy]
     simp [List.getD_eq_getElem?_getD, hj]
    clear hc hy hB;go_wp2_with (go_at_call 98; refine (hsub _).mono ?_; rintro e w' ⟨rfl, rfl⟩)
    go_roundg j
    case measure => omega
    case rel => exact ⟨ds ++ [r], q, by simp; omega, by simp, rfl, hR.out.2.2.1, hR.out.2.2.2.1, hW, hX, hBX⟩
   ·have hy0 : y = 0 := by rw [← hy]; simp [List.getD_eq_getElem?_getD, List.getElem?_eq_none (show qs.length ≤ ds.length by omega)]
    subst hy0;clear hy hB;go_wp2_with (go_at_call 98; refine (hsub _).mono ?_; rintro e w' ⟨rfl, rfl⟩)
    go_roundg j
    case measure => omega
    case rel => exact ⟨ds ++ [r], q, by simp; omega, by simp, rfl, hR.out.2.2.1, hR.out.2.2.2.1, hW, hX, hBX⟩
end Go.Proofs.YthpgjgmaamcaoaaDoor.P
end
