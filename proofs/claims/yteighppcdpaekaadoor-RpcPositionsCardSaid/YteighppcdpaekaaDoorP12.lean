/- Walks and words of this session, put together by a program of this session (pack.py). Conditions: as each text says. -/
import Derived.Deep.RegionHeld3
import Derived.BigRegion
import Derived.Lib.SlBytesConst
import Derived.Lib.ItoaNum
import Derived.Lib.AtoiTie
import Derived.Test.YteighppcdpaekaaDoorP2
import Derived.Test.YteighppcdpaekaaDoorP3
import Derived.Test.YteighppcdpaekaaDoorP9
import Derived.Test.YteighppcdpaekaaDoorP11
set_option linter.unusedVariables false
set_option linter.unusedSimpArgs false
section
namespace Go.Proofs.YteighppcdpaekaaDoor.P
open Go.RowKit Go.Proofs.YteighppcdpaekaaDoorW.PrintWords Go.Proofs.YteighppcdpaekaaDoorW.PrintLast Go.Proofs.YteighppcdpaekaaDoorW.PrintMore
abbrev RdOut := Bool × Int × ByteArray × List ByteArray × List S27 × ByteArray × Int × ByteArray × List ByteArray × List S27 × Int × Int × ByteArray × List ByteArray × List S27 × Bool
def rpc_Read.no (cd i1 : Int) (i2 : ByteArray) (i3 : List ByteArray) (i4 : List S27) : RdOut := (false, 0, ⟨#[]⟩, [], [], ⟨#[]⟩, 0, ⟨#[]⟩, [], [], cd, i1, i2, i3, i4, false)
def rpc_Read.params (k : Nat) (p1 : Int) (p2 : ByteArray) (p3 : List ByteArray) (p4 : List S27) (i1 : Int) (i2 : ByteArray) (i3 : List ByteArray) (i4 : List S27) (ih : Bool) (m2 : ByteArray) : Option RdOut :=
 (json_Get.f k p1 p2 p3 p4 ⟨#[112, 97, 114, 97, 109, 115]⟩).bind fun q =>
  if (q.2.2.2.2 && (q.1 != 6 && q.1 != 5)) = true then some (rpc_Read.no (-32600) i1 i2 i3 i4) else
  some (ih, i1, i2, i3, i4, m2, q.1, q.2.1, q.2.2.1, q.2.2.2.1, 0, 0, ⟨#[]⟩, [], [], true)
def rpc_Read.replies (k : Nat) (p1 : Int) (p2 : ByteArray) (p3 : List ByteArray) (p4 : List S27) (i1 : Int) (i2 : ByteArray) (i3 : List ByteArray) (i4 : List S27) (ih : Bool) : Option RdOut :=
 (json_Get.f k p1 p2 p3 p4 ⟨#[114, 101, 115, 117, 108, 116]⟩).bind fun x =>
  if (x.2.2.2.2 && ih) = true then some (rpc_Read.no 0 0 ⟨#[]⟩ [] []) else
  (json_Get.f k p1 p2 p3 p4 ⟨#[101, 114, 114, 111, 114]⟩).bind fun y =>
   if (y.2.2.2.2 && ih) = true then some (rpc_Read.no 0 0 ⟨#[]⟩ [] []) else some (rpc_Read.no (-32600) i1 i2 i3 i4)
def rpc_Read.method (k : Nat) (p1 : Int) (p2 : ByteArray) (p3 : List ByteArray) (p4 : List S27) (i1 : Int) (i2 : ByteArray) (i3 : List ByteArray) (i4 : List S27) (ih : Bool) : Option RdOut :=
 (json_Get.f k p1 p2 p3 p4 ⟨#[109, 101, 116, 104, 111, 100]⟩).bind fun m =>
  if m.2.2.2.2 = false then rpc_Read.replies k p1 p2 p3 p4 i1 i2 i3 i4 ih else
  if (m.1 != 4) = true then some (rpc_Read.no (-32600) i1 i2 i3 i4) else rpc_Read.params k p1 p2 p3 p4 i1 i2 i3 i4 ih m.2.1
def rpc_Read.odd (k : Nat) (p1 v1 : Int) (v2 : ByteArray) (v3 : List ByteArray) (v4 : List S27) (vh : Bool) : Option Bool :=
 if (p1 != 6) = true then some true else if vh = false then some true else
 (json_Text.f ⟨#[50, 46, 48]⟩).bind fun t => (eqT v1 v2 t.1 t.2.1).bind fun b => some (!b)
def rpc_Read.version (k : Nat) (p1 : Int) (p2 : ByteArray) (p3 : List ByteArray) (p4 : List S27) (i1 : Int) (i2 : ByteArray) (i3 : List ByteArray) (i4 : List S27) (ih : Bool) : Option RdOut :=
 (json_Get.f k p1 p2 p3 p4 ⟨#[106, 115, 111, 110, 114, 112, 99]⟩).bind fun v => (rpc_Read.odd k p1 v.1 v.2.1 v.2.2.1 v.2.2.2.1 v.2.2.2.2).bind fun o =>
  if o = true then some (rpc_Read.no (-32600) i1 i2 i3 i4) else rpc_Read.method k p1 p2 p3 p4 i1 i2 i3 i4 ih
def rpc_Read.f (k : Nat) (l0 : List Int) : Option RdOut :=
 (json_Parse.f k l0).bind fun p =>
  if (p.2.2.2.2.2 != 0) = true then some (rpc_Read.no (-32700) 0 ⟨#[]⟩ [] []) else
  (json_Get.f k p.1 p.2.1 p.2.2.1 p.2.2.2.1 ⟨#[105, 100]⟩).bind fun i =>
   (if i.2.2.2.2 = true then (rpc_isID.f i.1 i.2.1 i.2.2.1 i.2.2.2.1).bind fun b => some (!b) else some false).bind fun bad =>
    if bad = true then some (rpc_Read.no (-32600) 0 ⟨#[]⟩ [] []) else rpc_Read.version k p.1 p.2.1 p.2.2.1 p.2.2.2.1 i.1 i.2.1 i.2.2.1 i.2.2.2.1 i.2.2.2.2
def RdPost (w : World) (r : RdOut) (e : Ending) (w' : World) : Prop :=
 ∃ v3 v4 v8 v9 v13 v14 : Value, e = .returned (.tuple #[.agg #[.bool r.1, .int .i64 r.2.1, .string r.2.2.1, v3, v4, .string r.2.2.2.2.2.1, .int .i64 r.2.2.2.2.2.2.1, .string r.2.2.2.2.2.2.2.1, v8, v9], .agg #[.int .i64 r.2.2.2.2.2.2.2.2.2.2.1, .int .i64 r.2.2.2.2.2.2.2.2.2.2.2.1, .string r.2.2.2.2.2.2.2.2.2.2.2.2.1, v13, v14], .bool r.2.2.2.2.2.2.2.2.2.2.2.2.2.2.2]) ∧
  Kd.V Kd.string 9 w' 0 (fun _ => True) v3 r.2.2.2.1 ∧ Kd.V k27 27 w' 0 (fun _ => True) v4 r.2.2.2.2.1 ∧ Kd.V Kd.string 9 w' 0 (fun _ => True) v8 r.2.2.2.2.2.2.2.2.1 ∧ Kd.V k27 27 w' 0 (fun _ => True) v9 r.2.2.2.2.2.2.2.2.2.1 ∧ Kd.V Kd.string 9 w' 0 (fun _ => True) v13 r.2.2.2.2.2.2.2.2.2.2.2.2.2.1 ∧ Kd.V k27 27 w' 0 (fun _ => True) v14 r.2.2.2.2.2.2.2.2.2.2.2.2.2.2.1 ∧ Below w.heap.size w w'
theorem blk4 {W : World} {g t : Nat} {a b c d : Value} (h : (uBlk g [a, b, c, d] t).p W) : W.cell? ⟨g, 0, none⟩ = some a ∧ W.cell? ⟨g, 1, none⟩ = some b ∧ W.cell? ⟨g, 2, none⟩ = some c ∧ W.cell? ⟨g, 3, none⟩ = some d := ⟨Ctx.blk h 0 rfl, Ctx.blk h 1 rfl, Ctx.blk h 2 rfl, Ctx.blk h 3 rfl⟩
theorem blk5 {W : World} {g t : Nat} {a b c d e : Value} (h : (uBlk g [a, b, c, d, e] t).p W) : W.cell? ⟨g, 0, none⟩ = some a ∧ W.cell? ⟨g, 1, none⟩ = some b ∧ W.cell? ⟨g, 2, none⟩ = some c ∧ W.cell? ⟨g, 3, none⟩ = some d ∧ W.cell? ⟨g, 4, none⟩ = some e := ⟨Ctx.blk h 0 rfl, Ctx.blk h 1 rfl, Ctx.blk h 2 rfl, Ctx.blk h 3 rfl, Ctx.blk h 4 rfl⟩
theorem blk10 {W : World} {g t : Nat} {a b c d e f i j k l : Value} (h : (uBlk g [a, b, c, d, e, f, i, j, k, l] t).p W) : W.cell? ⟨g, 0, none⟩ = some a ∧ W.cell? ⟨g, 1, none⟩ = some b ∧ W.cell? ⟨g, 2, none⟩ = some c ∧ W.cell? ⟨g, 3, none⟩ = some d ∧ W.cell? ⟨g, 4, none⟩ = some e ∧ W.cell? ⟨g, 5, none⟩ = some f ∧ W.cell? ⟨g, 6, none⟩ = some i ∧ W.cell? ⟨g, 7, none⟩ = some j ∧ W.cell? ⟨g, 8, none⟩ = some k ∧ W.cell? ⟨g, 9, none⟩ = some l := ⟨Ctx.blk h 0 rfl, Ctx.blk h 1 rfl, Ctx.blk h 2 rfl, Ctx.blk h 3 rfl, Ctx.blk h 4 rfl, Ctx.blk h 5 rfl, Ctx.blk h 6 rfl, Ctx.blk h 7 rfl, Ctx.blk h 8 rfl, Ctx.blk h 9 rfl⟩
abbrev rdW (w W : World) (a b c d e f i j k l m n o p q : Value) : World :=
 (((((((((((((((W.setCell ⟨w.heap.size, 0, none⟩ a).setCell ⟨w.heap.size, 1, none⟩ b).setCell ⟨w.heap.size, 2, none⟩ c).setCell ⟨w.heap.size, 3, none⟩ d).setCell ⟨w.heap.size, 4, none⟩ e).setCell ⟨w.heap.size, 5, none⟩ f).setCell ⟨w.heap.size, 6, none⟩ i).setCell ⟨w.heap.size, 7, none⟩ j).setCell ⟨w.heap.size, 8, none⟩ k).setCell ⟨w.heap.size, 9, none⟩ l).setCell ⟨w.heap.size + 1, 0, none⟩ m).setCell ⟨w.heap.size + 1, 1, none⟩ n).setCell ⟨w.heap.size + 1, 2, none⟩ o).setCell ⟨w.heap.size + 1, 3, none⟩ p).setCell ⟨w.heap.size + 1, 4, none⟩ q)
theorem rd_end {w W : World} {act : Act} {r : RdOut} {v3 v4 v8 v9 v13 v14 : Value}
  (h37 : (uBlk w.heap.size [.bool false, .int .i64 0, .string ⟨#[]⟩, .slice none 0 0, .slice none 0 0, .string ⟨#[]⟩, .int .i64 0, .string ⟨#[]⟩, .slice none 0 0, .slice none 0 0] 37).p W) (h39 : (uBlk (w.heap.size + 1) [.int .i64 0, .int .i64 0, .string ⟨#[]⟩, .slice none 0 0, .slice none 0 0] 39).p W) (hb : (uB w).p W)
  (h3 : (uV Kd.string 9 (w.heap.size + 2) v3 r.2.2.2.1).p W) (h4 : (uV k27 27 (w.heap.size + 2) v4 r.2.2.2.2.1).p W) (h8 : (uV Kd.string 9 (w.heap.size + 2) v8 r.2.2.2.2.2.2.2.2.1).p W) (h9 : (uV k27 27 (w.heap.size + 2) v9 r.2.2.2.2.2.2.2.2.2.1).p W)
  (h13 : (uV Kd.string 9 (w.heap.size + 2) v13 r.2.2.2.2.2.2.2.2.2.2.2.2.2.1).p W) (h14 : (uV k27 27 (w.heap.size + 2) v14 r.2.2.2.2.2.2.2.2.2.2.2.2.2.2.1).p W) (hd : act.defers = [])
  (t2 : act.tmps.getD 2 undef = .pointer (some ⟨w.heap.size, 0, none⟩)) (t3 : act.tmps.getD 3 undef = .pointer (some ⟨w.heap.size + 1, 0, none⟩)) (t4 : act.tmps.getD 4 undef = .bool r.2.2.2.2.2.2.2.2.2.2.2.2.2.2.2) :
  bodyPost Tryd.prog Tryd.f15 (RdPost w r) .ret act (rdW w W (.bool r.1) (.int .i64 r.2.1) (.string r.2.2.1) v3 v4 (.string r.2.2.2.2.2.1) (.int .i64 r.2.2.2.2.2.2.1) (.string r.2.2.2.2.2.2.2.1) v8 v9 (.int .i64 r.2.2.2.2.2.2.2.2.2.2.1) (.int .i64 r.2.2.2.2.2.2.2.2.2.2.2.1) (.string r.2.2.2.2.2.2.2.2.2.2.2.2.1) v13 v14) := by
 obtain ⟨r1, r2, r3, r4, r5, r6, r7, r8, r9, r10, r11, r12, r13, r14, r15, r16⟩ := r
 have hb : Below w.heap.size w W := hb
 have n1 : w.heap.size ≠ w.heap.size + 1 := by omega
 have n2 : w.heap.size + 1 ≠ w.heap.size := by omega
 have e37 := (Ctx.far (Ctx.far (Ctx.far (Ctx.far (Ctx.far (Ctx.put (Ctx.put (Ctx.put (Ctx.put (Ctx.put (Ctx.put (Ctx.put (Ctx.put (Ctx.put (Ctx.put h37 0 (.bool r1)) 1 (.int .i64 r2)) 2 (.string r3)) 3 (v3)) 4 (v4)) 5 (.string r6)) 6 (.int .i64 r7)) 7 (.string r8)) 8 (v8)) 9 (v9)) 0 (.int .i64 r11) n1) 1 (.int .i64 r12) n1) 2 (.string r13) n1) 3 (v13) n1) 4 (v14) n1)
 have e39 := (Ctx.put (Ctx.put (Ctx.put (Ctx.put (Ctx.put (Ctx.far (Ctx.far (Ctx.far (Ctx.far (Ctx.far (Ctx.far (Ctx.far (Ctx.far (Ctx.far (Ctx.far h39 0 (.bool r1) n2) 1 (.int .i64 r2) n2) 2 (.string r3) n2) 3 (v3) n2) 4 (v4) n2) 5 (.string r6) n2) 6 (.int .i64 r7) n2) 7 (.string r8) n2) 8 (v8) n2) 9 (v9) n2) 0 (.int .i64 r11)) 1 (.int .i64 r12)) 2 (.string r13)) 3 (v13)) 4 (v14))
 replace h3 := (vfar (g := w.heap.size + 1) (i := 4) (vfar (g := w.heap.size + 1) (i := 3) (vfar (g := w.heap.size + 1) (i := 2) (vfar (g := w.heap.size + 1) (i := 1) (vfar (g := w.heap.size + 1) (i := 0) (vfar (g := w.heap.size) (i := 9) (vfar (g := w.heap.size) (i := 8) (vfar (g := w.heap.size) (i := 7) (vfar (g := w.heap.size) (i := 6) (vfar (g := w.heap.size) (i := 5) (vfar (g := w.heap.size) (i := 4) (vfar (g := w.heap.size) (i := 3) (vfar (g := w.heap.size) (i := 2) (vfar (g := w.heap.size) (i := 1) (vfar (g := w.heap.size) (i := 0) h3 (.bool r1) (by omega)) (.int .i64 r2) (by omega)) (.string r3) (by omega)) (v3) (by omega)) (v4) (by omega)) (.string r6) (by omega)) (.int .i64 r7) (by omega)) (.string r8) (by omega)) (v8) (by omega)) (v9) (by omega)) (.int .i64 r11) (by omega)) (.int .i64 r12) (by omega)) (.string r13) (by omega)) (v13) (by omega)) (v14) (by omega))
 replace h4 := (vfar (g := w.heap.size + 1) (i := 4) (vfar (g := w.heap.size + 1) (i := 3) (vfar (g := w.heap.size + 1) (i := 2) (vfar (g := w.heap.size + 1) (i := 1) (vfar (g := w.heap.size + 1) (i := 0) (vfar (g := w.heap.size) (i := 9) (vfar (g := w.heap.size) (i := 8) (vfar (g := w.heap.size) (i := 7) (vfar (g := w.heap.size) (i := 6) (vfar (g := w.heap.size) (i := 5) (vfar (g := w.heap.size) (i := 4) (vfar (g := w.heap.size) (i := 3) (vfar (g := w.heap.size) (i := 2) (vfar (g := w.heap.size) (i := 1) (vfar (g := w.heap.size) (i := 0) h4 (.bool r1) (by omega)) (.int .i64 r2) (by omega)) (.string r3) (by omega)) (v3) (by omega)) (v4) (by omega)) (.string r6) (by omega)) (.int .i64 r7) (by omega)) (.string r8) (by omega)) (v8) (by omega)) (v9) (by omega)) (.int .i64 r11) (by omega)) (.int .i64 r12) (by omega)) (.string r13) (by omega)) (v13) (by omega)) (v14) (by omega))
 replace h8 := (vfar (g := w.heap.size + 1) (i := 4) (vfar (g := w.heap.size + 1) (i := 3) (vfar (g := w.heap.size + 1) (i := 2) (vfar (g := w.heap.size + 1) (i := 1) (vfar (g := w.heap.size + 1) (i := 0) (vfar (g := w.heap.size) (i := 9) (vfar (g := w.heap.size) (i := 8) (vfar (g := w.heap.size) (i := 7) (vfar (g := w.heap.size) (i := 6) (vfar (g := w.heap.size) (i := 5) (vfar (g := w.heap.size) (i := 4) (vfar (g := w.heap.size) (i := 3) (vfar (g := w.heap.size) (i := 2) (vfar (g := w.heap.size) (i := 1) (vfar (g := w.heap.size) (i := 0) h8 (.bool r1) (by omega)) (.int .i64 r2) (by omega)) (.string r3) (by omega)) (v3) (by omega)) (v4) (by omega)) (.string r6) (by omega)) (.int .i64 r7) (by omega)) (.string r8) (by omega)) (v8) (by omega)) (v9) (by omega)) (.int .i64 r11) (by omega)) (.int .i64 r12) (by omega)) (.string r13) (by omega)) (v13) (by omega)) (v14) (by omega))
 replace h9 := (vfar (g := w.heap.size + 1) (i := 4) (vfar (g := w.heap.size + 1) (i := 3) (vfar (g := w.heap.size + 1) (i := 2) (vfar (g := w.heap.size + 1) (i := 1) (vfar (g := w.heap.size + 1) (i := 0) (vfar (g := w.heap.size) (i := 9) (vfar (g := w.heap.size) (i := 8) (vfar (g := w.heap.size) (i := 7) (vfar (g := w.heap.size) (i := 6) (vfar (g := w.heap.size) (i := 5) (vfar (g := w.heap.size) (i := 4) (vfar (g := w.heap.size) (i := 3) (vfar (g := w.heap.size) (i := 2) (vfar (g := w.heap.size) (i := 1) (vfar (g := w.heap.size) (i := 0) h9 (.bool r1) (by omega)) (.int .i64 r2) (by omega)) (.string r3) (by omega)) (v3) (by omega)) (v4) (by omega)) (.string r6) (by omega)) (.int .i64 r7) (by omega)) (.string r8) (by omega)) (v8) (by omega)) (v9) (by omega)) (.int .i64 r11) (by omega)) (.int .i64 r12) (by omega)) (.string r13) (by omega)) (v13) (by omega)) (v14) (by omega))
 replace h13 := (vfar (g := w.heap.size + 1) (i := 4) (vfar (g := w.heap.size + 1) (i := 3) (vfar (g := w.heap.size + 1) (i := 2) (vfar (g := w.heap.size + 1) (i := 1) (vfar (g := w.heap.size + 1) (i := 0) (vfar (g := w.heap.size) (i := 9) (vfar (g := w.heap.size) (i := 8) (vfar (g := w.heap.size) (i := 7) (vfar (g := w.heap.size) (i := 6) (vfar (g := w.heap.size) (i := 5) (vfar (g := w.heap.size) (i := 4) (vfar (g := w.heap.size) (i := 3) (vfar (g := w.heap.size) (i := 2) (vfar (g := w.heap.size) (i := 1) (vfar (g := w.heap.size) (i := 0) h13 (.bool r1) (by omega)) (.int .i64 r2) (by omega)) (.string r3) (by omega)) (v3) (by omega)) (v4) (by omega)) (.string r6) (by omega)) (.int .i64 r7) (by omega)) (.string r8) (by omega)) (v8) (by omega)) (v9) (by omega)) (.int .i64 r11) (by omega)) (.int .i64 r12) (by omega)) (.string r13) (by omega)) (v13) (by omega)) (v14) (by omega))
 replace h14 := (vfar (g := w.heap.size + 1) (i := 4) (vfar (g := w.heap.size + 1) (i := 3) (vfar (g := w.heap.size + 1) (i := 2) (vfar (g := w.heap.size + 1) (i := 1) (vfar (g := w.heap.size + 1) (i := 0) (vfar (g := w.heap.size) (i := 9) (vfar (g := w.heap.size) (i := 8) (vfar (g := w.heap.size) (i := 7) (vfar (g := w.heap.size) (i := 6) (vfar (g := w.heap.size) (i := 5) (vfar (g := w.heap.size) (i := 4) (vfar (g := w.heap.size) (i := 3) (vfar (g := w.heap.size) (i := 2) (vfar (g := w.heap.size) (i := 1) (vfar (g := w.heap.size) (i := 0) h14 (.bool r1) (by omega)) (.int .i64 r2) (by omega)) (.string r3) (by omega)) (v3) (by omega)) (v4) (by omega)) (.string r6) (by omega)) (.int .i64 r7) (by omega)) (.string r8) (by omega)) (v8) (by omega)) (v9) (by omega)) (.int .i64 r11) (by omega)) (.int .i64 r12) (by omega)) (.string r13) (by omega)) (v13) (by omega)) (v14) (by omega))
 refine absB _ (Ctx.cons (uBlk w.heap.size [.bool r1, .int .i64 r2, .string r3, v3, v4, .string r6, .int .i64 r7, .string r8, v8, v9] 37) e37 (Ctx.cons (uBlk (w.heap.size + 1) [.int .i64 r11, .int .i64 r12, .string r13, v13, v14] 39) e39 (Ctx.cons (uB w) (show Below w.heap.size w _ by repeat (first | (with_reducible exact hb) | refine below_set ?_ (by simp))) (Ctx.cons _ h3 (Ctx.cons _ h4 (Ctx.cons _ h8 (Ctx.cons _ h9 (Ctx.cons _ h13 (Ctx.cons _ h14 Ctx.nil))))))))) ?_
 clear e37 e39 hb h37 h39
 intro wz HZ
 obtain ⟨tmps, defers⟩ := act
 obtain rfl : defers = [] := hd
 refine bodyPost_ret (v := .tuple #[.agg #[.bool r1, .int .i64 r2, .string r3, v3, v4, .string r6, .int .i64 r7, .string r8, v8, v9], .agg #[.int .i64 r11, .int .i64 r12, .string r13, v13, v14], .bool r16]) ?_ rfl ⟨v3, v4, v8, v9, v13, v14, rfl, vT HZ.2.2.2.1, vT HZ.2.2.2.2.1, vT HZ.2.2.2.2.2.1, vT HZ.2.2.2.2.2.2.1, vT HZ.2.2.2.2.2.2.2.1, vT HZ.2.2.2.2.2.2.2.2.1, HZ.2.2.1⟩
 exact results_cct (P := Tryd.prog) (fn := Tryd.f15) Tryd.results15 _ _ w.heap.size (w.heap.size + 1) 37 39 _ _ (0, 0) (0, 0) _ _ _ t2 HZ.1 Tryd.underlying37 rfl (by kernel_rfl) t3 HZ.2.1 Tryd.underlying39 rfl (by kernel_rfl) t4
theorem vnil {α : Type} {d : Kd α} {e base : Nat} {W : World} : (uV d e base (.slice none 0 0) ([] : List α)).p W := Kd.V_nil d e W base _
set_option maxHeartbeats 1600000 in
set_option maxRecDepth 100000 in
theorem rpc_Read.calls0 (k : Nat) (A : Option Addr) (c : Nat) (l0 : List Int) (r : RdOut) (w : World) (hr : Kd.C (Kd.int .u8) w A l0.length l0) (hc : l0.length ≤ c) (h : rpc_Read.f k l0 = some r) (hT : TabOk w) :
  Calls Tryd.prog 15 #[.slice A l0.length c] w (RdPost w r) := by
 have HH := Aside0.mk h
 clear h
 have HK0 := Aside0.mk (Ctx.new (cs := [.int .i64 0, .int .i64 0, .string ⟨#[]⟩, .slice none 0 0, .slice none 0 0]) (t := 39) (Ctx.new (cs := [.bool false, .int .i64 0, .string ⟨#[]⟩, .slice none 0 0, .slice none 0 0, .string ⟨#[]⟩, .int .i64 0, .string ⟨#[]⟩, .slice none 0 0, .slice none 0 0]) (t := 37) (show Ctx [uTab, uB w] w from ⟨hT, Below.refl _ _, trivial⟩)))
 simp only [World.size_alloc] at HK0
 clear hT
 obtain ⟨⟨p1, p2, p3, p4, p5, p6⟩, hp, h1⟩ := Option.bind_eq_some_iff.mp HH.out
 clear HH
 have HH := Aside0.mk h1
 clear h1
 have HP := Aside0.mk hp
 clear hp
 go_enter Tryd.func15, Tryd.ntmps15
 focus go_wp2_with fail
 refine (json_Parse.calls k _ _ l0 p1 p2 p3 p4 p5 p6 _ (Kd.C_alloc (Kd.C_alloc hr _) _) hc HP.out).mono ?_
 rintro e1 w1 ⟨v2, v3, rfl, h2, h3, hB1⟩
 obtain ⟨A2, c2, rfl⟩ := Kd.R_slice h2
 obtain ⟨A3, c3, rfl⟩ := Kd.R_slice h3
 have HK1 := Aside0.mk (Ctx.cons (uV k27 27 (w.heap.size + 2) _ _) (vR h3 (by simp)) (Ctx.cons (uV Kd.string 9 (w.heap.size + 2) _ _) (vR h2 (by simp)) (HK0.out.below hB1)))
 clear HK0 hB1
 clear h2 h3 hr HP
 by_cases q1 : (p6 != 0) = true
 ·have h1 := HH.out
  clear HH
  rw [show (((p1, p2, p3, p4, p5, p6) : Int × ByteArray × List ByteArray × List S27 × Int × Int).2.2.2.2.2 != 0) = true from q1, if_pos rfl] at h1
  have HH := Aside0.mk h1
  clear h1
  go_upto_region 3 with fail
  refine absW _ (Ctx.new (cs := [.int .i64 p1, .string p2, .slice A2 p3.length c2, .slice A3 p4.length c3]) (t := 27) (HK1.out)) ?_
  clear HK1
  intro w2 hk0
  have HK2 := Aside0.mk hk0
  clear hk0
  obtain ⟨cb390, cb391, cb392, cb393, cb394⟩ := blk5 HK2.out.2.2.2.1
  have fb39 := Ctx.frz HK2.out.2.2.2.1
  obtain ⟨cb370, cb371, cb372, cb373, cb374, cb375, cb376, cb377, cb378, cb379⟩ := blk10 HK2.out.2.2.2.2.1
  have fb37 := Ctx.frz HK2.out.2.2.2.2.1
  have nb39b37 := Ctx.ne HK2.out.2.2.2.1 HK2.out.2.2.2.2.1 (by decide)
  focus go_wp2_with fail
  have hz := Option.some.inj HH.out
  subst hz
  exact rd_end HK2.out.2.2.2.2.1 HK2.out.2.2.2.1 HK2.out.2.2.2.2.2.2.1 vnil vnil vnil vnil vnil vnil rfl rfl rfl rfl
 have h1 := HH.out
 clear HH
 rw [if_neg q1] at h1
 replace h1 := Option.bind_eq_some_iff.mp h1
 obtain ⟨⟨i1, i2, i3, i4, ih⟩, hi, h1⟩ := h1
 have HH := Aside0.mk h1
 clear h1
 have HI := Aside0.mk hi
 clear hi
 replace q1 := Bool.eq_false_iff.mpr q1
 go_upto_region 4 with fail
 refine absW _ (Ctx.new (cs := [.int .i64 p1, .string p2, .slice A2 p3.length c2, .slice A3 p4.length c3]) (t := 27) (HK1.out)) ?_
 clear HK1
 intro w2 hk0
 have HK2 := Aside0.mk hk0
 clear hk0
 obtain ⟨cg50, cg51, cg52, cg53⟩ := blk4 HK2.out.1
 focus go_wp2_with fail
 refine (json_Get.calls k p1 p2 A2 c2 p3 (fun k => w.heap.size + 2 ≤ k) A3 c3 p4 ⟨#[105, 100]⟩ i1 i2 i3 i4 ih _ (vC HK2.out.2.2.1) (vle HK2.out.2.2.1) HK2.out.2.1 HI.out).mono ?_
 rintro e1 w3 ⟨v2, v3, rfl, h2, h3, hB⟩
 obtain ⟨Aik, cik, rfl⟩ := Kd.V_slice h2
 obtain ⟨Ail, cil, rfl⟩ := Kd.V_slice h3
 clear cg50 cg51 cg52 cg53
 have hsz : w.heap.size + 2 ≤ w2.heap.size := blk_lt HK2.out.2.2.2.1
 have HK3 := Aside0.mk (Ctx.cons (uV k27 27 (w.heap.size + 2) _ _) (vV h3 hsz) (Ctx.cons (uV Kd.string 9 (w.heap.size + 2) _ _) (vV h2 hsz) (HK2.out.below hB)))
 clear HK2 hB
 clear h2 h3 hsz HI
 go_upto_region 5 with fail
 refine absW _ (Ctx.new (cs := [.int .i64 i1, .string i2, .slice Aik i3.length cik, .slice Ail i4.length cil]) (t := 27) (HK3.out)) ?_
 clear HK3
 intro w4 hk0
 have HK4 := Aside0.mk hk0
 clear hk0
 rcases Bool.eq_false_or_eq_true ih with q2 | q2
 subst q2
 have h1 := HH.out
 clear HH
 rw [if_pos rfl] at h1
 replace h1 := Option.bind_eq_some_iff.mp h1
 obtain ⟨bad, hb1, h1⟩ := h1
 replace hb1 := Option.bind_eq_some_iff.mp hb1
 obtain ⟨q, hq, hq2⟩ := hb1
 replace hq2 := Option.some.inj hq2
 subst hq2
 have HH := Aside0.mk h1
 have HI := Aside0.mk hq
 clear h1 hq
 obtain ⟨cg80, cg81, cg82, cg83⟩ := blk4 HK4.out.1
 focus go_wp2_with fail
 refine (rpc_isID.calls i1 i2 Aik cik i3 Ail cil i4 q _ (vC HK4.out.2.2.1) (vle HK4.out.2.2.1) (vC HK4.out.2.1) (vle HK4.out.2.1) HI.out HK4.out.2.2.2.2.2.2.2.2.1).mono ?_
 rintro e1 w5 ⟨rfl, hB⟩
 clear cg80 cg81 cg82 cg83
 have HK5 := Aside0.mk (HK4.out.below hB)
 clear HK4 hB
 clear HI
 rcases Bool.eq_false_or_eq_true q with q3 | q3
 rotate_left
 ·subst q3
  have h1 := HH.out
  clear HH
  rw [if_pos (by rfl)] at h1
  have HH := Aside0.mk h1
  clear h1
  focus go_upto_region 6 with fail
  refine absW _ (HK5.out) ?_
  clear HK5
  intro w6 hk0
  have HK6 := Aside0.mk hk0
  clear hk0
  obtain ⟨cb390, cb391, cb392, cb393, cb394⟩ := blk5 HK6.out.2.2.2.2.2.2.1
  have fb39 := Ctx.frz HK6.out.2.2.2.2.2.2.1
  obtain ⟨cb370, cb371, cb372, cb373, cb374, cb375, cb376, cb377, cb378, cb379⟩ := blk10 HK6.out.2.2.2.2.2.2.2.1
  have fb37 := Ctx.frz HK6.out.2.2.2.2.2.2.2.1
  have nb39b37 := Ctx.ne HK6.out.2.2.2.2.2.2.1 HK6.out.2.2.2.2.2.2.2.1 (by decide)
  focus go_wp2_with fail
  have hz := Option.some.inj HH.out
  subst hz
  exact rd_end HK6.out.2.2.2.2.2.2.2.1 HK6.out.2.2.2.2.2.2.1 HK6.out.2.2.2.2.2.2.2.2.2.1 vnil vnil vnil vnil vnil vnil rfl rfl rfl rfl
 subst q2
 have h1 := HH.out
 clear HH
 rw [if_neg (by decide)] at h1
 replace h1 := Option.bind_eq_some_iff.mp h1
 obtain ⟨bad, hb1, h1⟩ := h1
 replace hb1 := Option.some.inj hb1
 subst hb1
 rw [if_neg (by decide)] at h1
 have HH := Aside0.mk h1
 clear h1
 focus go_upto_region 7 with fail
 refine absW _ (HK4.out) ?_
 clear HK4
 intro w6 hk0
 have HK6 := Aside0.mk hk0
 clear hk0
 rotate_left
 subst q3
 have h1 := HH.out
 clear HH
 rw [if_neg (by decide)] at h1
 have HH := Aside0.mk h1
 clear h1
 focus go_upto_region 7 with fail
 refine absW _ (HK5.out) ?_
 clear HK5
 intro w6 hk0
 have HK6 := Aside0.mk hk0
 clear hk0
 all_goals
  obtain ⟨cg80, cg81, cg82, cg83⟩ := blk4 HK6.out.1
  go_upto_region 8 with fail
  clear cg80 cg81 cg82 cg83
  refine absW _ (Ctx.new (cs := [.int .i64 (-32600), .int .i64 i1, .string i2, .slice Aik i3.length cik, .slice Ail i4.length cil]) (t := 39) (HK6.out)) ?_
  clear HK6
  intro w7 hk0
  have HK7 := Aside0.mk hk0
  clear hk0
  obtain ⟨cg50, cg51, cg52, cg53⟩ := blk4 HK7.out.2.2.2.2.1
  have h1 := HH.out
  clear HH
  unfold rpc_Read.version at h1
  replace h1 := Option.bind_eq_some_iff.mp h1
  obtain ⟨⟨u1, u2, u3, u4, uh⟩, hv, h1⟩ := h1
  replace h1 := Option.bind_eq_some_iff.mp h1
  obtain ⟨o, ho, h1⟩ := h1
  have HH := Aside0.mk h1
  have HI := Aside0.mk hv
  have HO := Aside0.mk ho
  clear h1 hv ho
  go_wp2_with fail
  refine (json_Get.calls k p1 p2 A2 c2 p3 (fun k => w.heap.size + 2 ≤ k) A3 c3 p4 ⟨#[106, 115, 111, 110, 114, 112, 99]⟩ u1 u2 u3 u4 uh _ (vC HK7.out.2.2.2.2.2.2.1) (vle HK7.out.2.2.2.2.2.2.1) HK7.out.2.2.2.2.2.1 HI.out).mono ?_
  rintro e1 w8 ⟨v2, v3, rfl, h2, h3, hB⟩
  obtain ⟨Auk, cuk, rfl⟩ := Kd.V_slice h2
  obtain ⟨Aul, cul, rfl⟩ := Kd.V_slice h3
  clear cg50 cg51 cg52 cg53
  have hsz : w.heap.size + 2 ≤ w7.heap.size := blk_lt HK7.out.2.2.2.2.2.2.2.1
  have HK8 := Aside0.mk (Ctx.cons (uV k27 27 (w.heap.size + 2) _ _) (vV h3 hsz) (Ctx.cons (uV Kd.string 9 (w.heap.size + 2) _ _) (vV h2 hsz) (HK7.out.below hB)))
  clear HK7 hB
  clear h2 h3 hsz HI
  go_upto_region 9 with fail
  refine absW _ (Ctx.new (cs := [.int .i64 u1, .string u2, .slice Auk u3.length cuk, .slice Aul u4.length cul]) (t := 27) (HK8.out)) ?_
  clear HK8
  intro w9 hk0
  have HK9 := Aside0.mk hk0
  clear hk0
  obtain ⟨cg50, cg51, cg52, cg53⟩ := blk4 HK9.out.2.2.2.2.2.2.2.1
  obtain ⟨cg110, cg111, cg112, cg113⟩ := blk4 HK9.out.1
  by_cases r1 : (p1 != 6) = true
  ·have h1 := HO.out
   unfold rpc_Read.odd at h1
   rw [if_pos r1] at h1
   replace h1 := Option.some.inj h1
   subst h1
   clear HO
   have h1 := HH.out
   rw [if_pos rfl] at h1
   clear HH
   have HH := Aside0.mk h1
   clear h1
   go_quiet (fail)
   go_upto_region 10 with fail
   clear cg50 cg51 cg52 cg53 cg110 cg111 cg112 cg113
   refine absW _ (HK9.out.drewN _) ?_
   clear HK9
   intro w10 hk0
   have HK10 := Aside0.mk hk0
   clear hk0
   obtain ⟨cb390, cb391, cb392, cb393, cb394⟩ := blk5 HK10.out.2.2.2.2.2.2.2.2.2.2.1
   have fb39 := Ctx.frz HK10.out.2.2.2.2.2.2.2.2.2.2.1
   obtain ⟨cb370, cb371, cb372, cb373, cb374, cb375, cb376, cb377, cb378, cb379⟩ := blk10 HK10.out.2.2.2.2.2.2.2.2.2.2.2.1
   have fb37 := Ctx.frz HK10.out.2.2.2.2.2.2.2.2.2.2.2.1
   obtain ⟨cg100, cg101, cg102, cg103, cg104⟩ := blk5 HK10.out.2.2.2.1
   have nb39b37 := Ctx.ne HK10.out.2.2.2.2.2.2.2.2.2.2.1 HK10.out.2.2.2.2.2.2.2.2.2.2.2.1 (by decide)
   have ng10b37 := Ctx.ne HK10.out.2.2.2.1 HK10.out.2.2.2.2.2.2.2.2.2.2.2.1 (by decide)
   have ng10b39 := Ctx.ne' HK10.out.2.2.2.1 HK10.out.2.2.2.2.2.2.2.2.2.2.1 (by simp)
   go_region
   go_wp2_with fail
   have hz := Option.some.inj HH.out
   subst hz
   have hk := (Ctx.drew HK10.out)
   simp only [← World.setCell_drew]
   exact rd_end hk.2.2.2.2.2.2.2.2.2.2.2.1 hk.2.2.2.2.2.2.2.2.2.2.1 hk.2.2.2.2.2.2.2.2.2.2.2.2.2.1 vnil vnil vnil vnil hk.2.2.2.2.2.2.1 hk.2.2.2.2.2.1 rfl rfl rfl rfl
  replace r1 := Bool.eq_false_iff.mpr r1
  rcases Bool.eq_false_or_eq_true uh with r2 | r2
  rotate_left
  ·subst r2
   have h1 := HO.out
   unfold rpc_Read.odd at h1
   rw [if_neg (by rw [r1]; decide), if_pos rfl] at h1
   replace h1 := Option.some.inj h1
   subst h1
   clear HO
   have h1 := HH.out
   rw [if_pos rfl] at h1
   clear HH
   have HH := Aside0.mk h1
   clear h1
   go_quiet (fail)
   go_upto_region 10 with fail
   clear cg50 cg51 cg52 cg53 cg110 cg111 cg112 cg113
   refine absW _ (HK9.out.drewN _) ?_
   clear HK9
   intro w10 hk0
   have HK10 := Aside0.mk hk0
   clear hk0
   obtain ⟨cb390, cb391, cb392, cb393, cb394⟩ := blk5 HK10.out.2.2.2.2.2.2.2.2.2.2.1
   have fb39 := Ctx.frz HK10.out.2.2.2.2.2.2.2.2.2.2.1
   obtain ⟨cb370, cb371, cb372, cb373, cb374, cb375, cb376, cb377, cb378, cb379⟩ := blk10 HK10.out.2.2.2.2.2.2.2.2.2.2.2.1
   have fb37 := Ctx.frz HK10.out.2.2.2.2.2.2.2.2.2.2.2.1
   obtain ⟨cg100, cg101, cg102, cg103, cg104⟩ := blk5 HK10.out.2.2.2.1
   have nb39b37 := Ctx.ne HK10.out.2.2.2.2.2.2.2.2.2.2.1 HK10.out.2.2.2.2.2.2.2.2.2.2.2.1 (by decide)
   have ng10b37 := Ctx.ne HK10.out.2.2.2.1 HK10.out.2.2.2.2.2.2.2.2.2.2.2.1 (by decide)
   have ng10b39 := Ctx.ne' HK10.out.2.2.2.1 HK10.out.2.2.2.2.2.2.2.2.2.2.1 (by simp)
   go_region
   go_wp2_with fail
   have hz := Option.some.inj HH.out
   subst hz
   have hk := (Ctx.drew HK10.out)
   simp only [← World.setCell_drew]
   exact rd_end hk.2.2.2.2.2.2.2.2.2.2.2.1 hk.2.2.2.2.2.2.2.2.2.2.1 hk.2.2.2.2.2.2.2.2.2.2.2.2.2.1 vnil vnil vnil vnil hk.2.2.2.2.2.2.1 hk.2.2.2.2.2.1 rfl rfl rfl rfl
  subst r2
  have h1 := HO.out
  unfold rpc_Read.odd at h1
  rw [if_neg (by rw [r1]; decide), if_neg (by decide)] at h1
  replace h1 := Option.bind_eq_some_iff.mp h1
  obtain ⟨⟨t1, t2, t3, t4⟩, ht, h1⟩ := h1
  replace h1 := Option.bind_eq_some_iff.mp h1
  obtain ⟨b, hb, h1⟩ := h1
  replace h1 := Option.some.inj h1
  subst h1
  clear HO
  have HT := Aside0.mk ht
  have HE := Aside0.mk hb
  clear ht hb
  clear cg50 cg51 cg52 cg53 cg110 cg111 cg112 cg113
  have hS := Aside0.mk (show ∀ W, Below w9.heap.size w9 W → (W.cell? ⟨w1.heap.size, 0, none⟩ = some (.int .i64 p1) ∧ W.cell? ⟨w8.heap.size, 0, none⟩ = some (.int .i64 u1) ∧ W.cell? ⟨w8.heap.size, 1, none⟩ = some (.string u2) ∧ W.cell? ⟨w8.heap.size, 2, none⟩ = some (.slice Auk u3.length cuk) ∧ W.cell? ⟨w8.heap.size, 3, none⟩ = some (.slice Aul u4.length cul) ∧ Below w9.heap.size w9 W) from fun W h => ⟨Ctx.blk ((uBlk _ _ _).up _ _ HK9.out.2.2.2.2.2.2.2.1 h) 0 rfl, Ctx.blk ((uBlk _ _ _).up _ _ HK9.out.1 h) 0 rfl, Ctx.blk ((uBlk _ _ _).up _ _ HK9.out.1 h) 1 rfl, Ctx.blk ((uBlk _ _ _).up _ _ HK9.out.1 h) 2 rfl, Ctx.blk ((uBlk _ _ _).up _ _ HK9.out.1 h) 3 rfl, h⟩)
  go_region_held3 (fun W => W.cell? ⟨w1.heap.size, 0, none⟩ = some (.int .i64 p1) ∧ W.cell? ⟨w8.heap.size, 0, none⟩ = some (.int .i64 u1) ∧ W.cell? ⟨w8.heap.size, 1, none⟩ = some (.string u2) ∧ W.cell? ⟨w8.heap.size, 2, none⟩ = some (.slice Auk u3.length cuk) ∧ W.cell? ⟨w8.heap.size, 3, none⟩ = some (.slice Aul u4.length cul) ∧ Below w9.heap.size w9 W) (exact hS.out _ (by first | exact below_drew (Below.refl _ _) | assumption)) (first
   | (go_at_call 13; refine (json_Text.calls ⟨#[50, 46, 48]⟩ t1 t2 t3 t4 _ HT.out).mono ?_; rintro e W9 ⟨v2, v3, rfl, h2, h3, hB⟩; have hB9 := below_step (show Below w9.heap.size w9 _ from (by first | exact below_drew (Below.refl _ _) | assumption)) hB; obtain ⟨At, ct, rfl⟩ := Kd.R_slice h2; obtain ⟨As, cs, rfl⟩ := Kd.R_slice h3; have H2 := Aside0.mk h2; have H3 := Aside0.mk h3; clear h2 h3 hB)
   | (go_at_call 12; refine (eqT_calls u1 u2 (.slice Auk u3.length cuk) (.slice Aul u4.length cul) t1 t2 (.slice At t3.length ct) (.slice As t4.length cs) b _ HE.out).mono ?_; rintro e W10 ⟨rfl, hB⟩; have hB11 := below_step hB9 hB; clear hB))
  rcases Bool.eq_false_or_eq_true b with r3 | r3
  rotate_left
  ·subst r3
   have h1 := HH.out
   rw [if_pos (by rfl)] at h1
   clear HH
   have HH := Aside0.mk h1
   clear h1 HT HE hS
   go_upto_region 10 with fail
   refine absW _ (HK9.out.below hB11) ?_
   clear HK9
   intro w10 hk0
   have HK10 := Aside0.mk hk0
   clear hk0
   obtain ⟨cb390, cb391, cb392, cb393, cb394⟩ := blk5 HK10.out.2.2.2.2.2.2.2.2.2.2.1
   have fb39 := Ctx.frz HK10.out.2.2.2.2.2.2.2.2.2.2.1
   obtain ⟨cb370, cb371, cb372, cb373, cb374, cb375, cb376, cb377, cb378, cb379⟩ := blk10 HK10.out.2.2.2.2.2.2.2.2.2.2.2.1
   have fb37 := Ctx.frz HK10.out.2.2.2.2.2.2.2.2.2.2.2.1
   obtain ⟨cg100, cg101, cg102, cg103, cg104⟩ := blk5 HK10.out.2.2.2.1
   have nb39b37 := Ctx.ne HK10.out.2.2.2.2.2.2.2.2.2.2.1 HK10.out.2.2.2.2.2.2.2.2.2.2.2.1 (by decide)
   have ng10b37 := Ctx.ne HK10.out.2.2.2.1 HK10.out.2.2.2.2.2.2.2.2.2.2.2.1 (by decide)
   have ng10b39 := Ctx.ne' HK10.out.2.2.2.1 HK10.out.2.2.2.2.2.2.2.2.2.2.1 (by simp)
   go_region
   go_wp2_with fail
   have hz := Option.some.inj HH.out
   subst hz
   have hk := (Ctx.drew HK10.out)
   simp only [← World.setCell_drew]
   exact rd_end hk.2.2.2.2.2.2.2.2.2.2.2.1 hk.2.2.2.2.2.2.2.2.2.2.1 hk.2.2.2.2.2.2.2.2.2.2.2.2.2.1 vnil vnil vnil vnil hk.2.2.2.2.2.2.1 hk.2.2.2.2.2.1 rfl rfl rfl rfl
  subst r3
  have h1 := HH.out
  rw [if_neg (by decide)] at h1
  clear HH
  unfold rpc_Read.method at h1
  replace h1 := Option.bind_eq_some_iff.mp h1
  obtain ⟨⟨m1, m2, m3, m4, mh⟩, hm, h1⟩ := h1
  have HH := Aside0.mk h1
  have HI := Aside0.mk hm
  clear h1 hm HT HE hS
  go_upto_region 11 with fail
  refine absW _ (HK9.out.below hB11) ?_
  clear HK9
  intro w10 hk0
  have HK10 := Aside0.mk hk0
  clear hk0
  clear hB9 hB11
  obtain ⟨cg50, cg51, cg52, cg53⟩ := blk4 HK10.out.2.2.2.2.2.2.2.1
  go_wp2_with fail
  refine (json_Get.calls k p1 p2 A2 c2 p3 (fun k => w.heap.size + 2 ≤ k) A3 c3 p4 ⟨#[109, 101, 116, 104, 111, 100]⟩ m1 m2 m3 m4 mh _ (vC HK10.out.2.2.2.2.2.2.2.2.2.1) (vle HK10.out.2.2.2.2.2.2.2.2.2.1) HK10.out.2.2.2.2.2.2.2.2.1 HI.out).mono ?_
  rintro e1 w11 ⟨v2, v3, rfl, h2, h3, hB⟩
  obtain ⟨Amk, cmk, rfl⟩ := Kd.V_slice h2
  obtain ⟨Aml, cml, rfl⟩ := Kd.V_slice h3
  clear cg50 cg51 cg52 cg53
  have hsz : w.heap.size + 2 ≤ w10.heap.size := blk_lt HK10.out.2.2.2.2.2.2.2.2.2.2.1
  have HK11 := Aside0.mk (Ctx.cons (uV k27 27 (w.heap.size + 2) _ _) (vV h3 hsz) (Ctx.cons (uV Kd.string 9 (w.heap.size + 2) _ _) (vV h2 hsz) (HK10.out.below hB)))
  clear HK10 hB
  clear h2 h3 hsz HI
  go_upto_region 12 with fail
  refine absW _ (Ctx.new (cs := [.int .i64 m1, .string m2, .slice Amk m3.length cmk, .slice Aml m4.length cml]) (t := 27) (HK11.out)) ?_
  clear HK11
  intro w12 hk0
  have HK12 := Aside0.mk hk0
  clear hk0
  rcases Bool.eq_false_or_eq_true mh with r4 | r4
  rotate_left
  ·subst r4
   have h1 := HH.out
   rw [if_pos rfl] at h1
   clear HH
   have HH := Aside0.mk h1
   clear h1
   first
    | (
     have h1 : rpc_Read.replies k p1 p2 p3 p4 i1 i2 i3 i4 true = some r := HH.out
     clear HH
     unfold rpc_Read.replies at h1
     replace h1 := Option.bind_eq_some_iff.mp h1
     obtain ⟨⟨x1, x2, x3, x4, xh⟩, hx, h1⟩ := h1
     have HH := Aside0.mk h1
     have HI := Aside0.mk hx
     clear h1 hx
     obtain ⟨cg50, cg51, cg52, cg53⟩ := blk4 HK12.out.2.2.2.2.2.2.2.2.2.2.1
     go_wp2_with fail
     refine (json_Get.calls k p1 p2 A2 c2 p3 (fun k => w.heap.size + 2 ≤ k) A3 c3 p4 ⟨#[114, 101, 115, 117, 108, 116]⟩ x1 x2 x3 x4 xh _ (vC HK12.out.2.2.2.2.2.2.2.2.2.2.2.2.1) (vle HK12.out.2.2.2.2.2.2.2.2.2.2.2.2.1) HK12.out.2.2.2.2.2.2.2.2.2.2.2.1 HI.out).mono ?_
     rintro e1 w13 ⟨v2, v3, rfl, h2, h3, hB⟩
     obtain ⟨Axk, cxk, rfl⟩ := Kd.V_slice h2
     obtain ⟨Axl, cxl, rfl⟩ := Kd.V_slice h3
     clear cg50 cg51 cg52 cg53
     have hsz : w.heap.size + 2 ≤ w12.heap.size := blk_lt HK12.out.2.2.2.2.2.2.2.2.2.2.2.2.2.1
     have HK13 := Aside0.mk (Ctx.cons (uV k27 27 (w.heap.size + 2) _ _) (vV h3 hsz) (Ctx.cons (uV Kd.string 9 (w.heap.size + 2) _ _) (vV h2 hsz) (HK12.out.below hB)))
     clear HK12 hB
     clear h2 h3 hsz HI
     go_upto_region 14 with fail
     refine absW _ (Ctx.new (cs := [.int .i64 x1, .string x2, .slice Axk x3.length cxk, .slice Axl x4.length cxl]) (t := 27) (HK13.out)) ?_
     clear HK13
     intro w14 hk0
     have HK14 := Aside0.mk hk0
     clear hk0
     cases xh
     ·have h1 := HH.out
      rw [if_neg (by decide)] at h1
      clear HH
      replace h1 := Option.bind_eq_some_iff.mp h1
      obtain ⟨⟨y1, y2, y3, y4, yh⟩, hy, h1⟩ := h1
      have HH := Aside0.mk h1
      have HI := Aside0.mk hy
      clear h1 hy
      go_upto_region 16 with fail
      refine absW _ (HK14.out) ?_
      clear HK14
      intro w15 hk0
      have HK15 := Aside0.mk hk0
      clear hk0
      obtain ⟨cg50, cg51, cg52, cg53⟩ := blk4 HK15.out.2.2.2.2.2.2.2.2.2.2.2.2.2.1
      go_wp2_with fail
      refine (json_Get.calls k p1 p2 A2 c2 p3 (fun k => w.heap.size + 2 ≤ k) A3 c3 p4 ⟨#[101, 114, 114, 111, 114]⟩ y1 y2 y3 y4 yh _ (vC HK15.out.2.2.2.2.2.2.2.2.2.2.2.2.2.2.2.1) (vle HK15.out.2.2.2.2.2.2.2.2.2.2.2.2.2.2.2.1) HK15.out.2.2.2.2.2.2.2.2.2.2.2.2.2.2.1 HI.out).mono ?_
      rintro e1 w16 ⟨v2, v3, rfl, h2, h3, hB⟩
      obtain ⟨Ayk, cyk, rfl⟩ := Kd.V_slice h2
      obtain ⟨Ayl, cyl, rfl⟩ := Kd.V_slice h3
      clear cg50 cg51 cg52 cg53
      have hsz : w.heap.size + 2 ≤ w15.heap.size := blk_lt HK15.out.2.2.2.2.2.2.2.2.2.2.2.2.2.2.2.2.1
      have HK16 := Aside0.mk (Ctx.cons (uV k27 27 (w.heap.size + 2) _ _) (vV h3 hsz) (Ctx.cons (uV Kd.string 9 (w.heap.size + 2) _ _) (vV h2 hsz) (HK15.out.below hB)))
      clear HK15 hB
      clear h2 h3 hsz HI
      go_upto_region 17 with fail
      refine absW _ (Ctx.new (cs := [.int .i64 y1, .string y2, .slice Ayk y3.length cyk, .slice Ayl y4.length cyl]) (t := 27) (HK16.out)) ?_
      clear HK16
      intro w17 hk0
      have HK17 := Aside0.mk hk0
      clear hk0
      cases yh
      ·have h1 := HH.out
       rw [if_neg (by decide)] at h1
       clear HH
       have HH := Aside0.mk h1
       clear h1
       go_upto_region 19 with fail
       refine absW _ (HK17.out) ?_
       clear HK17
       intro w18 hk0
       have HK18 := Aside0.mk hk0
       clear hk0
       obtain ⟨cb390, cb391, cb392, cb393, cb394⟩ := blk5 HK18.out.2.2.2.2.2.2.2.2.2.2.2.2.2.2.2.2.2.2.2.1
       have fb39 := Ctx.frz HK18.out.2.2.2.2.2.2.2.2.2.2.2.2.2.2.2.2.2.2.2.1
       obtain ⟨cb370, cb371, cb372, cb373, cb374, cb375, cb376, cb377, cb378, cb379⟩ := blk10 HK18.out.2.2.2.2.2.2.2.2.2.2.2.2.2.2.2.2.2.2.2.2.1
       have fb37 := Ctx.frz HK18.out.2.2.2.2.2.2.2.2.2.2.2.2.2.2.2.2.2.2.2.2.1
       obtain ⟨cg100, cg101, cg102, cg103, cg104⟩ := blk5 HK18.out.2.2.2.2.2.2.2.2.2.2.2.2.1
       have nb39b37 := Ctx.ne HK18.out.2.2.2.2.2.2.2.2.2.2.2.2.2.2.2.2.2.2.2.1 HK18.out.2.2.2.2.2.2.2.2.2.2.2.2.2.2.2.2.2.2.2.2.1 (by decide)
       have ng10b37 := Ctx.ne HK18.out.2.2.2.2.2.2.2.2.2.2.2.2.1 HK18.out.2.2.2.2.2.2.2.2.2.2.2.2.2.2.2.2.2.2.2.2.1 (by decide)
       have ng10b39 := Ctx.ne' HK18.out.2.2.2.2.2.2.2.2.2.2.2.2.1 HK18.out.2.2.2.2.2.2.2.2.2.2.2.2.2.2.2.2.2.2.2.1 (by simp)
       go_region
       go_wp2_with fail
       have hz := Option.some.inj HH.out
       subst hz
       have hk := (Ctx.drew HK18.out)
       simp only [← World.setCell_drew]
       exact rd_end hk.2.2.2.2.2.2.2.2.2.2.2.2.2.2.2.2.2.2.2.2.1 hk.2.2.2.2.2.2.2.2.2.2.2.2.2.2.2.2.2.2.2.1 hk.2.2.2.2.2.2.2.2.2.2.2.2.2.2.2.2.2.2.2.2.2.2.1 vnil vnil vnil vnil hk.2.2.2.2.2.2.2.2.2.2.2.2.2.2.2.1 hk.2.2.2.2.2.2.2.2.2.2.2.2.2.2.1 rfl rfl rfl rfl
      ·have h1 := HH.out
       rw [if_pos (by decide)] at h1
       clear HH
       have HH := Aside0.mk h1
       clear h1
       go_upto_region 18 with fail
       refine absW _ (HK17.out) ?_
       clear HK17
       intro w18 hk0
       have HK18 := Aside0.mk hk0
       clear hk0
       obtain ⟨cb390, cb391, cb392, cb393, cb394⟩ := blk5 HK18.out.2.2.2.2.2.2.2.2.2.2.2.2.2.2.2.2.2.2.2.1
       have fb39 := Ctx.frz HK18.out.2.2.2.2.2.2.2.2.2.2.2.2.2.2.2.2.2.2.2.1
       obtain ⟨cb370, cb371, cb372, cb373, cb374, cb375, cb376, cb377, cb378, cb379⟩ := blk10 HK18.out.2.2.2.2.2.2.2.2.2.2.2.2.2.2.2.2.2.2.2.2.1
       have fb37 := Ctx.frz HK18.out.2.2.2.2.2.2.2.2.2.2.2.2.2.2.2.2.2.2.2.2.1
       have nb39b37 := Ctx.ne HK18.out.2.2.2.2.2.2.2.2.2.2.2.2.2.2.2.2.2.2.2.1 HK18.out.2.2.2.2.2.2.2.2.2.2.2.2.2.2.2.2.2.2.2.2.1 (by decide)
       go_wp2_with fail
       have hz := Option.some.inj HH.out
       subst hz
       exact rd_end HK18.out.2.2.2.2.2.2.2.2.2.2.2.2.2.2.2.2.2.2.2.2.1 HK18.out.2.2.2.2.2.2.2.2.2.2.2.2.2.2.2.2.2.2.2.1 HK18.out.2.2.2.2.2.2.2.2.2.2.2.2.2.2.2.2.2.2.2.2.2.2.1 vnil vnil vnil vnil vnil vnil rfl rfl rfl rfl
     ·have h1 := HH.out
      rw [if_pos (by decide)] at h1
      clear HH
      have HH := Aside0.mk h1
      clear h1
      go_upto_region 15 with fail
      refine absW _ (HK14.out) ?_
      clear HK14
      intro w15 hk0
      have HK15 := Aside0.mk hk0
      clear hk0
      obtain ⟨cb390, cb391, cb392, cb393, cb394⟩ := blk5 HK15.out.2.2.2.2.2.2.2.2.2.2.2.2.2.2.2.2.1
      have fb39 := Ctx.frz HK15.out.2.2.2.2.2.2.2.2.2.2.2.2.2.2.2.2.1
      obtain ⟨cb370, cb371, cb372, cb373, cb374, cb375, cb376, cb377, cb378, cb379⟩ := blk10 HK15.out.2.2.2.2.2.2.2.2.2.2.2.2.2.2.2.2.2.1
      have fb37 := Ctx.frz HK15.out.2.2.2.2.2.2.2.2.2.2.2.2.2.2.2.2.2.1
      have nb39b37 := Ctx.ne HK15.out.2.2.2.2.2.2.2.2.2.2.2.2.2.2.2.2.1 HK15.out.2.2.2.2.2.2.2.2.2.2.2.2.2.2.2.2.2.1 (by decide)
      go_wp2_with fail
      have hz := Option.some.inj HH.out
      subst hz
      exact rd_end HK15.out.2.2.2.2.2.2.2.2.2.2.2.2.2.2.2.2.2.1 HK15.out.2.2.2.2.2.2.2.2.2.2.2.2.2.2.2.2.1 HK15.out.2.2.2.2.2.2.2.2.2.2.2.2.2.2.2.2.2.2.2.1 vnil vnil vnil vnil vnil vnil rfl rfl rfl rfl)
    | (
     have h1 : rpc_Read.replies k p1 p2 p3 p4 i1 i2 i3 i4 false = some r := HH.out
     clear HH
     unfold rpc_Read.replies at h1
     replace h1 := Option.bind_eq_some_iff.mp h1
     obtain ⟨⟨x1, x2, x3, x4, xh⟩, hx, h1⟩ := h1
     have HH := Aside0.mk h1
     have HI := Aside0.mk hx
     clear h1 hx
     obtain ⟨cg50, cg51, cg52, cg53⟩ := blk4 HK12.out.2.2.2.2.2.2.2.2.2.2.1
     go_wp2_with fail
     refine (json_Get.calls k p1 p2 A2 c2 p3 (fun k => w.heap.size + 2 ≤ k) A3 c3 p4 ⟨#[114, 101, 115, 117, 108, 116]⟩ x1 x2 x3 x4 xh _ (vC HK12.out.2.2.2.2.2.2.2.2.2.2.2.2.1) (vle HK12.out.2.2.2.2.2.2.2.2.2.2.2.2.1) HK12.out.2.2.2.2.2.2.2.2.2.2.2.1 HI.out).mono ?_
     rintro e1 w13 ⟨v2, v3, rfl, h2, h3, hB⟩
     obtain ⟨Axk, cxk, rfl⟩ := Kd.V_slice h2
     obtain ⟨Axl, cxl, rfl⟩ := Kd.V_slice h3
     clear cg50 cg51 cg52 cg53
     have hsz : w.heap.size + 2 ≤ w12.heap.size := blk_lt HK12.out.2.2.2.2.2.2.2.2.2.2.2.2.2.1
     have HK13 := Aside0.mk (Ctx.cons (uV k27 27 (w.heap.size + 2) _ _) (vV h3 hsz) (Ctx.cons (uV Kd.string 9 (w.heap.size + 2) _ _) (vV h2 hsz) (HK12.out.below hB)))
     clear HK12 hB
     clear h2 h3 hsz HI
     go_upto_region 14 with fail
     refine absW _ (Ctx.new (cs := [.int .i64 x1, .string x2, .slice Axk x3.length cxk, .slice Axl x4.length cxl]) (t := 27) (HK13.out)) ?_
     clear HK13
     intro w14 hk0
     have HK14 := Aside0.mk hk0
     clear hk0
     cases xh
     all_goals
      have h1 := HH.out
      rw [if_neg (by decide)] at h1
      clear HH
      replace h1 := Option.bind_eq_some_iff.mp h1
      obtain ⟨⟨y1, y2, y3, y4, yh⟩, hy, h1⟩ := h1
      have HH := Aside0.mk h1
      have HI := Aside0.mk hy
      clear h1 hy
      go_upto_region 16 with fail
      refine absW _ (HK14.out) ?_
      clear HK14
      intro w15 hk0
      have HK15 := Aside0.mk hk0
      clear hk0
      obtain ⟨cg50, cg51, cg52, cg53⟩ := blk4 HK15.out.2.2.2.2.2.2.2.2.2.2.2.2.2.1
      go_wp2_with fail
      refine (json_Get.calls k p1 p2 A2 c2 p3 (fun k => w.heap.size + 2 ≤ k) A3 c3 p4 ⟨#[101, 114, 114, 111, 114]⟩ y1 y2 y3 y4 yh _ (vC HK15.out.2.2.2.2.2.2.2.2.2.2.2.2.2.2.2.1) (vle HK15.out.2.2.2.2.2.2.2.2.2.2.2.2.2.2.2.1) HK15.out.2.2.2.2.2.2.2.2.2.2.2.2.2.2.1 HI.out).mono ?_
      rintro e1 w16 ⟨v2, v3, rfl, h2, h3, hB⟩
      obtain ⟨Ayk, cyk, rfl⟩ := Kd.V_slice h2
      obtain ⟨Ayl, cyl, rfl⟩ := Kd.V_slice h3
      clear cg50 cg51 cg52 cg53
      have hsz : w.heap.size + 2 ≤ w15.heap.size := blk_lt HK15.out.2.2.2.2.2.2.2.2.2.2.2.2.2.2.2.2.1
      have HK16 := Aside0.mk (Ctx.cons (uV k27 27 (w.heap.size + 2) _ _) (vV h3 hsz) (Ctx.cons (uV Kd.string 9 (w.heap.size + 2) _ _) (vV h2 hsz) (HK15.out.below hB)))
      clear HK15 hB
      clear h2 h3 hsz HI
      go_upto_region 17 with fail
      refine absW _ (Ctx.new (cs := [.int .i64 y1, .string y2, .slice Ayk y3.length cyk, .slice Ayl y4.length cyl]) (t := 27) (HK16.out)) ?_
      clear HK16
      intro w17 hk0
      have HK17 := Aside0.mk hk0
      clear hk0
      cases yh
      all_goals
       have h1 := HH.out
       rw [if_neg (by decide)] at h1
       clear HH
       have HH := Aside0.mk h1
       clear h1
       go_upto_region 19 with fail
       refine absW _ (HK17.out) ?_
       clear HK17
       intro w18 hk0
       have HK18 := Aside0.mk hk0
       clear hk0
       obtain ⟨cb390, cb391, cb392, cb393, cb394⟩ := blk5 HK18.out.2.2.2.2.2.2.2.2.2.2.2.2.2.2.2.2.2.2.2.1
       have fb39 := Ctx.frz HK18.out.2.2.2.2.2.2.2.2.2.2.2.2.2.2.2.2.2.2.2.1
       obtain ⟨cb370, cb371, cb372, cb373, cb374, cb375, cb376, cb377, cb378, cb379⟩ := blk10 HK18.out.2.2.2.2.2.2.2.2.2.2.2.2.2.2.2.2.2.2.2.2.1
       have fb37 := Ctx.frz HK18.out.2.2.2.2.2.2.2.2.2.2.2.2.2.2.2.2.2.2.2.2.1
       obtain ⟨cg100, cg101, cg102, cg103, cg104⟩ := blk5 HK18.out.2.2.2.2.2.2.2.2.2.2.2.2.1
       have nb39b37 := Ctx.ne HK18.out.2.2.2.2.2.2.2.2.2.2.2.2.2.2.2.2.2.2.2.1 HK18.out.2.2.2.2.2.2.2.2.2.2.2.2.2.2.2.2.2.2.2.2.1 (by decide)
       have ng10b37 := Ctx.ne HK18.out.2.2.2.2.2.2.2.2.2.2.2.2.1 HK18.out.2.2.2.2.2.2.2.2.2.2.2.2.2.2.2.2.2.2.2.2.1 (by decide)
       have ng10b39 := Ctx.ne' HK18.out.2.2.2.2.2.2.2.2.2.2.2.2.1 HK18.out.2.2.2.2.2.2.2.2.2.2.2.2.2.2.2.2.2.2.2.1 (by simp)
       go_region
       go_wp2_with fail
       have hz := Option.some.inj HH.out
       subst hz
       have hk := (Ctx.drew HK18.out)
       simp only [← World.setCell_drew]
       exact rd_end hk.2.2.2.2.2.2.2.2.2.2.2.2.2.2.2.2.2.2.2.2.1 hk.2.2.2.2.2.2.2.2.2.2.2.2.2.2.2.2.2.2.2.1 hk.2.2.2.2.2.2.2.2.2.2.2.2.2.2.2.2.2.2.2.2.2.2.1 vnil vnil vnil vnil hk.2.2.2.2.2.2.2.2.2.2.2.2.2.2.2.1 hk.2.2.2.2.2.2.2.2.2.2.2.2.2.2.1 rfl rfl rfl rfl)
  subst r4
  have h1 := HH.out
  rw [if_neg (by decide)] at h1
  clear HH
  have HH := Aside0.mk h1
  clear h1
  by_cases r5 : (m1 != 4) = true
  ·have h1 := HH.out
   rw [if_pos r5] at h1
   clear HH
   have HH := Aside0.mk h1
   clear h1
   obtain ⟨cg130, cg131, cg132, cg133⟩ := blk4 HK12.out.1
   go_upto_region 21 with fail
   clear cg130 cg131 cg132 cg133
   refine absW _ (HK12.out) ?_
   clear HK12
   intro w13 hk0
   have HK13 := Aside0.mk hk0
   clear hk0
   obtain ⟨cb390, cb391, cb392, cb393, cb394⟩ := blk5 HK13.out.2.2.2.2.2.2.2.2.2.2.2.2.2.1
   have fb39 := Ctx.frz HK13.out.2.2.2.2.2.2.2.2.2.2.2.2.2.1
   obtain ⟨cb370, cb371, cb372, cb373, cb374, cb375, cb376, cb377, cb378, cb379⟩ := blk10 HK13.out.2.2.2.2.2.2.2.2.2.2.2.2.2.2.1
   have fb37 := Ctx.frz HK13.out.2.2.2.2.2.2.2.2.2.2.2.2.2.2.1
   obtain ⟨cg100, cg101, cg102, cg103, cg104⟩ := blk5 HK13.out.2.2.2.2.2.2.1
   have nb39b37 := Ctx.ne HK13.out.2.2.2.2.2.2.2.2.2.2.2.2.2.1 HK13.out.2.2.2.2.2.2.2.2.2.2.2.2.2.2.1 (by decide)
   have ng10b37 := Ctx.ne HK13.out.2.2.2.2.2.2.1 HK13.out.2.2.2.2.2.2.2.2.2.2.2.2.2.2.1 (by decide)
   have ng10b39 := Ctx.ne' HK13.out.2.2.2.2.2.2.1 HK13.out.2.2.2.2.2.2.2.2.2.2.2.2.2.1 (by simp)
   go_region
   go_wp2_with fail
   have hz := Option.some.inj HH.out
   subst hz
   have hk := (Ctx.drew HK13.out)
   simp only [← World.setCell_drew]
   exact rd_end hk.2.2.2.2.2.2.2.2.2.2.2.2.2.2.1 hk.2.2.2.2.2.2.2.2.2.2.2.2.2.1 hk.2.2.2.2.2.2.2.2.2.2.2.2.2.2.2.2.1 vnil vnil vnil vnil hk.2.2.2.2.2.2.2.2.2.1 hk.2.2.2.2.2.2.2.2.1 rfl rfl rfl rfl
  have h1 := HH.out
  rw [if_neg r5] at h1
  clear HH
  replace r5 := Bool.eq_false_iff.mpr r5
  unfold rpc_Read.params at h1
  replace h1 := Option.bind_eq_some_iff.mp h1
  obtain ⟨⟨z1, z2, z3, z4, zh⟩, hz, h1⟩ := h1
  have HH := Aside0.mk h1
  have HI := Aside0.mk hz
  clear h1 hz
  obtain ⟨cg130, cg131, cg132, cg133⟩ := blk4 HK12.out.1
  go_upto_region 22 with fail
  clear cg130 cg131 cg132 cg133
  refine absW _ (HK12.out) ?_
  clear HK12
  intro w13 hk0
  have HK13 := Aside0.mk hk0
  clear hk0
  obtain ⟨cg50, cg51, cg52, cg53⟩ := blk4 HK13.out.2.2.2.2.2.2.2.2.2.2.1
  go_wp2_with fail
  refine (json_Get.calls k p1 p2 A2 c2 p3 (fun k => w.heap.size + 2 ≤ k) A3 c3 p4 ⟨#[112, 97, 114, 97, 109, 115]⟩ z1 z2 z3 z4 zh _ (vC HK13.out.2.2.2.2.2.2.2.2.2.2.2.2.1) (vle HK13.out.2.2.2.2.2.2.2.2.2.2.2.2.1) HK13.out.2.2.2.2.2.2.2.2.2.2.2.1 HI.out).mono ?_
  rintro e1 w14 ⟨v2, v3, rfl, h2, h3, hB⟩
  obtain ⟨Azk, czk, rfl⟩ := Kd.V_slice h2
  obtain ⟨Azl, czl, rfl⟩ := Kd.V_slice h3
  clear cg50 cg51 cg52 cg53
  have hsz : w.heap.size + 2 ≤ w13.heap.size := blk_lt HK13.out.2.2.2.2.2.2.2.2.2.2.2.2.2.1
  have HK14 := Aside0.mk (Ctx.cons (uV k27 27 (w.heap.size + 2) _ _) (vV h3 hsz) (Ctx.cons (uV Kd.string 9 (w.heap.size + 2) _ _) (vV h2 hsz) (HK13.out.below hB)))
  clear HK13 hB
  clear h2 h3 hsz HI
  go_upto_region 23 with fail
  refine absW _ (Ctx.new (cs := [.int .i64 z1, .string z2, .slice Azk z3.length czk, .slice Azl z4.length czl]) (t := 27) (HK14.out)) ?_
  clear HK14
  intro w15 hk0
  have HK15 := Aside0.mk hk0
  clear hk0
  by_cases r6 : (zh && (z1 != 6 && z1 != 5)) = true
  ·have h1 := HH.out
   rw [if_pos r6] at h1
   clear HH
   have HH := Aside0.mk h1
   clear h1
   rw [Bool.and_eq_true, Bool.and_eq_true] at r6
   obtain ⟨rfl, r7, r8⟩ := r6
   obtain ⟨cg180, cg181, cg182, cg183⟩ := blk4 HK15.out.1
   go_upto_region 24 with fail
   clear cg180 cg181 cg182 cg183
   refine absW _ (HK15.out) ?_
   clear HK15
   intro w16 hk0
   have HK16 := Aside0.mk hk0
   clear hk0
   obtain ⟨cb390, cb391, cb392, cb393, cb394⟩ := blk5 HK16.out.2.2.2.2.2.2.2.2.2.2.2.2.2.2.2.2.1
   have fb39 := Ctx.frz HK16.out.2.2.2.2.2.2.2.2.2.2.2.2.2.2.2.2.1
   obtain ⟨cb370, cb371, cb372, cb373, cb374, cb375, cb376, cb377, cb378, cb379⟩ := blk10 HK16.out.2.2.2.2.2.2.2.2.2.2.2.2.2.2.2.2.2.1
   have fb37 := Ctx.frz HK16.out.2.2.2.2.2.2.2.2.2.2.2.2.2.2.2.2.2.1
   obtain ⟨cg100, cg101, cg102, cg103, cg104⟩ := blk5 HK16.out.2.2.2.2.2.2.2.2.2.1
   have nb39b37 := Ctx.ne HK16.out.2.2.2.2.2.2.2.2.2.2.2.2.2.2.2.2.1 HK16.out.2.2.2.2.2.2.2.2.2.2.2.2.2.2.2.2.2.1 (by decide)
   have ng10b37 := Ctx.ne HK16.out.2.2.2.2.2.2.2.2.2.1 HK16.out.2.2.2.2.2.2.2.2.2.2.2.2.2.2.2.2.2.1 (by decide)
   have ng10b39 := Ctx.ne' HK16.out.2.2.2.2.2.2.2.2.2.1 HK16.out.2.2.2.2.2.2.2.2.2.2.2.2.2.2.2.2.1 (by simp)
   go_region
   go_wp2_with fail
   have hz := Option.some.inj HH.out
   subst hz
   have hk := (Ctx.drew HK16.out)
   simp only [← World.setCell_drew]
   exact rd_end hk.2.2.2.2.2.2.2.2.2.2.2.2.2.2.2.2.2.1 hk.2.2.2.2.2.2.2.2.2.2.2.2.2.2.2.2.1 hk.2.2.2.2.2.2.2.2.2.2.2.2.2.2.2.2.2.2.2.1 vnil vnil vnil vnil hk.2.2.2.2.2.2.2.2.2.2.2.2.1 hk.2.2.2.2.2.2.2.2.2.2.2.1 rfl rfl rfl rfl
  have h1 := HH.out
  rw [if_neg r6] at h1
  clear HH
  have HH := Aside0.mk h1
  clear h1
  rcases (show zh = false ∨ (zh = true ∧ (z1 != 6) = false) ∨ (zh = true ∧ (z1 != 6) = true ∧ (z1 != 5) = false) from by revert r6; cases zh <;> cases (z1 != 6) <;> cases (z1 != 5) <;> simp) with r7 | ⟨r7, r8⟩ | ⟨r7, r8, r9⟩
  all_goals
   clear r6
   subst r7
   obtain ⟨cg180, cg181, cg182, cg183⟩ := blk4 HK15.out.1
   go_upto_region 25 with fail
   clear cg180 cg181 cg182 cg183
   refine absW _ (HK15.out) ?_
   clear HK15
   intro w16 hk0
   have HK16 := Aside0.mk hk0
   clear hk0
   obtain ⟨cg180, cg181, cg182, cg183⟩ := blk4 HK16.out.1
   obtain ⟨cg130, cg131, cg132, cg133⟩ := blk4 HK16.out.2.2.2.1
   obtain ⟨cg80, cg81, cg82, cg83⟩ := blk4 HK16.out.2.2.2.2.2.2.2.2.2.2.1
   obtain ⟨cb390, cb391, cb392, cb393, cb394⟩ := blk5 HK16.out.2.2.2.2.2.2.2.2.2.2.2.2.2.2.2.2.1
   have fb39 := Ctx.frz HK16.out.2.2.2.2.2.2.2.2.2.2.2.2.2.2.2.2.1
   obtain ⟨cb370, cb371, cb372, cb373, cb374, cb375, cb376, cb377, cb378, cb379⟩ := blk10 HK16.out.2.2.2.2.2.2.2.2.2.2.2.2.2.2.2.2.2.1
   have fb37 := Ctx.frz HK16.out.2.2.2.2.2.2.2.2.2.2.2.2.2.2.2.2.2.1
   have nb39b37 := Ctx.ne HK16.out.2.2.2.2.2.2.2.2.2.2.2.2.2.2.2.2.1 HK16.out.2.2.2.2.2.2.2.2.2.2.2.2.2.2.2.2.2.1 (by decide)
   have ng8b37 := Ctx.ne HK16.out.2.2.2.2.2.2.2.2.2.2.1 HK16.out.2.2.2.2.2.2.2.2.2.2.2.2.2.2.2.2.2.1 (by decide)
   have ng8b39 := Ctx.ne HK16.out.2.2.2.2.2.2.2.2.2.2.1 HK16.out.2.2.2.2.2.2.2.2.2.2.2.2.2.2.2.2.1 (by decide)
   have ng13b37 := Ctx.ne HK16.out.2.2.2.1 HK16.out.2.2.2.2.2.2.2.2.2.2.2.2.2.2.2.2.2.1 (by decide)
   have ng13b39 := Ctx.ne HK16.out.2.2.2.1 HK16.out.2.2.2.2.2.2.2.2.2.2.2.2.2.2.2.2.1 (by decide)
   have ng18b37 := Ctx.ne HK16.out.1 HK16.out.2.2.2.2.2.2.2.2.2.2.2.2.2.2.2.2.2.1 (by decide)
   have ng18b39 := Ctx.ne HK16.out.1 HK16.out.2.2.2.2.2.2.2.2.2.2.2.2.2.2.2.2.1 (by decide)
   go_wp2_with fail
   clear cg180 cg181 cg182 cg183 cg130 cg131 cg132 cg133 cg80 cg81 cg82 cg83 cb390 cb391 cb392 cb393 cb394 fb39 cb370 cb371 cb372 cb373 cb374 cb375 cb376 cb377 cb378 cb379 fb37 ng8b37 ng8b39 ng13b37 ng13b39 ng18b37 ng18b39
   first
    | (
     have hz := Option.some.inj HH.out
     subst hz
     exact rd_end HK16.out.2.2.2.2.2.2.2.2.2.2.2.2.2.2.2.2.2.1 HK16.out.2.2.2.2.2.2.2.2.2.2.2.2.2.2.2.2.1 HK16.out.2.2.2.2.2.2.2.2.2.2.2.2.2.2.2.2.2.2.2.1 HK16.out.2.2.2.2.2.2.2.2.2.2.2.2.1 HK16.out.2.2.2.2.2.2.2.2.2.2.2.1 HK16.out.2.2.1 HK16.out.2.1 vnil vnil rfl rfl rfl rfl)
    | (
     have hz := Option.some.inj HH.out
     subst hz
     exact rd_end HK16.out.2.2.2.2.2.2.2.2.2.2.2.2.2.2.2.2.2.1 HK16.out.2.2.2.2.2.2.2.2.2.2.2.2.2.2.2.2.1 HK16.out.2.2.2.2.2.2.2.2.2.2.2.2.2.2.2.2.2.2.2.1 HK16.out.2.2.2.2.2.2.2.2.2.2.2.2.1 HK16.out.2.2.2.2.2.2.2.2.2.2.2.1 HK16.out.2.2.1 HK16.out.2.1 vnil vnil rfl rfl rfl rfl)
end Go.Proofs.YteighppcdpaekaaDoor.P
end
section
namespace Go.Proofs.YteighppcdpaekaaDoor.P
open Go.RowKit Go.Proofs.YteighppcdpaekaaDoorW.PrintWords Go.Proofs.YteighppcdpaekaaDoorW.PrintLast Go.Proofs.YteighppcdpaekaaDoorW.PrintMore
theorem lit_Cb (w : World) (e : TypeId) (xs : List Int) (z : Nat × Nat) (hxl : xs.length ≤ 1000) : Kd.C (Kd.int .u8) (w.alloc (.cells (xs.map (Value.int .u8)).toArray e z)) (some ⟨w.heap.size, 0, none⟩) xs.length xs := by
 have hb := blk_new w (.cells (xs.map (Value.int .u8)).toArray e z)
 refine Kd.C_of_reads (enc := Value.int .u8) (d := (0 : Int)) (h1 := fun _ => rfl) ⟨rfl, by omega, fun hn => ⟨_, rfl, fun j hj => ?_⟩⟩
 have ha : (⟨w.heap.size, 0, none⟩ : Addr).add j = ⟨w.heap.size, j, none⟩ := by
  unfold Addr.add
  split
  ·rename_i h0; rw [h0]
  ·simp
 rw [ha]
 simp only [World.cell?, hb]
 simp [List.getD_eq_getElem?_getD, List.getElem?_eq_getElem hj]
theorem rd_one : rpc_Read.f 60 [123, 34, 106, 115, 111, 110, 114, 112, 99, 34, 58, 34, 50, 46, 48, 34, 44, 34, 105, 100, 34, 58, 49, 44, 34, 109, 101, 116, 104, 111, 100, 34, 58, 34, 109, 34, 125] = some (true, 3, ⟨#[49]⟩, [], [], ⟨#[109]⟩, 0, ⟨#[]⟩, [], [], 0, 0, ⟨#[]⟩, [], [], true) := by kernel_rfl
theorem rd_two : rpc_Read.f 20 [91, 49, 93] = some (false, 0, ⟨#[]⟩, [], [], ⟨#[]⟩, 0, ⟨#[]⟩, [], [], -32600, 0, ⟨#[]⟩, [], [], false) := by kernel_rfl
def l6_called.f : Option Bool := some true
set_option maxHeartbeats 1600000 in
set_option maxRecDepth 100000 in
theorem l6_called.calls (r : Bool) (w : World) (h : l6_called.f = some r) (hT : TabOk w) :
  Calls Tryd.prog 14 #[] w fun e w' => e = .returned (.bool r) ∧ Below w.heap.size w w' := by
 obtain rfl : true = r := Option.some.inj h
 have kc := fun (w : World) (C : Array Value) (n c : Nat) => Lib.run_convert_bytes_const (P := Tryd.prog) w 35 5 C n c Tryd.underlying35 Tryd.underlying5
 have HK0 := Aside0.mk (show Ctx [uTab, uB w] w from ⟨hT, Below.refl _ _, trivial⟩)
 clear hT
 go_enter Tryd.func14, Tryd.ntmps14
 go_wp2_with fail
 refine (rpc_Read.calls0 60 _ _ [123, 34, 106, 115, 111, 110, 114, 112, 99, 34, 58, 34, 50, 46, 48, 34, 44, 34, 105, 100, 34, 58, 49, 44, 34, 109, 101, 116, 104, 111, 100, 34, 58, 34, 109, 34, 125] _ _ (lit_Cb w 5 [123, 34, 106, 115, 111, 110, 114, 112, 99, 34, 58, 34, 50, 46, 48, 34, 44, 34, 105, 100, 34, 58, 49, 44, 34, 109, 101, 116, 104, 111, 100, 34, 58, 34, 109, 34, 125] (37, 38) (by decide)) (by decide) rd_one (HK0.out.alloc _).1).mono ?_
 rintro e1 w1 ⟨v3, v4, v8, v9, v13, v14, rfl, h3, h4, h8, h9, h13, h14, hB⟩
 obtain ⟨A3, c3, rfl⟩ := Kd.V_slice h3
 obtain ⟨A4, c4, rfl⟩ := Kd.V_slice h4
 obtain ⟨A8, c8, rfl⟩ := Kd.V_slice h8
 obtain ⟨A9, c9, rfl⟩ := Kd.V_slice h9
 obtain ⟨A13, c13, rfl⟩ := Kd.V_slice h13
 obtain ⟨A14, c14, rfl⟩ := Kd.V_slice h14
 have HK1 := Aside0.mk ((HK0.out.alloc _).below hB)
 clear HK0 hB h3 h4 h8 h9 h13 h14
 go_upto_region 2 with fail
 have HK2 := Aside0.mk (Ctx.new (cs := [.int .i64 0, .int .i64 0, .string ⟨#[]⟩, .slice A13 0 c13, .slice A14 0 c14]) (t := 39) (Ctx.new (cs := [.bool true, .int .i64 3, .string ⟨#[49]⟩, .slice A3 0 c3, .slice A4 0 c4, .string ⟨#[109]⟩, .int .i64 0, .string ⟨#[]⟩, .slice A8 0 c8, .slice A9 0 c9]) (t := 37) HK1.out))
 clear HK1
 refine absW _ HK2.out ?_
 clear HK2
 intro w2 hk
 have HK2 := Aside0.mk hk
 clear hk
 go_wp2_with fail
 refine (rpc_Read.calls0 20 _ _ [91, 49, 93] _ _ (lit_Cb w2 5 [91, 49, 93] (3, 4) (by decide)) (by decide) rd_two (HK2.out.alloc _).2.2.1).mono ?_
 rintro e1 w3 ⟨v3, v4, v8, v9, v13, v14, rfl, h3, h4, h8, h9, h13, h14, hB⟩
 obtain ⟨B3, d3, rfl⟩ := Kd.V_slice h3
 obtain ⟨B4, d4, rfl⟩ := Kd.V_slice h4
 obtain ⟨B8, d8, rfl⟩ := Kd.V_slice h8
 obtain ⟨B9, d9, rfl⟩ := Kd.V_slice h9
 obtain ⟨B13, d13, rfl⟩ := Kd.V_slice h13
 obtain ⟨B14, d14, rfl⟩ := Kd.V_slice h14
 have HK3 := Aside0.mk ((HK2.out.alloc _).below hB)
 clear HK2 hB h3 h4 h8 h9 h13 h14
 go_upto_region 3 with fail
 have HK4 := Aside0.mk (Ctx.new (cs := [.int .i64 (-32600), .int .i64 0, .string ⟨#[]⟩, .slice B13 0 d13, .slice B14 0 d14]) (t := 39) (Ctx.new (cs := [.bool false, .int .i64 0, .string ⟨#[]⟩, .slice B3 0 d3, .slice B4 0 d4, .string ⟨#[]⟩, .int .i64 0, .string ⟨#[]⟩, .slice B8 0 d8, .slice B9 0 d9]) (t := 37) HK3.out))
 clear HK3
 refine absW _ HK4.out ?_
 clear HK4
 simp only [World.size_alloc]
 intro w4 hk
 have HK4 := Aside0.mk hk
 clear hk
 obtain ⟨c0, c1, c2', c3', c4'⟩ := blk5 HK4.out.1
 obtain ⟨d0, d1, d2, -, -, d5, d6, d7, -, -⟩ := blk10 HK4.out.2.2.2.1
 go_wp2_with fail
 go_ret
 exact ⟨rfl, HK4.out.2.2.2.2.2.1⟩
end Go.Proofs.YteighppcdpaekaaDoor.P
end
section
namespace Go.Proofs.YteighppcdpaekaaDoor.P
open Go.RowKit Go.Proofs.YteighppcdpaekaaDoor.Rf Go.Proofs.YteighppcdpaekaaDoorW.PrintWords Go.Proofs.YteighppcdpaekaaDoorW.PrintLast Go.Proofs.YteighppcdpaekaaDoorW.PrintMore
def posA (w : World) (e : Ending) (w' : World) : Prop := e = .returned (.bool true) ∧ Below w.heap.size w w'
set_option maxRecDepth 100000 in
set_option maxHeartbeats 3200000 in
theorem positions_long (A : Option Addr) (c : Nat) (b : List Int) (w : World) (hT : TabOk w) (h : 1000 < b.length) :
  Calls Tryd.prog 5 #[.slice A b.length c] w (posA w) := by
 have HT := Aside0.mk hT
 clear hT
 go_enter Tryd.func5, Tryd.ntmps5
 go_wp2_with fail
 refine (l6_called.calls true _ rfl HT.out).mono ?_
 rintro en W1 ⟨rfl, hb⟩
 go_wp2_with fail
 go_ret
 exact ⟨rfl, hb⟩
set_option maxRecDepth 100000 in
set_option maxHeartbeats 3200000 in
theorem positions_bad (k : Nat) (A : Option Addr) (c : Nat) (b : List Int) (w : World) (hr : Kd.C (Kd.int .u8) w A b.length b) (hc : b.length ≤ c) (hT : TabOk w) (h : b.length ≤ 1000) (x : S44) (a e : Int) (he : e ≠ 0) (hp : parseF k b = some (x, a, e)) :
  Calls Tryd.prog 5 #[.slice A b.length c] w (posA w) := by
 have HP := Aside0.mk hp
 have HR := Aside0.mk hr
 have hc' := Aside0.mk hc
 have K := Aside0.mk (show Ctx [uB w, uTab] w from ⟨Below.refl _ _, hT, trivial⟩)
 have he' : (e != 0) = true := by simpa using he
 clear hT hp hr hc he
 go_enter Tryd.func5, Tryd.ntmps5
 go_wp2_with fail
 refine (parse_calls k A c b _ w HR.out hc'.out HP.out).mono ?_
 rintro en W1 ⟨v2, v3, rfl, h2, h3, hb⟩
 obtain ⟨A2, c2, rfl⟩ : ∃ A c, v2 = .slice A x.f2.length c := by
  obtain ⟨A, c, e⟩ := Kd.R_slice h2
  exact ⟨_, _, e⟩
 obtain ⟨A3, c3, rfl⟩ : ∃ A c, v3 = .slice A x.f3.length c := by
  obtain ⟨A, c, e⟩ := Kd.R_slice h3
  exact ⟨_, _, e⟩
 have C := Ctx.new (cs := [.int .i64 x.f0, .string x.f1, .slice A2 x.f2.length c2, .slice A3 x.f3.length c3]) (t := 44) (K.out.below hb)
 clear K hb h2 h3 HP HR
 go_upto_region 4 with fail
 refine absW _ C ?_
 clear C
 intro w2 C
 have K := Aside0.mk C
 clear C
 go_wp2_with fail
 refine (l6_called.calls true _ rfl K.out.2.2.1).mono ?_
 rintro en W3 ⟨rfl, hb⟩
 have C := K.out.below hb
 clear K hb
 go_wp2_with fail
 go_ret
 exact ⟨rfl, C.2.1⟩
set_option maxRecDepth 100000 in
set_option maxHeartbeats 6400000 in
theorem positions_good (k : Nat) (A : Option Addr) (c : Nat) (b : List Int) (w : World) (hr : Kd.C (Kd.int .u8) w A b.length b) (hc : b.length ≤ c) (hT : TabOk w) (h : b.length ≤ 1000) (x0 : Int) (x1 : ByteArray) (x2 : List ByteArray) (x3 : List S44) (v0 : Int) (v1 : ByteArray) (v2 : List ByteArray) (v3 : List S27) (P : Int × Int × Bool) (R : RgOut)
  (hp : parseF k b = some (⟨x0, x1, x2, x3⟩, 0, 0)) (ht : toF k ⟨x0, x1, x2, x3⟩ = some ⟨v0, v1, v2, v3⟩) (h1 : posJF k v0 v1 v2 v3 = some P) (h2 : pos6F k x0 x1 x2 x3 = some P) (h3 : rgJF k v0 v1 v2 v3 = some R) (h4 : rg6F k x0 x1 x2 x3 = some R) :
  Calls Tryd.prog 5 #[.slice A b.length c] w (posA w) := by
 obtain ⟨p0, p1, pb⟩ := P
 obtain ⟨r0, r1, r2, r3, rb⟩ := R
 have HP := Aside0.mk hp
 have HR := Aside0.mk hr
 have hc' := Aside0.mk hc
 have G0 := Aside0.mk ht
 have G1 := Aside0.mk h1
 have G2 := Aside0.mk h2
 have G3 := Aside0.mk h3
 have G4 := Aside0.mk h4
 have K := Aside0.mk (show Ctx [uB w, uTab] w from ⟨Below.refl _ _, hT, trivial⟩)
 clear hT hp hr hc ht h1 h2 h3 h4
 go_enter Tryd.func5, Tryd.ntmps5
 go_wp2_with fail
 refine (parse_calls k A c b _ w HR.out hc'.out HP.out).mono ?_
 rintro en W1 ⟨u2, u3, rfl, h2, h3, hb⟩
 obtain ⟨A2, c2, rfl⟩ : ∃ A c, u2 = .slice A x2.length c := by
  obtain ⟨A, c, e⟩ := Kd.R_slice h2
  exact ⟨_, _, e⟩
 obtain ⟨A3, c3, rfl⟩ : ∃ A c, u3 = .slice A x3.length c := by
  obtain ⟨A, c, e⟩ := Kd.R_slice h3
  exact ⟨_, _, e⟩
 have C := Ctx.new (cs := [.int .i64 x0, .string x1, .slice A2 x2.length c2, .slice A3 x3.length c3]) (t := 44) (Ctx.cons (uV Kd.string 9 0 (.slice A2 x2.length c2) x2) (vR h2 (Nat.zero_le _)) (Ctx.cons (uV k44 44 0 (.slice A3 x3.length c3) x3) (vR h3 (Nat.zero_le _)) (K.out.below hb)))
 clear K hb h2 h3 HP HR
 go_upto_region 4 with fail
 refine absW _ C ?_
 clear C
 intro w2 C
 have K := Aside0.mk C
 obtain ⟨b1, q2, q3, _⟩ := C
 obtain ⟨x0_, x1_, x2_, x3_⟩ : w2.cell? ⟨W1.heap.size, 0, none⟩ = some (.int .i64 x0) ∧ w2.cell? ⟨W1.heap.size, 1, none⟩ = some (.string x1) ∧ w2.cell? ⟨W1.heap.size, 2, none⟩ = some (.slice A2 x2.length c2) ∧ w2.cell? ⟨W1.heap.size, 3, none⟩ = some (.slice A3 x3.length c3) := ⟨Ctx.blk b1 0 rfl, Ctx.blk b1 1 rfl, Ctx.blk b1 2 rfl, Ctx.blk b1 3 rfl⟩
 have V2 := Aside0.mk q2
 have V3 := Aside0.mk q3
 clear b1 q2 q3
 go_wp2_with fail
 refine (to06_calls k ⟨x0, x1, x2, x3⟩ A2 c2 A3 c3 _ ⟨v0, v1, v2, v3⟩ _ (Nat.le_refl _) (Kd.V_mono (Kd.V_bound V2.out) (fun _ hk => hk.2)) (Kd.V_mono (Kd.V_bound V3.out) (fun _ hk => hk.2)) G0.out).mono ?_
 rintro en W2 ⟨u2, u3, rfl, e2, e3, hb⟩
 obtain ⟨B02, m02, rfl⟩ : ∃ A c, u2 = .slice A v2.length c := by
  obtain ⟨A, c, e⟩ := Kd.V_slice e2
  exact ⟨_, _, e⟩
 obtain ⟨B03, m03, rfl⟩ : ∃ A c, u3 = .slice A v3.length c := by
  obtain ⟨A, c, e⟩ := Kd.V_slice (Kd.N_V (base' := 0) e3)
  exact ⟨_, _, e⟩
 have C := Ctx.cons (uV Kd.string 9 0 (.slice B02 v2.length m02) v2) (Kd.V_mono (show Kd.V Kd.string 9 W2 0 _ _ _ from e2) (fun _ _ => Nat.zero_le _)) (Ctx.cons (uV k27 27 0 (.slice B03 v3.length m03) v3) (Kd.V_mono (Kd.N_V (base' := 0) e3) (fun _ _ => Nat.zero_le _)) (K.out.below hb))
 clear K V2 V3 e2 e3 hb x0_ x1_ x2_ x3_
 have K := Aside0.mk C
 clear C
 go_wp2_with fail
 refine (posJ_calls k v0 v1 B02 m02 v2 B03 m03 v3 _ _ K.out.1 K.out.2.1 G1.out K.out.2.2.2.2.2.2.1).mono ?_
 rintro en W3 ⟨rfl, hb⟩
 have C := Ctx.new (cs := [.int .i64 p0, .int .i64 p1]) (t := 57) (K.out.below hb)
 clear K hb G1
 go_upto_region 7 with fail
 refine absW _ C ?_
 clear C
 intro w4 C
 have K := Aside0.mk C
 obtain ⟨_, _, _, b1, q2, q3, _⟩ := C
 obtain ⟨x0_, x1_, x2_, x3_⟩ : w4.cell? ⟨W1.heap.size, 0, none⟩ = some (.int .i64 x0) ∧ w4.cell? ⟨W1.heap.size, 1, none⟩ = some (.string x1) ∧ w4.cell? ⟨W1.heap.size, 2, none⟩ = some (.slice A2 x2.length c2) ∧ w4.cell? ⟨W1.heap.size, 3, none⟩ = some (.slice A3 x3.length c3) := ⟨Ctx.blk b1 0 rfl, Ctx.blk b1 1 rfl, Ctx.blk b1 2 rfl, Ctx.blk b1 3 rfl⟩
 have V2 := Aside0.mk q2
 have V3 := Aside0.mk q3
 clear b1 q2 q3
 go_wp2_with fail
 refine (pos6_calls k x0 x1 A2 c2 x2 A3 c3 x3 _ _ V2.out V3.out G2.out).mono ?_
 rintro en W4 ⟨rfl, hb⟩
 have C := Ctx.new (cs := [.int .i64 p0, .int .i64 p1]) (t := 57) (K.out.below hb)
 clear K hb G2 V2 V3 x0_ x1_ x2_ x3_
 go_upto_region 8 with fail
 refine absW _ C ?_
 clear C
 intro w5 C
 have K := Aside0.mk C
 obtain ⟨_, _, _, _, b1, q2, q3, _⟩ := C
 obtain ⟨x0_, x1_, x2_, x3_⟩ : w5.cell? ⟨W1.heap.size, 0, none⟩ = some (.int .i64 x0) ∧ w5.cell? ⟨W1.heap.size, 1, none⟩ = some (.string x1) ∧ w5.cell? ⟨W1.heap.size, 2, none⟩ = some (.slice A2 x2.length c2) ∧ w5.cell? ⟨W1.heap.size, 3, none⟩ = some (.slice A3 x3.length c3) := ⟨Ctx.blk b1 0 rfl, Ctx.blk b1 1 rfl, Ctx.blk b1 2 rfl, Ctx.blk b1 3 rfl⟩
 have V2 := Aside0.mk q2
 have V3 := Aside0.mk q3
 clear b1 q2 q3
 go_wp2_with fail
 refine (to06_calls k ⟨x0, x1, x2, x3⟩ A2 c2 A3 c3 _ ⟨v0, v1, v2, v3⟩ _ (Nat.le_refl _) (Kd.V_mono (Kd.V_bound V2.out) (fun _ hk => hk.2)) (Kd.V_mono (Kd.V_bound V3.out) (fun _ hk => hk.2)) G0.out).mono ?_
 rintro en W5 ⟨u2, u3, rfl, e2, e3, hb⟩
 obtain ⟨B12, m12, rfl⟩ : ∃ A c, u2 = .slice A v2.length c := by
  obtain ⟨A, c, e⟩ := Kd.V_slice e2
  exact ⟨_, _, e⟩
 obtain ⟨B13, m13, rfl⟩ : ∃ A c, u3 = .slice A v3.length c := by
  obtain ⟨A, c, e⟩ := Kd.V_slice (Kd.N_V (base' := 0) e3)
  exact ⟨_, _, e⟩
 have C := Ctx.cons (uV Kd.string 9 0 (.slice B12 v2.length m12) v2) (Kd.V_mono (show Kd.V Kd.string 9 W5 0 _ _ _ from e2) (fun _ _ => Nat.zero_le _)) (Ctx.cons (uV k27 27 0 (.slice B13 v3.length m13) v3) (Kd.V_mono (Kd.N_V (base' := 0) e3) (fun _ _ => Nat.zero_le _)) (K.out.below hb))
 clear K V2 V3 e2 e3 hb x0_ x1_ x2_ x3_
 have K := Aside0.mk C
 clear C
 go_wp2_with fail
 refine (rgJ_calls k v0 v1 B12 m12 v2 B13 m13 v3 _ _ K.out.1 K.out.2.1 G3.out K.out.2.2.2.2.2.2.2.2.2.2.1).mono ?_
 rintro en W6 ⟨rfl, hb⟩
 have C := Ctx.new (cs := [.int .i64 r2, .int .i64 r3]) (t := 57) (Ctx.new (cs := [.int .i64 r0, .int .i64 r1]) (t := 57) (K.out.below hb))
 clear K hb G3
 go_upto_region 9 with fail
 refine absW _ C ?_
 clear C
 intro w7 C
 have K := Aside0.mk C
 obtain ⟨_, _, _, _, _, _, _, _, b1, q2, q3, _⟩ := C
 obtain ⟨x0_, x1_, x2_, x3_⟩ : w7.cell? ⟨W1.heap.size, 0, none⟩ = some (.int .i64 x0) ∧ w7.cell? ⟨W1.heap.size, 1, none⟩ = some (.string x1) ∧ w7.cell? ⟨W1.heap.size, 2, none⟩ = some (.slice A2 x2.length c2) ∧ w7.cell? ⟨W1.heap.size, 3, none⟩ = some (.slice A3 x3.length c3) := ⟨Ctx.blk b1 0 rfl, Ctx.blk b1 1 rfl, Ctx.blk b1 2 rfl, Ctx.blk b1 3 rfl⟩
 have V2 := Aside0.mk q2
 have V3 := Aside0.mk q3
 clear b1 q2 q3
 go_wp2_with fail
 refine (rg6_calls k x0 x1 A2 c2 x2 A3 c3 x3 _ _ V2.out V3.out G4.out).mono ?_
 rintro en W8 ⟨rfl, hb⟩
 have C := Ctx.new (cs := [.int .i64 r2, .int .i64 r3]) (t := 57) (Ctx.new (cs := [.int .i64 r0, .int .i64 r1]) (t := 57) (K.out.below hb))
 clear K hb G4 V2 V3 x0_ x1_ x2_ x3_
 go_upto_region 10 with fail
 refine absW _ C ?_
 clear C
 intro w9 C
 have K := Aside0.mk C
 clear C
 go_wp2_with fail
 refine (l6_called.calls true _ rfl K.out.2.2.2.2.2.2.2.2.2.2.2.2.2.2.1).mono ?_
 rintro en W9 ⟨rfl, hb⟩
 have C := K.out.below hb
 clear K hb
 obtain ⟨b14, b13, b11, b10, _, _, b8, b6, _, _, _, _, _, hB, _⟩ := C
 simp only [World.size_alloc] at b14 b11
 obtain ⟨b14x, b14y⟩ : W9.cell? ⟨W8.heap.size + 1, 0, none⟩ = some (.int .i64 r2) ∧ W9.cell? ⟨W8.heap.size + 1, 1, none⟩ = some (.int .i64 r3) := ⟨Ctx.blk b14 0 rfl, Ctx.blk b14 1 rfl⟩
 obtain ⟨b13x, b13y⟩ : W9.cell? ⟨W8.heap.size, 0, none⟩ = some (.int .i64 r0) ∧ W9.cell? ⟨W8.heap.size, 1, none⟩ = some (.int .i64 r1) := ⟨Ctx.blk b13 0 rfl, Ctx.blk b13 1 rfl⟩
 obtain ⟨b11x, b11y⟩ : W9.cell? ⟨W6.heap.size + 1, 0, none⟩ = some (.int .i64 r2) ∧ W9.cell? ⟨W6.heap.size + 1, 1, none⟩ = some (.int .i64 r3) := ⟨Ctx.blk b11 0 rfl, Ctx.blk b11 1 rfl⟩
 obtain ⟨b10x, b10y⟩ : W9.cell? ⟨W6.heap.size, 0, none⟩ = some (.int .i64 r0) ∧ W9.cell? ⟨W6.heap.size, 1, none⟩ = some (.int .i64 r1) := ⟨Ctx.blk b10 0 rfl, Ctx.blk b10 1 rfl⟩
 obtain ⟨b8x, b8y⟩ : W9.cell? ⟨W4.heap.size, 0, none⟩ = some (.int .i64 p0) ∧ W9.cell? ⟨W4.heap.size, 1, none⟩ = some (.int .i64 p1) := ⟨Ctx.blk b8 0 rfl, Ctx.blk b8 1 rfl⟩
 obtain ⟨b6x, b6y⟩ : W9.cell? ⟨W3.heap.size, 0, none⟩ = some (.int .i64 p0) ∧ W9.cell? ⟨W3.heap.size, 1, none⟩ = some (.int .i64 p1) := ⟨Ctx.blk b6 0 rfl, Ctx.blk b6 1 rfl⟩
 clear b14 b13 b11 b10 b8 b6
 go_wp2_with fail
 go_ret
 exact ⟨rfl, hB⟩
end Go.Proofs.YteighppcdpaekaaDoor.P
end
section
namespace Go.Proofs.YteighppcdpaekaaDoor.P
open Go.RowKit Go.Proofs.YteighppcdpaekaaDoorW.PrintWords Go.Proofs.YteighppcdpaekaaDoorW.PrintLast Go.Proofs.YteighppcdpaekaaDoorW.PrintMore
attribute [local go_sem] max2_int min2_int max_two min_two max_three min_three max_four min_four
set_option linter.unusedVariables false
set_option linter.unusedSimpArgs false
end Go.Proofs.YteighppcdpaekaaDoor.P
end
section
namespace Go.Proofs.YteighppcdpaekaaDoor.P
open Go.RowKit Go.Proofs.YteighppcdpaekaaDoorW.PrintWords Go.Proofs.YteighppcdpaekaaDoorW.PrintLast Go.Proofs.YteighppcdpaekaaDoorW.PrintMore
attribute [local go_sem] max2_int min2_int max_two min_two max_three min_three max_four min_four
set_option linter.unusedVariables false
set_option linter.unusedSimpArgs false
end Go.Proofs.YteighppcdpaekaaDoor.P
end
section
namespace Go.Proofs.YteighppcdpaekaaDoor.P
open Go.RowKit Go.Proofs.YteighppcdpaekaaDoorW.PrintWords Go.Proofs.YteighppcdpaekaaDoorW.PrintLast Go.Proofs.YteighppcdpaekaaDoorW.PrintMore
attribute [local go_sem] max2_int min2_int max_two min_two max_three min_three max_four min_four
set_option linter.unusedVariables false
set_option linter.unusedSimpArgs false
end Go.Proofs.YteighppcdpaekaaDoor.P
end
section
namespace Go.Proofs.YteighppcdpaekaaDoor.P
open Go.RowKit Go.Proofs.YteighppcdpaekaaDoorW.PrintWords Go.Proofs.YteighppcdpaekaaDoorW.PrintLast Go.Proofs.YteighppcdpaekaaDoorW.PrintMore
attribute [local go_sem] max2_int min2_int max_two min_two max_three min_three max_four min_four
set_option linter.unusedVariables false
set_option linter.unusedSimpArgs false
end Go.Proofs.YteighppcdpaekaaDoor.P
end
section
namespace Go.Proofs.YteighppcdpaekaaDoor.Eq4
open Go.RowKit Go.Proofs.YteighppcdpaekaaDoorW.PrintWords Go.Proofs.YteighppcdpaekaaDoor.P
section
variable {α β : Type} {r : α}
end
theorem w64 {i : Nat} (h : i < 1000000000000) : wrap64 ((i : Int) + 1) = ((i + 1 : Nat) : Int) := by unfold wrap64; omega
mutual
def szS : S27 → Nat
 | ⟨_, _, _, l⟩ => szL l + 1
def szL : List S27 → Nat
 | [] => 0
 | x :: r => szS x + szL r
end
mutual
def ofS : S27 → S44
 | ⟨a, b, c, l⟩ => ⟨a, b, c, ofL l⟩
def ofL : List S27 → List S44
 | [] => []
 | x :: r => ofS x :: ofL r
end
theorem szS_eq (v : S27) : szS v = szL v.f3 + 1 := by cases v; simp [szS]
theorem ofS_eq (v : S27) : ofS v = ⟨v.f0, v.f1, v.f2, ofL v.f3⟩ := by cases v; simp [ofS]
theorem ofL_map (l : List S27) : ofL l = l.map ofS := by
 induction l with
 | nil => simp [ofL]
 | cons x r ih => simp [ofL, ih]
theorem szL_mem {x : S27} {l : List S27} (h : x ∈ l) : szS x ≤ szL l := by
 induction l with
 | nil => cases h
 | cons y r ih =>
  simp only [szL]
  rcases List.mem_cons.1 h with rfl | h
  ·omega
  ·have := ih h; omega
inductive Light : S27 → Prop where
 | mk {v : S27} (h3 : v.f3.length ≤ 3000) (h2 : v.f2.length ≤ 3000) (h1 : v.f1.size ≤ 3000) (hk : ∀ (i : Nat) (h : i < v.f2.length), (v.f2[i]).size ≤ 3000) (hl : ∀ x ∈ v.f3, Light x) : Light v
theorem Light.out {v : S27} (h : Light v) : v.f3.length ≤ 3000 ∧ v.f2.length ≤ 3000 ∧ v.f1.size ≤ 3000 ∧ (∀ (i : Nat) (h : i < v.f2.length), (v.f2[i]).size ≤ 3000) ∧ ∀ x ∈ v.f3, Light x := by
 cases h with
 | mk h3 h2 h1 hk hl => exact ⟨h3, h2, h1, hk, hl⟩
end Go.Proofs.YteighppcdpaekaaDoor.Eq4
end
section
namespace Go.Proofs.YteighppcdpaekaaDoor.Num
open Go.Lib Go.Proofs.YteighppcdpaekaaDoor.P
def magOk (m : Bool) (s : List UInt8) : Bool := decide (1 ≤ s.length) && decide (s.length ≤ 9) && !(s.head? == some 48 && (decide (s.length > 1) || m))
def refC (m : Bool) (s : List UInt8) : Int × Bool :=
 match magOk m s with
 | true => match decFrom 0 s with
  | some n => (match m with | true => -(n : Int) | false => (n : Int), true)
  | none => (0, false)
 | false => (0, false)
def refI (L : List UInt8) : Int × Bool := refC (L.head? == some 45) (match L.head? == some 45 with | true => L.tail | false => L)
theorem core (m : Bool) (s : List UInt8) : refC m s = (0, false) ∨ ∃ n, magOk m s = true ∧ decFrom 0 s = some n ∧ refC m s = (match m with | true => -(n : Int) | false => (n : Int), true) := by
 unfold refC
 cases hk : magOk m s with
 | false => exact .inl rfl
 | true =>
  cases hd : decFrom 0 s with
  | none => exact .inl rfl
  | some n => exact .inr ⟨n, rfl, rfl, rfl⟩
def sgn (m : Bool) (n : Nat) : Int := match m with | true => -(n : Int) | false => (n : Int)
theorem core_mk {m : Bool} {s : List UInt8} {n : Nat} (h1 : magOk m s = true) (h2 : decFrom 0 s = some n) : refC m s = (sgn m n, true) := by
 rcases core m s with h | ⟨k, _, h3, h⟩
 ·unfold refC at h
  rw [h1] at h
  simp only [h2] at h
  exact absurd (congrArg Prod.snd h) (by simp)
 ·rw [h]
  obtain rfl := Option.some.inj (h2.symm.trans h3)
  rfl
theorem mag_t {s : List UInt8} : magOk true s = true ↔ (1 ≤ s.length ∧ s.length ≤ 9) ∧ s.head? ≠ some 48 := by
 simp [magOk]
theorem mag_f {s : List UInt8} : magOk false s = true ↔ (1 ≤ s.length ∧ s.length ≤ 9) ∧ (s.head? = some 48 → ¬ s.length > 1) := by
 simp [magOk]
 intro _ _
 by_cases h : s.head? = some 48 <;> simp [h]
theorem decFrom_snoc (c : UInt8) : ∀ (l : List UInt8) (acc : Nat), decFrom acc (l ++ [c]) = (decFrom acc l).bind fun m => (digitVal c).map (fun d => m * 10 + d)
 | [], acc => by
  simp only [List.nil_append, decFrom, Option.bind_some]
  cases digitVal c <;> simp
 | b :: r, acc => by
  simp only [List.cons_append, decFrom]
  cases digitVal b with
  | none => rfl
  | some d => exact decFrom_snoc c r _
theorem u8_val (d : Nat) (h : d < 10) : (UInt8.ofNat (48 + d)).toNat = 48 + d := by
 rw [UInt8.toNat_ofNat']
 omega
theorem digit_of (d : Nat) (h : d < 10) : digitVal (UInt8.ofNat (48 + d)) = some d := by
 unfold digitVal
 rw [u8_val d h, if_pos (by omega)]
 congr 1; omega
theorem digit_is {c : UInt8} {d : Nat} (h : digitVal c = some d) : c = UInt8.ofNat (48 + d) ∧ d < 10 := by
 unfold digitVal at h
 split at h
 ·obtain rfl := Option.some.inj h
  refine ⟨?_, by omega⟩
  apply UInt8.toNat_inj.1
  rw [u8_val _ (by omega)]
  omega
 ·cases h
theorem dec_back (u : Nat) : decFrom 0 (decDigits u) = some u := by
 induction u using Nat.strongRecOn with
 | _ u ih =>
  by_cases h : u < 10
  ·rw [decDigits_one h]
   show (match digitVal (UInt8.ofNat (48 + u)) with | some d => decFrom (0 * 10 + d) [] | none => none) = some u
   rw [digit_of u h]
   simp [decFrom]
  ·rw [decDigits, dif_neg h, decFrom_snoc, ih (u / 10) (by omega), digit_of _ (by omega)]
   simp; omega
theorem dec_head (u : Nat) : 1 ≤ u → ∃ d, 1 ≤ d ∧ d < 10 ∧ (decDigits u).head? = some (UInt8.ofNat (48 + d)) := by
 induction u using Nat.strongRecOn with
 | _ u ih =>
  intro h1
  by_cases h : u < 10
  ·exact ⟨u, h1, h, by rw [decDigits_one h]; rfl⟩
  ·obtain ⟨d, a, b, c⟩ := ih (u / 10) (by omega) (by omega)
   refine ⟨d, a, b, ?_⟩
   rw [decDigits, dif_neg h, List.head?_append, c]
   rfl
theorem nd_le : ∀ (k u : Nat), u < 10 ^ (k + 1) → nDigits u ≤ k + 1
 | 0, u, h => by rw [nDigits_small (by simpa using h)]; exact Nat.le_refl _
 | k + 1, u, h => by
  by_cases hu : u < 10
  ·rw [nDigits_small hu]; omega
  ·rw [nDigits_big hu]
   have := nd_le k (u / 10) (by rw [Nat.pow_succ] at h; omega)
   omega
theorem dec_len (u : Nat) (h : u ≤ 999999999) : 1 ≤ (decDigits u).length ∧ (decDigits u).length ≤ 9 := by
 rw [decDigits_length]
 exact ⟨nDigits_pos u, nd_le 8 u (by omega)⟩
theorem dec_canon : ∀ (k : Nat) (s : List UInt8) (n : Nat), s.length = k + 1 → s.head? ≠ some 48 → decFrom 0 s = some n → decDigits n = s ∧ 1 ≤ n ∧ n < 10 ^ (k + 1)
 | 0, s, n, hl, hh, h => by
  obtain ⟨c, rfl⟩ : ∃ c, s = [c] := by
   match s, hl with
   | [c], _ => exact ⟨c, rfl⟩
  simp only [decFrom] at h
  cases hd : digitVal c with
  | none => rw [hd] at h; cases h
  | some d =>
   rw [hd] at h
   obtain rfl : d = n := by simpa using h
   obtain ⟨rfl, h2⟩ := digit_is hd
   refine ⟨decDigits_one h2, ?_, by omega⟩
   rcases Nat.eq_zero_or_pos d with rfl | h3
   ·exact absurd rfl hh
   ·exact h3
 | k + 1, s, n, hl, hh, h => by
  obtain ⟨r, c, rfl⟩ : ∃ r c, s = r ++ [c] := by
   have hne : s ≠ [] := by intro e; rw [e] at hl; cases hl
   exact ⟨s.dropLast, s.getLast hne, (List.dropLast_concat_getLast hne).symm⟩
  have hr : r.length = k + 1 := by simpa using hl
  rw [decFrom_snoc] at h
  cases hm : decFrom 0 r with
  | none => rw [hm] at h; cases h
  | some m =>
   rw [hm, Option.bind_some] at h
   cases hd : digitVal c with
   | none => rw [hd] at h; cases h
   | some d =>
    rw [hd] at h
    obtain rfl : m * 10 + d = n := by simpa using h
    obtain ⟨rfl, h2⟩ := digit_is hd
    have hne : r ≠ [] := by intro e; rw [e] at hr; cases hr
    obtain ⟨a, b, c'⟩ := dec_canon k r m hr (by
     intro e
     apply hh
     rw [List.head?_append, e]
     rfl) hm
    refine ⟨?_, by omega, by rw [Nat.pow_succ]; omega⟩
    rw [decDigits, dif_neg (by omega), show (m * 10 + d) / 10 = m by omega, show (m * 10 + d) % 10 = d by omega, a]
theorem itoa_pos (u : Nat) : itoa (u : Int) = decDigits u := by unfold itoa; rw [if_neg (by omega)]; rfl
theorem itoa_minus (u : Nat) (h : 1 ≤ u) : itoa (-(u : Int)) = 45 :: decDigits u := by unfold itoa; rw [if_pos (by omega)]; congr 2; omega
theorem head_ne {d : Nat} {b : UInt8} (h1 : 1 ≤ d) (h2 : d < 10) (hb : b.toNat ≤ 48) : (some (UInt8.ofNat (48 + d)) : Option UInt8) ≠ some b := by
 intro e
 have := congrArg UInt8.toNat (Option.some.inj e)
 rw [u8_val d h2] at this
 omega
theorem back_false {L : List UInt8} {v : Int} (h : refI L = (v, false)) : v = 0 := by
 unfold refI at h
 rcases core (L.head? == some 45) (match L.head? == some 45 with | true => L.tail | false => L) with h2 | ⟨n, _, _, h2⟩
 ·rw [h2] at h; exact (congrArg Prod.fst h).symm
 ·rw [h2] at h; exact absurd (congrArg Prod.snd h) (by simp)
theorem back_true {L : List UInt8} {v : Int} (h : refI L = (v, true)) : L = itoa v ∧ -999999999 ≤ v ∧ v ≤ 999999999 := by
 unfold refI at h
 cases hm : (L.head? == some 45) with
 | true =>
  rw [hm] at h
  obtain ⟨s, rfl⟩ : ∃ s, L = 45 :: s := by
   cases L with
   | nil => simp at hm
   | cons c s => exact ⟨s, by simp at hm; rw [hm]⟩
  have h : refC true s = (v, true) := h
  rcases core true s with h2 | ⟨n, hk, hn, h2⟩
  ·rw [h2] at h; exact absurd (congrArg Prod.snd h) (by simp)
  ·rw [h2] at h
   obtain rfl : -(n : Int) = v := congrArg Prod.fst h
   have hk := mag_t.1 hk
   obtain ⟨k, hk2⟩ : ∃ k, s.length = k + 1 := ⟨s.length - 1, by omega⟩
   obtain ⟨a, b, c⟩ := dec_canon k s n hk2 hk.2 hn
   have : 10 ^ (k + 1) ≤ 10 ^ 9 := Nat.pow_le_pow_right (by omega) (by omega)
   exact ⟨by rw [itoa_minus n b, a], by omega, by omega⟩
 | false =>
  rw [hm] at h
  have h : refC false L = (v, true) := h
  rcases core false L with h2 | ⟨n, hk, hn, h2⟩
  ·rw [h2] at h; exact absurd (congrArg Prod.snd h) (by simp)
  ·rw [h2] at h
   obtain rfl : (n : Int) = v := congrArg Prod.fst h
   have hk := mag_f.1 hk
   obtain ⟨k, hk2⟩ : ∃ k, L.length = k + 1 := ⟨L.length - 1, by omega⟩
   have hp : 10 ^ (k + 1) ≤ 10 ^ 9 := Nat.pow_le_pow_right (by omega) (by omega)
   by_cases hh : L.head? = some 48
   ·obtain ⟨c, rfl⟩ : ∃ c, L = [c] := by
     have h1 := hk.2 hh
     match L, hk2, h1 with
     | [c], _, _ => exact ⟨c, rfl⟩
     | a :: b :: r, _, h1 => simp at h1
    obtain rfl : c = 48 := by simpa using hh
    obtain rfl : 0 = n := by simpa [decFrom, digitVal] using hn
    exact ⟨by rw [itoa_pos 0, decDigits_one (by omega)]; rfl, by omega, by omega⟩
   ·obtain ⟨a, b, c⟩ := dec_canon k L n hk2 hh hn
    exact ⟨by rw [itoa_pos n, a], by omega, by omega⟩
theorem forth (v : Int) (h0 : -999999999 ≤ v) (h1 : v ≤ 999999999) : refI (itoa v) = (v, true) := by
 by_cases hv : v < 0
 ·obtain ⟨u, rfl⟩ : ∃ u : Nat, v = -(u : Int) := ⟨v.natAbs, by omega⟩
  have hu : 1 ≤ u := by omega
  obtain ⟨d, a, b, c⟩ := dec_head u hu
  have hl := dec_len u (by omega)
  rw [itoa_minus u hu]
  show refC true (decDigits u) = _
  exact core_mk (mag_t.2 ⟨hl, by rw [c]; exact head_ne a b (by decide)⟩) (dec_back u)
 ·obtain ⟨u, rfl⟩ : ∃ u : Nat, v = (u : Int) := ⟨v.toNat, by omega⟩
  rw [itoa_pos u]
  rcases Nat.eq_zero_or_pos u with rfl | hu
  ·rw [decDigits_one (by omega)]; rfl
  ·obtain ⟨d, a, b, c⟩ := dec_head u hu
   have hl := dec_len u (by omega)
   have hm : ((decDigits u).head? == some 45) = false := beq_eq_false_iff_ne.2 (by rw [c]; exact head_ne a b (by decide))
   unfold refI
   rw [hm]
   show refC false (decDigits u) = _
   exact core_mk (mag_f.2 ⟨hl, fun e => absurd e (by rw [c]; exact head_ne a b (by decide))⟩) (dec_back u)
theorem atoi_itoa (v : Int) (h0 : -999999999 ≤ v) (h1 : v ≤ 999999999) : atoiAll (itoa v) = .ok v := by
 by_cases hv : v < 0
 ·obtain ⟨u, rfl⟩ : ∃ u : Nat, v = -(u : Int) := ⟨v.natAbs, by omega⟩
  have hu : 1 ≤ u := by omega
  have hl := dec_len u (by omega)
  rw [itoa_minus u hu, atoiAll_short _ (by simp; omega)]
  have hn : decNat (decDigits u) = some u := by
   unfold decNat
   rw [if_neg (by intro e; rw [List.isEmpty_iff] at e; rw [e] at hl; simp at hl), dec_back]
  simp [atoi, hn, NumEnd.ofOption]
 ·obtain ⟨u, rfl⟩ : ∃ u : Nat, v = (u : Int) := ⟨v.toNat, by omega⟩
  have hl := dec_len u (by omega)
  rw [itoa_pos u, atoiAll_short _ (by omega)]
  have hn : decNat (decDigits u) = some u := by
   unfold decNat
   rw [if_neg (by intro e; rw [List.isEmpty_iff] at e; rw [e] at hl; simp at hl), dec_back]
  rcases Nat.eq_zero_or_pos u with rfl | hu
  ·rw [decDigits_one (by omega)]; rfl
  ·obtain ⟨d, a, b, c⟩ := dec_head u hu
   cases hD : decDigits u with
   | nil => rw [hD] at c; cases c
   | cons x r =>
    rw [hD] at c hn
    obtain rfl : x = UInt8.ofNat (48 + d) := by simpa using c
    have e1 : ((UInt8.ofNat (48 + d)) == 45) = false := beq_eq_false_iff_ne.2 (fun e => head_ne a b (b := 45) (by decide) (congrArg some e))
    have e2 : ((UInt8.ofNat (48 + d)) == 43) = false := beq_eq_false_iff_ne.2 (fun e => head_ne a b (b := 43) (by decide) (congrArg some e))
    show NumEnd.ofOption (if ((UInt8.ofNat (48 + d)) == 45) = true then _ else if ((UInt8.ofNat (48 + d)) == 43) = true then _ else (decNat (UInt8.ofNat (48 + d) :: r)).map _) = _
    rw [e1, e2, if_neg (by decide), if_neg (by decide), hn]
    rfl
theorem intT_itoa (v : Int) (h0 : -999999999 ≤ v) (h1 : v ≤ 999999999) : intT (itoa v) = (v, true) := by
 unfold intT
 rw [atoi_itoa v h0 h1]
 simp only
 rw [if_pos ⟨trivial, h0, h1⟩]
theorem intT_eq (L : List UInt8) : intT L = refI L := by
 cases hr : refI L with
 | mk v b =>
  cases b with
  | true =>
   obtain ⟨rfl, h0, h1⟩ := back_true hr
   exact intT_itoa v h0 h1
  | false =>
   obtain rfl := back_false hr
   unfold intT
   rcases ha : atoiAll L with w | _ | _
   ·simp only
    split
    ·rename_i hc
     obtain ⟨rfl, h0, h1⟩ := hc
     rw [forth w h0 h1] at hr
     cases hr
    ·rfl
   ·rfl
   ·rfl
end Go.Proofs.YteighppcdpaekaaDoor.Num
end
section
namespace Go.Proofs.YteighppcdpaekaaDoor.Num
open Go.Lib Go.RowKit Go.Proofs.YteighppcdpaekaaDoorW.PrintWords Go.Proofs.YteighppcdpaekaaDoor.P
section
variable {α : Type} {r : α}
theorem evT {c : Prop} [Decidable c] {A B : Nat → Option α} (hc : c) (h : Ev A r) : Ev (fun k => if c then A k else B k) r := by simpa only [if_pos hc] using h
theorem evF {c : Prop} [Decidable c] {A B : Nat → Option α} (hc : ¬ c) (h : Ev B r) : Ev (fun k => if c then A k else B k) r := by simpa only [if_neg hc] using h
end
theorem size_len (s : ByteArray) : s.size = s.data.toList.length := by rw [Array.length_toList]; rfl
theorem bt_at (s : ByteArray) (i : Nat) (h : i < s.data.toList.length) : bt s (i : Int) = ((s.data.toList[i]).toNat : Int) := by
 unfold bt
 have h2 : ((i : Int)).toNat < s.size := by rw [size_len]; exact h
 rw [dif_pos h2]
 rfl
def endI (m : Bool) (o : Option Nat) : Int × Bool := match o with
 | some n => (sgn m n, true)
 | none => (0, false)
theorem loop (s : ByteArray) (m : Bool) (hl : s.data.toList.length ≤ 9) : ∀ (j i acc : Nat), i + j = s.data.toList.length → acc < 10 ^ i →
  Ev (fun k => r4_Int.l0 k s m (acc : Int) (i : Int)) (endI m (decFrom acc (s.data.toList.drop i)))
 | 0, i, acc, h, ha => by
  have hp : 10 ^ i ≤ 10 ^ 9 := Nat.pow_le_pow_right (by omega) (by omega)
  rw [List.drop_eq_nil_of_le (by omega)]
  refine Ev.step (fun k => rfl) ?_
  refine evF (by rw [size_len]; omega) ?_
  cases m with
  | true =>
   refine evT rfl ?_
   have : wrap64 (-(acc : Int)) = sgn true acc := by show wrap64 (-(acc : Int)) = -(acc : Int); unfold wrap64; omega
   rw [this]
   exact Ev.now _
  | false => exact evF (c := false = true) (by decide) (Ev.now _)
 | j + 1, i, acc, h, ha => by
  have hi : i < s.data.toList.length := by omega
  have hp : 10 ^ i ≤ 10 ^ 8 := Nat.pow_le_pow_right (by omega) (by omega)
  rw [List.drop_eq_getElem_cons hi]
  refine Ev.step (fun k => rfl) ?_
  refine evT (by rw [size_len]; omega) ?_
  refine evT (by omega) ?_
  rw [bt_at s i hi]
  simp only [decFrom]
  generalize hc : s.data.toList[i] = c
  have hcl : c.toNat < 256 := c.toNat_lt
  by_cases h1 : (c.toNat : Int) < 48
  ·have : digitVal c = none := by unfold digitVal; rw [if_neg (by omega)]
   rw [this]
   exact evT h1 (Ev.now _)
  ·refine evF h1 ?_
   by_cases h2 : (c.toNat : Int) > 57
   ·have : digitVal c = none := by unfold digitVal; rw [if_neg (by omega)]
    rw [this]
    exact evT h2 (Ev.now _)
   ·refine evF h2 ?_
    have hd : digitVal c = some (c.toNat - 48) := by unfold digitVal; rw [if_pos (by omega)]
    rw [hd]
    have e1 : wrap64 (wrap64 ((acc : Int) * 10) + ((c.toNat : Int) - 48) % 256) = ((acc * 10 + (c.toNat - 48) : Nat) : Int) := by unfold wrap64; omega
    have e2 : wrap64 ((i : Int) + 1) = ((i + 1 : Nat) : Int) := by unfold wrap64; omega
    rw [e1, e2]
    exact loop s m hl j (i + 1) _ (by omega) (by rw [Nat.pow_succ]; omega)
theorem j1_ev (s : ByteArray) (m : Bool) : Ev (fun k => r4_Int.j1 k s m) (refC m s.data.toList) := by
  have hz := size_len s
  have bad : magOk m s.data.toList = false → Ev (fun k => r4_Int.j2 k s m true) (refC m s.data.toList) := fun hb => by
    rcases core m s.data.toList with h | ⟨n, h, _⟩
    · rw [h]
      refine Ev.step (fun k => rfl) ?_
      exact Ev.now _
    · rw [hb] at h; cases h
  have good : magOk m s.data.toList = true → Ev (fun k => r4_Int.j2 k s m false) (refC m s.data.toList) := fun hb => by
    have hl : s.data.toList.length ≤ 9 := by
      cases m with
      | true => exact (mag_t.1 hb).1.2
      | false => exact (mag_f.1 hb).1.2
    have h0 := loop s m hl s.data.toList.length 0 0 (by omega) (by decide)
    have he : endI m (decFrom 0 (s.data.toList.drop 0)) = refC m s.data.toList := by
      rw [List.drop_zero]
      cases hd : decFrom 0 s.data.toList with
      | none =>
        rcases core m s.data.toList with h | ⟨n, _, h, _⟩
        · rw [h]; rfl
        · rw [hd] at h; cases h
      | some n => rw [core_mk hb hd]; rfl
    rw [he] at h0
    refine Ev.step (fun k => rfl) ?_
    exact h0
  refine Ev.step (fun k => rfl) ?_
  by_cases h1 : (s.size : Int) < 1
  · refine evT h1 (bad ?_)
    cases hk : magOk m s.data.toList with
    | false => rfl
    | true => cases m with
      | true => have := (mag_t.1 hk).1.1; omega
      | false => have := (mag_f.1 hk).1.1; omega
  · refine evF h1 ?_
    by_cases h2 : (s.size : Int) > 9
    · refine evT h2 (bad ?_)
      cases hk : magOk m s.data.toList with
      | false => rfl
      | true => cases m with
        | true => have := (mag_t.1 hk).1.2; omega
        | false => have := (mag_f.1 hk).1.2; omega
    · refine evF h2 ?_
      refine evT (by omega) ?_
      obtain ⟨c, r, hL⟩ : ∃ c r, s.data.toList = c :: r := by
        cases hL : s.data.toList with
        | nil => have h9 : s.size = 0 := by (rw [hz, hL]; rfl)
                 omega
        | cons c r => exact ⟨c, r, rfl⟩
      have hb0 : bt s 0 = (c.toNat : Int) := by
        have := bt_at s 0 (by rw [hL]; simp)
        rw [show ((0 : Nat) : Int) = (0 : Int) from rfl] at this
        rw [this]
        simp [hL]
      have hh : s.data.toList.head? = some c := by rw [hL]; rfl
      have hlen : 1 ≤ s.data.toList.length ∧ s.data.toList.length ≤ 9 := by omega
      have hc48 : c = 48 ↔ (c.toNat : Int) = 48 := ⟨fun e => by rw [e]; rfl, fun e => UInt8.toNat_inj.1 (by show c.toNat = 48; omega)⟩
      by_cases h3 : bt s 0 = 48
      · refine evT h3 ?_
        have hc : c = 48 := hc48.2 (by omega)
        by_cases h4 : (s.size : Int) > 1
        · refine evT h4 (bad ?_)
          cases hk : magOk m s.data.toList with
          | false => rfl
          | true => cases m with
            | true => exact absurd (by rw [hh, hc]) (mag_t.1 hk).2
            | false => exact absurd (by omega) ((mag_f.1 hk).2 (by rw [hh, hc]))
        · refine evF h4 ?_
          cases m with
          | true =>
            refine bad ?_
            cases hk : magOk true s.data.toList with
            | false => rfl
            | true => exact absurd (by rw [hh, hc]) (mag_t.1 hk).2
          | false => exact good (mag_f.2 ⟨hlen, fun _ => by omega⟩)
      · refine evF h3 (good ?_)
        have hne : s.data.toList.head? ≠ some 48 := by
          rw [hh]
          intro e
          exact h3 (by rw [hb0]; exact hc48.1 (Option.some.inj e))
        cases m with
        | true => exact mag_t.2 ⟨hlen, hne⟩
        | false => exact mag_f.2 ⟨hlen, fun e => absurd e hne⟩
theorem tail_of (s : ByteArray) : (s.extract 1 s.size).data.toList = s.data.toList.tail := by
 rw [ByteArray.data_extract, Array.toList_extract, size_len]
 simp only [List.extract_eq_take_drop, List.drop_one]
 exact List.take_of_length_le (by rw [List.length_tail]; exact Nat.le_refl _)
theorem int_ev (z : Int) (s : ByteArray) (l2 : List ByteArray) (l3 : List S44) : Ev (fun k => r4_Int.f k z s l2 l3) (if z = 3 then intT s.data.toList else (0, false)) := by
  have hz := size_len s
  by_cases h : z = 3
  · rw [if_pos h, intT_eq]
    unfold refI
    show Ev (fun k => if z = 3 then _ else _) _
    refine evT h ?_
    by_cases h1 : (s.size : Int) > 0
    · refine evT h1 ?_
      refine evT h1 ?_
      obtain ⟨c, r, hL⟩ : ∃ c r, s.data.toList = c :: r := by
        cases hL : s.data.toList with
        | nil => have h9 : s.size = 0 := by (rw [hz, hL]; rfl)
                 omega
        | cons c r => exact ⟨c, r, rfl⟩
      have hb0 : bt s 0 = (c.toNat : Int) := by
        have := bt_at s 0 (by rw [hL]; simp)
        rw [show ((0 : Nat) : Int) = (0 : Int) from rfl] at this
        rw [this]
        simp [hL]
      have hh : (s.data.toList.head? == some 45) = (bt s 0 == 45) := by
        rw [hL, hb0, List.head?_cons, Bool.eq_iff_iff, beq_iff_eq, beq_iff_eq]
        exact ⟨fun e => by rw [Option.some.inj e]; rfl, fun e => congrArg some (UInt8.toNat_inj.1 (by show c.toNat = 45; omega))⟩
      rw [hh]
      cases hm : (bt s 0 == 45) with
      | true =>
        refine Ev.step (fun k => rfl) ?_
        have := j1_ev (s.extract 1 s.size) true
        rw [tail_of] at this
        exact evT (c := 1 ≤ (s.size : Int)) (B := fun _ => none) (by omega) this
      | false =>
        show Ev (fun k => r4_Int.j0 k s false) (refC false s.data.toList)
        refine Ev.step (fun k => rfl) ?_
        exact j1_ev s false
    · refine evF h1 ?_
      have hL : s.data.toList = [] := List.eq_nil_of_length_eq_zero (by omega)
      have := j1_ev s false
      rw [hL] at this ⊢
      show Ev (fun k => r4_Int.j0 k s false) (refC false [])
      refine Ev.step (fun k => rfl) ?_
      exact this
  · rw [if_neg h]
    exact evF h (Ev.now _)
end Go.Proofs.YteighppcdpaekaaDoor.Num
end
section
namespace Go.Proofs.YteighppcdpaekaaDoor.Eq4
open Go.RowKit Go.Proofs.YteighppcdpaekaaDoorW.PrintWords Go.Proofs.YteighppcdpaekaaDoor.P
def getP (v : S27) (key : ByteArray) : Option S27 := json_Get.o v.f0 v.f2 v.f3 key
def zS : S27 := ⟨0, ⟨#[]⟩, [], []⟩
def resJ (o : Option S27) : Int × ByteArray × List ByteArray × List S27 × Bool := match o with
 | some x => (x.f0, x.f1, x.f2, x.f3, true)
 | none => (0, ⟨#[]⟩, [], [], false)
def resR (o : Option S27) : Int × ByteArray × List ByteArray × List S44 × Bool := match o with
 | some x => (x.f0, x.f1, x.f2, ofL x.f3, true)
 | none => (0, ⟨#[]⟩, [], [], false)
theorem findK_mem {key : ByteArray} : ∀ {ks : List ByteArray} {xs : List S27} {x : S27}, getT key ks xs = some x → x ∈ xs
 | k :: ks, y :: xs, x, h => by
  unfold getT at h
  split at h
  ·exact List.mem_cons.2 (.inl (Option.some.inj h).symm)
  ·exact List.mem_cons_of_mem _ (findK_mem h)
 | [], _, _, h => by simp [getT] at h
 | _ :: _, [], _, h => by simp [getT] at h
theorem getT_ofL {key : ByteArray} : ∀ (ks : List ByteArray) (xs : List S27), getT key ks (ofL xs) = (getT key ks xs).map ofS
 | k :: ks, y :: xs => by
  rw [ofL_map, List.map_cons]
  unfold getT
  split
  ·rfl
  ·rw [← ofL_map]; exact getT_ofL ks xs
 | [], xs => by simp [getT]
 | _ :: _, [] => by simp [getT, ofL_map]
theorem get_j (v : S27) (key : ByteArray) (_ : v.f2.length ≤ 3000) : Ev (fun k => json_Get.f k v.f0 v.f1 v.f2 v.f3 key) (resJ (getP v key)) := by
 refine ⟨0, fun k _ => ?_⟩
 show json_Get.f k v.f0 v.f1 v.f2 v.f3 key = _
 unfold json_Get.f getP
 cases json_Get.o v.f0 v.f2 v.f3 key <;> rfl
theorem get_r (v : S27) (key : ByteArray) (_ : v.f2.length ≤ 3000) : Ev (fun k => r4_Get.f k v.f0 v.f1 v.f2 (ofL v.f3) key) (resR (getP v key)) := by
 refine ⟨0, fun k _ => ?_⟩
 show r4_Get.f k v.f0 v.f1 v.f2 (ofL v.f3) key = _
 have e : r4_Get.o v.f0 v.f2 (ofL v.f3) key = (getP v key).map ofS := by
  unfold r4_Get.o getP json_Get.o
  rw [getT_ofL, show (ofL v.f3).length = v.f3.length by rw [ofL_map, List.length_map]]
  split <;> rfl
 unfold r4_Get.f
 rw [e]
 cases getP v key with
 | none => rfl
 | some x =>
  show some ((ofS x).f0, (ofS x).f1, (ofS x).f2, (ofS x).f3, true) = _
  rw [ofS_eq]
  rfl
end Go.Proofs.YteighppcdpaekaaDoor.Eq4
end
section
namespace Go.Proofs.YteighppcdpaekaaDoor.Eq4
open Go.RowKit Go.Proofs.YteighppcdpaekaaDoorW.PrintWords Go.Proofs.YteighppcdpaekaaDoor.P
variable {v : S27}
theorem light_z : Light zS := ⟨by simp [zS], by simp [zS], by simp [zS]; decide, fun i h => by simp [zS] at h, fun x h => by simp [zS] at h⟩
theorem getP_light {key : ByteArray} (hL : Light v) {x : S27} (h : getP v key = some x) : Light x := by
 unfold getP json_Get.o at h
 split at h
 ·exact hL.out.2.2.2.2 x (findK_mem h)
 ·cases h
def orZ (o : Option S27) : S27 := o.getD zS
theorem resJ_eq (o : Option S27) : resJ o = ((orZ o).f0, (orZ o).f1, (orZ o).f2, (orZ o).f3, o.isSome) := by cases o <;> rfl
theorem resR_eq (o : Option S27) : resR o = ((orZ o).f0, (orZ o).f1, (orZ o).f2, ofL (orZ o).f3, o.isSome) := by cases o <;> rfl
def intP (x : S27) : Int × Bool := if x.f0 = 3 then intT x.f1.data.toList else (0, false)
def posP (v : S27) : Int × Int × Bool :=
 if ((getP v sLine).isSome && (getP v sChar).isSome && (intP (orZ (getP v sLine))).2 && (intP (orZ (getP v sChar))).2) = true then ((intP (orZ (getP v sLine))).1, (intP (orZ (getP v sChar))).1, true) else (0, 0, false)
theorem orZ_light {key : ByteArray} (hL : Light v) : Light (orZ (getP v key)) := by
 cases h : getP v key with
 | none => exact light_z
 | some x => exact getP_light hL h
theorem intJ {x : S27} (hL : Light x) : json_Int.f x.f0 x.f1 x.f2 x.f3 = some (intP x) := by
 unfold json_Int.f
 rw [if_pos (by have := hL.out.2.2.1; omega)]
 rfl
theorem intR (x : S27) : Ev (fun k => r4_Int.f k x.f0 x.f1 x.f2 (ofL x.f3)) (intP x) := Num.int_ev _ _ _ _
theorem posJ_ev (hL : Light v) : Ev (fun k => posJF k v.f0 v.f1 v.f2 v.f3) (posP v) := by
 have h1 := get_j v sLine hL.out.2.1
 have h2 := get_j v sChar hL.out.2.1
 rw [resJ_eq] at h1 h2
 unfold posJF posP
 refine Ev.bind h1 (Ev.bind h2 ?_)
 have i1 := intJ (orZ_light (key := sLine) hL)
 have i2 := intJ (orZ_light (key := sChar) hL)
 generalize getP v sLine = a at i1 i2 ⊢
 generalize getP v sChar = b at i1 i2 ⊢
 show Ev (fun k => if (a.isSome && b.isSome) = true then (json_Int.f (orZ a).f0 (orZ a).f1 (orZ a).f2 (orZ a).f3).bind fun n => (json_Int.f (orZ b).f0 (orZ b).f1 (orZ b).f2 (orZ b).f3).bind fun m => some (if (n.2 && m.2) = true then (n.1, m.1, true) else (0, 0, false)) else some (0, 0, false)) _
 rw [i1, i2]
 refine Ev.congr (f := fun _ => _) (fun k => ?_) (Ev.now _)
 cases a.isSome <;> cases b.isSome <;> simp
theorem pos6_ev (hL : Light v) : Ev (fun k => pos6F k v.f0 v.f1 v.f2 (ofL v.f3)) (posP v) := by
 have h1 := get_r v sLine hL.out.2.1
 have h2 := get_r v sChar hL.out.2.1
 rw [resR_eq] at h1 h2
 unfold pos6F posP
 exact Ev.bind h1 (Ev.bind h2 (Ev.bind (intR _) (Ev.bind (intR _) (Ev.now _))))
def rgP (v : S27) : RgOut :=
 if ((getP v sStart).isSome && (getP v sEnd).isSome && (posP (orZ (getP v sStart))).2.2 && (posP (orZ (getP v sEnd))).2.2) = true then ((posP (orZ (getP v sStart))).1, (posP (orZ (getP v sStart))).2.1, (posP (orZ (getP v sEnd))).1, (posP (orZ (getP v sEnd))).2.1, true) else (0, 0, 0, 0, false)
theorem rg6_ev (hL : Light v) : Ev (fun k => rg6F k v.f0 v.f1 v.f2 (ofL v.f3)) (rgP v) := by
 have h1 := get_r v sStart hL.out.2.1
 have h2 := get_r v sEnd hL.out.2.1
 rw [resR_eq] at h1 h2
 unfold rg6F rgP
 exact Ev.bind h1 (Ev.bind h2 (Ev.bind (pos6_ev (orZ_light hL)) (Ev.bind (pos6_ev (orZ_light hL)) (Ev.now _))))
theorem rgJ_ev (hL : Light v) : Ev (fun k => rgJF k v.f0 v.f1 v.f2 v.f3) (rgP v) := by
 have h1 := get_j v sStart hL.out.2.1
 have h2 := get_j v sEnd hL.out.2.1
 rw [resJ_eq] at h1 h2
 unfold rgJF rgP
 refine Ev.bind h1 (Ev.bind h2 ?_)
 have i1 := posJ_ev (orZ_light (key := sStart) hL)
 have i2 := posJ_ev (orZ_light (key := sEnd) hL)
 generalize getP v sStart = a at i1 i2 ⊢
 generalize getP v sEnd = b at i1 i2 ⊢
 by_cases h : (a.isSome && b.isSome) = true
 ·refine Num.evT h (Ev.bind i1 (Ev.bind i2 ?_))
  rw [h, Bool.true_and]
  exact Ev.now _
 ·refine Num.evF h ?_
  rw [if_neg (by simp [h])]
  exact Ev.now _
end Go.Proofs.YteighppcdpaekaaDoor.Eq4
end
section
namespace Go.Proofs.YteighppcdpaekaaDoor.Eq4
open Go.RowKit Go.Proofs.YteighppcdpaekaaDoorW.PrintWords Go.Proofs.YteighppcdpaekaaDoor.P
theorem toL_ev {n : Nat} (ih : ∀ v, szS v ≤ n → Light v → Ev (fun k => toF k (ofS v)) v) : ∀ (l acc : List S27), (∀ x ∈ l, szS x ≤ n) → (∀ x ∈ l, Light x) → acc.length + l.length ≤ 3000 → Ev (fun k => toLF (toF k) (ofL l) acc) (acc ++ l)
 | [], acc, _, _, _ => by
  rw [ofL_map, List.append_nil]
  exact Ev.now _
 | x :: r, acc, hn, hL, hc => by
  have := toL_ev ih r (acc ++ [x]) (fun y hy => hn y (List.mem_cons_of_mem _ hy)) (fun y hy => hL y (List.mem_cons_of_mem _ hy)) (by simp at hc ⊢; omega)
  rw [ofL_map] at this ⊢
  rw [List.map_cons]
  simp only [toLF]
  refine Num.evT (by simp at hc; omega) ?_
  refine Ev.bind (ih x (hn x (List.mem_cons_self ..)) (hL x (List.mem_cons_self ..))) ?_
  rw [List.append_assoc] at this
  exact this
theorem to_val : ∀ n v, szS v ≤ n → Light v → Ev (fun k => toF k (ofS v)) v := by
 intro n
 induction n with
 | zero => intro v h; rw [szS_eq] at h; omega
 | succ n ih =>
  intro v h hL
  rw [szS_eq] at h
  refine Ev.step (fun k => rfl) ?_
  obtain ⟨h3, _, _, _, hl⟩ := hL.out
  have := toL_ev ih v.f3 [] (fun x hx => Nat.le_trans (szL_mem hx) (by omega)) hl (by simpa using h3)
  obtain ⟨K, hK⟩ := this
  refine ⟨K, fun k hk => ?_⟩
  have e : toLF (toF k) (ofL v.f3) [] = some v.f3 := hK k hk
  simp only [toF, ofS_eq, e, Option.map_some]
  cases v; rfl
end Go.Proofs.YteighppcdpaekaaDoor.Eq4
end
section
namespace Go.Proofs.YteighppcdpaekaaDoor.Rf
open Go.RowKit Go.Proofs.YteighppcdpaekaaDoorW.PrintWords Go.Proofs.YteighppcdpaekaaDoor Go.Proofs.YteighppcdpaekaaDoor.P
variable {b : List Int} {p q fr : Nat} {d B : Int}
theorem evBT {α β : Type} {c : Prop} [Decidable c] (hc : c) {A C : Nat → Option α} {g : Nat → α → Option β} {r : β} (h : Ev (fun k => (A k).bind (g k)) r) : Ev (fun k => (if c then A k else C k).bind (g k)) r := by simpa only [if_pos hc] using h
theorem evBF {α β : Type} {c : Prop} [Decidable c] (hc : ¬ c) {A C : Nat → Option α} {g : Nat → α → Option β} {r : β} (h : Ev (fun k => (C k).bind (g k)) r) : Ev (fun k => (if c then A k else C k).bind (g k)) r := by simpa only [if_neg hc] using h
theorem m46 : ¬ (((-1 : Int) == 46) = true) := by decide
theorem m48 : ¬ (((-1 : Int) == 48) = true) := by decide
abbrev zeroN (a d e B : Int) : NumOut := (0, ⟨#[]⟩, [], [], a, d, e, B)
abbrev numR (b : List Int) (fr r : Nat) (d B : Int) : NumOut := (3, strOfNums ((b.take r).drop fr), [], [], (r : Int), d, 0, B)
def NumEnds (b : List Int) (o : Js.Out Unit) (fr : Nat) (d B : Int) (g : Nat → Option NumOut) : Prop := match o with
 | .ok _ r => fr ≤ r → r ≤ b.length → Ev g (numR b fr r d B)
 | .no _ _ => ∃ a d' e B', e ≠ 0 ∧ Ev g (zeroN a d' e B')
theorem numE_ok (hpq : fr ≤ q) (hq : q ≤ b.length) : numE b fr q d 0 B = some (numR b fr q d B) := by
 unfold numE
 rw [if_neg (by decide), if_pos (by omega)]
 simp
theorem numE_bad {f a e : Int} (he : e ≠ 0) : numE b f a d e B = some (zeroN a d e B) := by
 unfold numE
 rw [if_pos (by simpa using he)]
theorem numX_bad {f a e : Int} (he : e ≠ 0) : Ev (fun k => numX k b f a d e B) (zeroN a d e B) := by
 unfold numX
 exact evB (see_bad he) (evF (by show ¬ (((-1 : Int) == 101 || (-1 : Int) == 69) = true); decide) (evC (numE_bad he)))
theorem numD_bad {f a e : Int} (he : e ≠ 0) : Ev (fun k => numD k b f a d e B) (zeroN a d e B) := by
 unfold numD
 refine evB (see_bad he) ?_
 refine evBF m46 ?_
 exact evB rfl (numX_bad he)
theorem see_next (hb : Bs b) : ∃ c : Int, rR_see.f b q d 0 B = some (c, (q : Int), d, 0, B) ∧ ∀ x : Int, 0 ≤ x → ((c == x) = true ↔ Js.next b q x = true) := by
 cases hn : b[q]? with
 | none =>
  refine ⟨-1, see_end hn, fun x hx => ?_⟩
  simp [Js.next, hn]
  omega
 | some c =>
  refine ⟨c, see_ok hb hn, fun x hx => ?_⟩
  simp [Js.next, hn]
theorem digs (hb : Bs b) {g : Nat → (Int × Int × Int × Int) → Option NumOut} {o : Js.Out Unit} (h1 : ∀ y e, Js.digits b q = .no y e → o = .no y e)
  (h2 : ∀ u r, Js.digits b q = .ok u r → NumEnds b o fr d B (fun k => g k ((r : Int), d, 0, B))) (hbad : ∀ a d e B, e ≠ 0 → Ev (fun k => g k (a, d, e, B)) (zeroN a d e B)) :
  NumEnds b o fr d B (fun k => (rR_digits.f k b q d 0 B).bind (g k)) := by
 have h := digits_ends (p := q) (d := d) (B := B) hb
 cases hd : Js.digits b q with
 | no y e =>
  rw [hd] at h
  obtain ⟨a, d', e', B', he, h⟩ := h
  rw [h1 y e hd]
  exact ⟨a, d', e', B', he, Ev.bind h (hbad _ _ _ _ he)⟩
 | ok u r =>
  rw [hd] at h
  have h3 := h2 u r hd
  cases o with
  | ok u r => exact fun x1 x2 => Ev.bind h (h3 x1 x2)
  | no y e =>
   obtain ⟨a, d', e', B', he, h3⟩ := h3
   exact ⟨a, d', e', B', he, Ev.bind h h3⟩
theorem NumEnds.map {o : Js.Out Unit} {g g' : Nat → Option NumOut} (h : NumEnds b o fr d B g) (hg : ∀ {r}, Ev g r → Ev g' r) : NumEnds b o fr d B g' := by
 cases o with
 | ok u r => exact fun x1 x2 => hg (h x1 x2)
 | no y e =>
  obtain ⟨a, d', e', B', he, h3⟩ := h
  exact ⟨a, d', e', B', he, hg h3⟩
theorem numX_ends (hb : Bs b) (_hq : q ≤ b.length) : NumEnds b (Js.numExp b q) fr d B (fun k => numX k b fr q d 0 B) := by
 have hl := hb.2
 obtain ⟨c, hs, hc⟩ := see_next (q := q) (d := d) (B := B) hb
 unfold Js.numExp
 by_cases h1 : (Js.next b q 101 || Js.next b q 69) = true
 ·rw [if_pos h1]
  have h1c : (c == 101 || c == 69) = true := by
   rcases Bool.or_eq_true _ _ ▸ h1 with h | h
   ·rw [(hc 101 (by decide)).2 h]; rfl
   ·rw [(hc 69 (by decide)).2 h]; simp
  obtain ⟨c2, hs2, hc2⟩ := see_next (q := q + 1) (d := d) (B := B) hb
  have hlt : q < b.length := by
   rcases Bool.or_eq_true _ _ ▸ h1 with h | h
   ·exact Js.next_lt h
   ·exact Js.next_lt h
  unfold Js.numSign
  have step : ∀ {r}, Ev (fun k => (rR_digits.f k b ((if Js.next b (q + 1) 43 || Js.next b (q + 1) 45 then q + 1 + 1 else q + 1 : Nat) : Int) d 0 B).bind fun v => numE b fr v.1 v.2.1 v.2.2.1 v.2.2.2) r → Ev (fun k => numX k b fr q d 0 B) r := by
   intro r hr
   unfold numX
   refine evB hs (evT h1c ?_)
   show Ev (fun k => (rR_see.f b (wrap64 ((q : Int) + 1)) d 0 B).bind _) r
   rw [w64n (by omega)]
   refine evB hs2 ?_
   show Ev (fun k => (rR_digits.f k b (if (c2 == 43 || c2 == 45) = true then wrap64 (((q + 1 : Nat) : Int) + 1) else ((q + 1 : Nat) : Int)) d 0 B).bind _) r
   rw [w64n (by omega)]
   rw [show (if (c2 == 43 || c2 == 45) = true then ((q + 1 + 1 : Nat) : Int) else ((q + 1 : Nat) : Int)) = ((if Js.next b (q + 1) 43 || Js.next b (q + 1) 45 then q + 1 + 1 else q + 1 : Nat) : Int) by
    have e1 : (c2 == 43) = Js.next b (q + 1) 43 := Bool.eq_iff_iff.mpr (hc2 43 (by decide))
    have e2 : (c2 == 45) = Js.next b (q + 1) 45 := Bool.eq_iff_iff.mpr (hc2 45 (by decide))
    rw [e1, e2]
    split <;> rfl]
   exact hr
  refine NumEnds.map (digs hb (g := fun _ v => numE b fr v.1 v.2.1 v.2.2.1 v.2.2.2) (fun _ _ h => h) (fun u r h => ?_) (fun _ _ _ _ he => evC (numE_bad he))) step
  rw [h]
  exact fun x1 x2 => evC (numE_ok x1 x2)
 ·rw [if_neg h1]
  intro x1 x2
  unfold numX
  refine evB hs (evF ?_ (evC (numE_ok x1 x2)))
  intro h
  apply h1
  rcases Bool.or_eq_true _ _ ▸ h with h | h
  ·rw [(hc 101 (by decide)).1 h]; rfl
  ·rw [(hc 69 (by decide)).1 h]; simp
theorem numD_ends (hb : Bs b) (hq : q ≤ b.length) : NumEnds b (Js.numFrac b q) fr d B (fun k => numD k b fr q d 0 B) := by
 have hl := hb.2
 obtain ⟨c, hs, hc⟩ := see_next (q := q) (d := d) (B := B) hb
 unfold Js.numFrac
 by_cases h1 : Js.next b q 46 = true
 ·rw [if_pos h1]
  have hlt := Js.next_lt h1
  have step : ∀ {r}, Ev (fun k => (rR_digits.f k b ((q + 1 : Nat) : Int) d 0 B).bind fun v => numX k b fr v.1 v.2.1 v.2.2.1 v.2.2.2) r → Ev (fun k => numD k b fr q d 0 B) r := by
   intro r hr
   unfold numD
   refine evB hs ?_
   refine evBT (((hc 46 (by decide)).2 h1)) ?_
   show Ev (fun k => (rR_digits.f k b (wrap64 ((q : Int) + 1)) d 0 B).bind _) r
   rw [w64n (by omega)]
   exact hr
  refine NumEnds.map (digs hb (g := fun k v => numX k b fr v.1 v.2.1 v.2.2.1 v.2.2.2) (fun y e h => by rw [h]) (fun u r h => ?_) (fun _ _ _ _ he => numX_bad he)) step
  rw [h]
  exact numX_ends hb (Js.digits_le h).2
 ·rw [if_neg h1]
  refine NumEnds.map (numX_ends hb hq) (fun hr => ?_)
  unfold numD
  refine evB hs ?_
  refine evBF ((fun h => h1 ((hc 46 (by decide)).1 h))) ?_
  exact hr
theorem numI_ends (hb : Bs b) (_hq : q ≤ b.length) : NumEnds b (Js.numInt b q) fr d B (fun k => numI k b fr q d 0 B) := by
 have hl := hb.2
 unfold Js.numInt
 cases hn : b[q]? with
 | none =>
  refine ⟨(q : Int), d, 11, (b.length : Int), n11, ?_⟩
  unfold numI
  refine evB (peek_end hn) ?_
  refine evBF m48 ?_
  exact Ev.bind (digits_bad n11) (numD_bad n11)
 | some c =>
  have hlt := lt_of hn
  simp only
  by_cases h1 : (c == 48) = true
  ·rw [if_pos h1]
   refine NumEnds.map (numD_ends hb (q := q + 1) (by omega)) (fun hr => ?_)
   unfold numI
   refine evB (peek_ok hb hn) ?_
   refine evBT (h1) ?_
   refine evB (o := some (wrap64 ((q : Int) + 1), d, (0 : Int), B)) rfl ?_
   rw [w64n (by omega)]
   exact hr
  ·rw [if_neg h1]
   have step : ∀ {r}, Ev (fun k => (rR_digits.f k b (q : Int) d 0 B).bind fun v => numD k b fr v.1 v.2.1 v.2.2.1 v.2.2.2) r → Ev (fun k => numI k b fr q d 0 B) r := by
    intro r hr
    unfold numI
    refine evB (peek_ok hb hn) ?_
    refine evBF (h1) ?_
    exact hr
   refine NumEnds.map (digs hb (g := fun k v => numD k b fr v.1 v.2.1 v.2.2.1 v.2.2.2) (fun y e h => by rw [h]) (fun u r h => ?_) (fun _ _ _ _ he => numD_bad he)) step
   rw [h]
   exact numD_ends hb (Js.digits_le h).2
theorem number_ends (hb : Bs b) (hp : p ≤ b.length) : NumEnds b (Js.number b p) p d B (fun k => numF k b p d 0 B) := by
 have hl := hb.2
 obtain ⟨c, hs, hc⟩ := see_next (q := p) (d := d) (B := B) hb
 unfold Js.number
 by_cases h1 : Js.next b p 45 = true
 ·rw [if_pos h1]
  have hlt := Js.next_lt h1
  refine NumEnds.map (numI_ends hb (q := p + 1) (by omega)) (fun hr => ?_)
  unfold numF
  refine evB hs ?_
  dsimp only
  rw [if_pos ((hc 45 (by decide)).2 h1)]
  show Ev (fun k => numI k b p (wrap64 ((p : Int) + 1)) d 0 B) _
  rw [w64n (by omega)]
  exact hr
 ·rw [if_neg h1]
  refine NumEnds.map (numI_ends hb hp) (fun hr => ?_)
  unfold numF
  refine evB hs ?_
  dsimp only
  rw [if_neg (fun h => h1 ((hc 45 (by decide)).1 h))]
  exact hr
end Go.Proofs.YteighppcdpaekaaDoor.Rf
end
