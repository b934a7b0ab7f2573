/- Walks and words of this session, put together by a program of this session (pack.py). Conditions: as each text says. -/
import Derived.Deep.RegionHeld3
import Derived.BigRegion
import Derived.Lib.SlBytesConst
import Derived.Test.YteighppcdpaekaaDoorQ2
import Derived.Test.YteighppcdpaekaaDoorQ3
import Derived.Test.YteighppcdpaekaaDoorQ4
import Derived.Test.YteighppcdpaekaaDoorQ5
import Derived.Test.YteighppcdpaekaaDoorQ8
import Derived.Test.YteighppcdpaekaaDoorQ10
set_option linter.unusedVariables false
set_option linter.unusedSimpArgs false
section
namespace Go.Proofs.YteighppcdpaekaaDoor.P
open Go.RowKit Go.Proofs.YteighppcdpaekaaDoorW.PrintWords Go.Proofs.YteighppcdpaekaaDoorW.PrintLast Go.Proofs.YteighppcdpaekaaDoorW.PrintMore
abbrev RdOut := Bool × Int × ByteArray × List ByteArray × List S27 × ByteArray × Int × ByteArray × List ByteArray × List S27 × Int × Int × ByteArray × List ByteArray × List S27 × Bool
def rpc_Read.no (cd i1 : Int) (i2 : ByteArray) (i3 : List ByteArray) (i4 : List S27) : RdOut := (false, 0, ⟨#[]⟩, [], [], ⟨#[]⟩, 0, ⟨#[]⟩, [], [], cd, i1, i2, i3, i4, false)
def rpc_Read.params (k : Nat) (p1 : Int) (p2 : ByteArray) (p3 : List ByteArray) (p4 : List S27) (i1 : Int) (i2 : ByteArray) (i3 : List ByteArray) (i4 : List S27) (ih : Bool) (m2 : ByteArray) : Option RdOut :=
 (json_Get.f k p1 p2 p3 p4 ⟨#[112, 97, 114, 97, 109, 115]⟩).bind fun q =>
  if (q.2.2.2.2 && (q.1 != 6 && q.1 != 5)) = true then some (rpc_Read.no (-32600) i1 i2 i3 i4) else
  some (ih, i1, i2, i3, i4, m2, q.1, q.2.1, q.2.2.1, q.2.2.2.1, 0, 0, ⟨#[]⟩, [], [], true)
def rpc_Read.replies (k : Nat) (p1 : Int) (p2 : ByteArray) (p3 : List ByteArray) (p4 : List S27) (i1 : Int) (i2 : ByteArray) (i3 : List ByteArray) (i4 : List S27) (ih : Bool) : Option RdOut :=
 (json_Get.f k p1 p2 p3 p4 ⟨#[114, 101, 115, 117, 108, 116]⟩).bind fun x =>
  if (x.2.2.2.2 && ih) = true then some (rpc_Read.no 0 0 ⟨#[]⟩ [] []) else
  (json_Get.f k p1 p2 p3 p4 ⟨#[101, 114, 114, 111, 114]⟩).bind fun y =>
   if (y.2.2.2.2 && ih) = true then some (rpc_Read.no 0 0 ⟨#[]⟩ [] []) else some (rpc_Read.no (-32600) i1 i2 i3 i4)
def rpc_Read.method (k : Nat) (p1 : Int) (p2 : ByteArray) (p3 : List ByteArray) (p4 : List S27) (i1 : Int) (i2 : ByteArray) (i3 : List ByteArray) (i4 : List S27) (ih : Bool) : Option RdOut :=
 (json_Get.f k p1 p2 p3 p4 ⟨#[109, 101, 116, 104, 111, 100]⟩).bind fun m =>
  if m.2.2.2.2 = false then rpc_Read.replies k p1 p2 p3 p4 i1 i2 i3 i4 ih else
  if (m.1 != 4) = true then some (rpc_Read.no (-32600) i1 i2 i3 i4) else rpc_Read.params k p1 p2 p3 p4 i1 i2 i3 i4 ih m.2.1
def rpc_Read.odd (k : Nat) (p1 v1 : Int) (v2 : ByteArray) (v3 : List ByteArray) (v4 : List S27) (vh : Bool) : Option Bool :=
 if (p1 != 6) = true then some true else if vh = false then some true else
 (json_Text.f ⟨#[50, 46, 48]⟩).bind fun t => (eqT v1 v2 t.1 t.2.1).bind fun b => some (!b)
def rpc_Read.version (k : Nat) (p1 : Int) (p2 : ByteArray) (p3 : List ByteArray) (p4 : List S27) (i1 : Int) (i2 : ByteArray) (i3 : List ByteArray) (i4 : List S27) (ih : Bool) : Option RdOut :=
 (json_Get.f k p1 p2 p3 p4 ⟨#[106, 115, 111, 110, 114, 112, 99]⟩).bind fun v => (rpc_Read.odd k p1 v.1 v.2.1 v.2.2.1 v.2.2.2.1 v.2.2.2.2).bind fun o =>
  if o = true then some (rpc_Read.no (-32600) i1 i2 i3 i4) else rpc_Read.method k p1 p2 p3 p4 i1 i2 i3 i4 ih
def rpc_Read.f (k : Nat) (l0 : List Int) : Option RdOut :=
 (json_Parse.f k l0).bind fun p =>
  if (p.2.2.2.2.2 != 0) = true then some (rpc_Read.no (-32700) 0 ⟨#[]⟩ [] []) else
  (json_Get.f k p.1 p.2.1 p.2.2.1 p.2.2.2.1 ⟨#[105, 100]⟩).bind fun i =>
   (if i.2.2.2.2 = true then (rpc_isID.f i.1 i.2.1 i.2.2.1 i.2.2.2.1).bind fun b => some (!b) else some false).bind fun bad =>
    if bad = true then some (rpc_Read.no (-32600) 0 ⟨#[]⟩ [] []) else rpc_Read.version k p.1 p.2.1 p.2.2.1 p.2.2.2.1 i.1 i.2.1 i.2.2.1 i.2.2.2.1 i.2.2.2.2
def RdPost (w : World) (r : RdOut) (e : Ending) (w' : World) : Prop :=
 ∃ v3 v4 v8 v9 v13 v14 : Value, e = .returned (.tuple #[.agg #[.bool r.1, .int .i64 r.2.1, .string r.2.2.1, v3, v4, .string r.2.2.2.2.2.1, .int .i64 r.2.2.2.2.2.2.1, .string r.2.2.2.2.2.2.2.1, v8, v9], .agg #[.int .i64 r.2.2.2.2.2.2.2.2.2.2.1, .int .i64 r.2.2.2.2.2.2.2.2.2.2.2.1, .string r.2.2.2.2.2.2.2.2.2.2.2.2.1, v13, v14], .bool r.2.2.2.2.2.2.2.2.2.2.2.2.2.2.2]) ∧
  Kd.V Kd.string 9 w' 0 (fun _ => True) v3 r.2.2.2.1 ∧ Kd.V k27 27 w' 0 (fun _ => True) v4 r.2.2.2.2.1 ∧ Kd.V Kd.string 9 w' 0 (fun _ => True) v8 r.2.2.2.2.2.2.2.2.1 ∧ Kd.V k27 27 w' 0 (fun _ => True) v9 r.2.2.2.2.2.2.2.2.2.1 ∧ Kd.V Kd.string 9 w' 0 (fun _ => True) v13 r.2.2.2.2.2.2.2.2.2.2.2.2.2.1 ∧ Kd.V k27 27 w' 0 (fun _ => True) v14 r.2.2.2.2.2.2.2.2.2.2.2.2.2.2.1 ∧ Below w.heap.size w w'
theorem blk4 {W : World} {g t : Nat} {a b c d : Value} (h : (uBlk g [a, b, c, d] t).p W) : W.cell? ⟨g, 0, none⟩ = some a ∧ W.cell? ⟨g, 1, none⟩ = some b ∧ W.cell? ⟨g, 2, none⟩ = some c ∧ W.cell? ⟨g, 3, none⟩ = some d := ⟨Ctx.blk h 0 rfl, Ctx.blk h 1 rfl, Ctx.blk h 2 rfl, Ctx.blk h 3 rfl⟩
theorem blk5 {W : World} {g t : Nat} {a b c d e : Value} (h : (uBlk g [a, b, c, d, e] t).p W) : W.cell? ⟨g, 0, none⟩ = some a ∧ W.cell? ⟨g, 1, none⟩ = some b ∧ W.cell? ⟨g, 2, none⟩ = some c ∧ W.cell? ⟨g, 3, none⟩ = some d ∧ W.cell? ⟨g, 4, none⟩ = some e := ⟨Ctx.blk h 0 rfl, Ctx.blk h 1 rfl, Ctx.blk h 2 rfl, Ctx.blk h 3 rfl, Ctx.blk h 4 rfl⟩
theorem blk10 {W : World} {g t : Nat} {a b c d e f i j k l : Value} (h : (uBlk g [a, b, c, d, e, f, i, j, k, l] t).p W) : W.cell? ⟨g, 0, none⟩ = some a ∧ W.cell? ⟨g, 1, none⟩ = some b ∧ W.cell? ⟨g, 2, none⟩ = some c ∧ W.cell? ⟨g, 3, none⟩ = some d ∧ W.cell? ⟨g, 4, none⟩ = some e ∧ W.cell? ⟨g, 5, none⟩ = some f ∧ W.cell? ⟨g, 6, none⟩ = some i ∧ W.cell? ⟨g, 7, none⟩ = some j ∧ W.cell? ⟨g, 8, none⟩ = some k ∧ W.cell? ⟨g, 9, none⟩ = some l := ⟨Ctx.blk h 0 rfl, Ctx.blk h 1 rfl, Ctx.blk h 2 rfl, Ctx.blk h 3 rfl, Ctx.blk h 4 rfl, Ctx.blk h 5 rfl, Ctx.blk h 6 rfl, Ctx.blk h 7 rfl, Ctx.blk h 8 rfl, Ctx.blk h 9 rfl⟩
abbrev rdW (w W : World) (a b c d e f i j k l m n o p q : Value) : World :=
 (((((((((((((((W.setCell ⟨w.heap.size, 0, none⟩ a).setCell ⟨w.heap.size, 1, none⟩ b).setCell ⟨w.heap.size, 2, none⟩ c).setCell ⟨w.heap.size, 3, none⟩ d).setCell ⟨w.heap.size, 4, none⟩ e).setCell ⟨w.heap.size, 5, none⟩ f).setCell ⟨w.heap.size, 6, none⟩ i).setCell ⟨w.heap.size, 7, none⟩ j).setCell ⟨w.heap.size, 8, none⟩ k).setCell ⟨w.heap.size, 9, none⟩ l).setCell ⟨w.heap.size + 1, 0, none⟩ m).setCell ⟨w.heap.size + 1, 1, none⟩ n).setCell ⟨w.heap.size + 1, 2, none⟩ o).setCell ⟨w.heap.size + 1, 3, none⟩ p).setCell ⟨w.heap.size + 1, 4, none⟩ q)
theorem rd_end {w W : World} {act : Act} {r : RdOut} {v3 v4 v8 v9 v13 v14 : Value}
  (h37 : (uBlk w.heap.size [.bool false, .int .i64 0, .string ⟨#[]⟩, .slice none 0 0, .slice none 0 0, .string ⟨#[]⟩, .int .i64 0, .string ⟨#[]⟩, .slice none 0 0, .slice none 0 0] 37).p W) (h39 : (uBlk (w.heap.size + 1) [.int .i64 0, .int .i64 0, .string ⟨#[]⟩, .slice none 0 0, .slice none 0 0] 39).p W) (hb : (uB w).p W)
  (h3 : (uV Kd.string 9 (w.heap.size + 2) v3 r.2.2.2.1).p W) (h4 : (uV k27 27 (w.heap.size + 2) v4 r.2.2.2.2.1).p W) (h8 : (uV Kd.string 9 (w.heap.size + 2) v8 r.2.2.2.2.2.2.2.2.1).p W) (h9 : (uV k27 27 (w.heap.size + 2) v9 r.2.2.2.2.2.2.2.2.2.1).p W)
  (h13 : (uV Kd.string 9 (w.heap.size + 2) v13 r.2.2.2.2.2.2.2.2.2.2.2.2.2.1).p W) (h14 : (uV k27 27 (w.heap.size + 2) v14 r.2.2.2.2.2.2.2.2.2.2.2.2.2.2.1).p W) (hd : act.defers = [])
  (t2 : act.tmps.getD 2 undef = .pointer (some ⟨w.heap.size, 0, none⟩)) (t3 : act.tmps.getD 3 undef = .pointer (some ⟨w.heap.size + 1, 0, none⟩)) (t4 : act.tmps.getD 4 undef = .bool r.2.2.2.2.2.2.2.2.2.2.2.2.2.2.2) :
  bodyPost Tryd.prog Tryd.f15 (RdPost w r) .ret act (rdW w W (.bool r.1) (.int .i64 r.2.1) (.string r.2.2.1) v3 v4 (.string r.2.2.2.2.2.1) (.int .i64 r.2.2.2.2.2.2.1) (.string r.2.2.2.2.2.2.2.1) v8 v9 (.int .i64 r.2.2.2.2.2.2.2.2.2.2.1) (.int .i64 r.2.2.2.2.2.2.2.2.2.2.2.1) (.string r.2.2.2.2.2.2.2.2.2.2.2.2.1) v13 v14) := by
 obtain ⟨r1, r2, r3, r4, r5, r6, r7, r8, r9, r10, r11, r12, r13, r14, r15, r16⟩ := r;have hb : Below w.heap.size w W := hb
 have n1 : w.heap.size ≠ w.heap.size + 1 := by omega
 have n2 : w.heap.size + 1 ≠ w.heap.size := by omega
 have e37 := (Ctx.far (Ctx.far (Ctx.far (Ctx.far (Ctx.far (Ctx.put (Ctx.put (Ctx.put (Ctx.put (Ctx.put (Ctx.put (Ctx.put (Ctx.put (Ctx.put (Ctx.put h37 0 (.bool r1)) 1 (.int .i64 r2)) 2 (.string r3)) 3 (v3)) 4 (v4)) 5 (.string r6)) 6 (.int .i64 r7)) 7 (.string r8)) 8 (v8)) 9 (v9)) 0 (.int .i64 r11) n1) 1 (.int .i64 r12) n1) 2 (.string r13) n1) 3 (v13) n1) 4 (v14) n1)
 have e39 := (Ctx.put (Ctx.put (Ctx.put (Ctx.put (Ctx.put (Ctx.far (Ctx.far (Ctx.far (Ctx.far (Ctx.far (Ctx.far (Ctx.far (Ctx.far (Ctx.far (Ctx.far h39 0 (.bool r1) n2) 1 (.int .i64 r2) n2) 2 (.string r3) n2) 3 (v3) n2) 4 (v4) n2) 5 (.string r6) n2) 6 (.int .i64 r7) n2) 7 (.string r8) n2) 8 (v8) n2) 9 (v9) n2) 0 (.int .i64 r11)) 1 (.int .i64 r12)) 2 (.string r13)) 3 (v13)) 4 (v14))
 replace h3 := (vfar (g := w.heap.size + 1) (i := 4) (vfar (g := w.heap.size + 1) (i := 3) (vfar (g := w.heap.size + 1) (i := 2) (vfar (g := w.heap.size + 1) (i := 1) (vfar (g := w.heap.size + 1) (i := 0) (vfar (g := w.heap.size) (i := 9) (vfar (g := w.heap.size) (i := 8) (vfar (g := w.heap.size) (i := 7) (vfar (g := w.heap.size) (i := 6) (vfar (g := w.heap.size) (i := 5) (vfar (g := w.heap.size) (i := 4) (vfar (g := w.heap.size) (i := 3) (vfar (g := w.heap.size) (i := 2) (vfar (g := w.heap.size) (i := 1) (vfar (g := w.heap.size) (i := 0) h3 (.bool r1) (by omega)) (.int .i64 r2) (by omega)) (.string r3) (by omega)) (v3) (by omega)) (v4) (by omega)) (.string r6) (by omega)) (.int .i64 r7) (by omega)) (.string r8) (by omega)) (v8) (by omega)) (v9) (by omega)) (.int .i64 r11) (by omega)) (.int .i64 r12) (by omega)) (.string r13) (by omega)) (v13) (by omega)) (v14) (by omega))
 replace h4 := (vfar (g := w.heap.size + 1) (i := 4) (vfar (g := w.heap.size + 1) (i := 3) (vfar (g := w.heap.size + 1) (i := 2) (vfar (g := w.heap.size + 1) (i := 1) (vfar (g := w.heap.size + 1) (i := 0) (vfar (g := w.heap.size) (i := 9) (vfar (g := w.heap.size) (i := 8) (vfar (g := w.heap.size) (i := 7) (vfar (g := w.heap.size) (i := 6) (vfar (g := w.heap.size) (i := 5) (vfar (g := w.heap.size) (i := 4) (vfar (g := w.heap.size) (i := 3) (vfar (g := w.heap.size) (i := 2) (vfar (g := w.heap.size) (i := 1) (vfar (g := w.heap.size) (i := 0) h4 (.bool r1) (by omega)) (.int .i64 r2) (by omega)) (.string r3) (by omega)) (v3) (by omega)) (v4) (by omega)) (.string r6) (by omega)) (.int .i64 r7) (by omega)) (.string r8) (by omega)) (v8) (by omega)) (v9) (by omega)) (.int .i64 r11) (by omega)) (.int .i64 r12) (by omega)) (.string r13) (by omega)) (v13) (by omega)) (v14) (by omega))
 replace h8 := (vfar (g := w.heap.size + 1) (i := 4) (vfar (g := w.heap.size + 1) (i := 3) (vfar (g := w.heap.size + 1) (i := 2) (vfar (g := w.heap.size + 1) (i := 1) (vfar (g := w.heap.size + 1) (i := 0) (vfar (g := w.heap.size) (i := 9) (vfar (g := w.heap.size) (i := 8) (vfar (g := w.heap.size) (i := 7) (vfar (g := w.heap.size) (i := 6) (vfar (g := w.heap.size) (i := 5) (vfar (g := w.heap.size) (i := 4) (vfar (g := w.heap.size) (i := 3) (vfar (g := w.heap.size) (i := 2) (vfar (g := w.heap.size) (i := 1) (vfar (g := w.heap.size) (i := 0) h8 (.bool r1) (by omega)) (.int .i64 r2) (by omega)) (.string r3) (by omega)) (v3) (by omega)) (v4) (by omega)) (.string r6) (by omega)) (.int .i64 r7) (by omega)) (.string r8) (by omega)) (v8) (by omega)) (v9) (by omega)) (.int .i64 r11) (by omega)) (.int .i64 r12) (by omega)) (.string r13) (by omega)) (v13) (by omega)) (v14) (by omega))
 replace h9 := (vfar (g := w.heap.size + 1) (i := 4) (vfar (g := w.heap.size + 1) (i := 3) (vfar (g := w.heap.size + 1) (i := 2) (vfar (g := w.heap.size + 1) (i := 1) (vfar (g := w.heap.size + 1) (i := 0) (vfar (g := w.heap.size) (i := 9) (vfar (g := w.heap.size) (i := 8) (vfar (g := w.heap.size) (i := 7) (vfar (g := w.heap.size) (i := 6) (vfar (g := w.heap.size) (i := 5) (vfar (g := w.heap.size) (i := 4) (vfar (g := w.heap.size) (i := 3) (vfar (g := w.heap.size) (i := 2) (vfar (g := w.heap.size) (i := 1) (vfar (g := w.heap.size) (i := 0) h9 (.bool r1) (by omega)) (.int .i64 r2) (by omega)) (.string r3) (by omega)) (v3) (by omega)) (v4) (by omega)) (.string r6) (by omega)) (.int .i64 r7) (by omega)) (.string r8) (by omega)) (v8) (by omega)) (v9) (by omega)) (.int .i64 r11) (by omega)) (.int .i64 r12) (by omega)) (.string r13) (by omega)) (v13) (by omega)) (v14) (by omega))
 replace h13 := (vfar (g := w.heap.size + 1) (i := 4) (vfar (g := w.heap.size + 1) (i := 3) (vfar (g := w.heap.size + 1) (i := 2) (vfar (g := w.heap.size + 1) (i := 1) (vfar (g := w.heap.size + 1) (i := 0) (vfar (g := w.heap.size) (i := 9) (vfar (g := w.heap.size) (i := 8) (vfar (g := w.heap.size) (i := 7) (vfar (g := w.heap.size) (i := 6) (vfar (g := w.heap.size) (i := 5) (vfar (g := w.heap.size) (i := 4) (vfar (g := w.heap.size) (i := 3) (vfar (g := w.heap.size) (i := 2) (vfar (g := w.heap.size) (i := 1) (vfar (g := w.heap.size) (i := 0) h13 (.bool r1) (by omega)) (.int .i64 r2) (by omega)) (.string r3) (by omega)) (v3) (by omega)) (v4) (by omega)) (.string r6) (by omega)) (.int .i64 r7) (by omega)) (.string r8) (by omega)) (v8) (by omega)) (v9) (by omega)) (.int .i64 r11) (by omega)) (.int .i64 r12) (by omega)) (.string r13) (by omega)) (v13) (by omega)) (v14) (by omega))
 replace h14 := (vfar (g := w.heap.size + 1) (i := 4) (vfar (g := w.heap.size + 1) (i := 3) (vfar (g := w.heap.size + 1) (i := 2) (vfar (g := w.heap.size + 1) (i := 1) (vfar (g := w.heap.size + 1) (i := 0) (vfar (g := w.heap.size) (i := 9) (vfar (g := w.heap.size) (i := 8) (vfar (g := w.heap.size) (i := 7) (vfar (g := w.heap.size) (i := 6) (vfar (g := w.heap.size) (i := 5) (vfar (g := w.heap.size) (i := 4) (vfar (g := w.heap.size) (i := 3) (vfar (g := w.heap.size) (i := 2) (vfar (g := w.heap.size) (i := 1) (vfar (g := w.heap.size) (i := 0) h14 (.bool r1) (by omega)) (.int .i64 r2) (by omega)) (.string r3) (by omega)) (v3) (by omega)) (v4) (by omega)) (.string r6) (by omega)) (.int .i64 r7) (by omega)) (.string r8) (by omega)) (v8) (by omega)) (v9) (by omega)) (.int .i64 r11) (by omega)) (.int .i64 r12) (by omega)) (.string r13) (by omega)) (v13) (by omega)) (v14) (by omega))
 refine absB _ (Ctx.cons (uBlk w.heap.size [.bool r1, .int .i64 r2, .string r3, v3, v4, .string r6, .int .i64 r7, .string r8, v8, v9] 37) e37 (Ctx.cons (uBlk (w.heap.size + 1) [.int .i64 r11, .int .i64 r12, .string r13, v13, v14] 39) e39 (Ctx.cons (uB w) (show Below w.heap.size w _ by repeat (first | (with_reducible exact hb) | refine bstq ?_ (by simp))) (Ctx.cons _ h3 (Ctx.cons _ h4 (Ctx.cons _ h8 (Ctx.cons _ h9 (Ctx.cons _ h13 (Ctx.cons _ h14 Ctx.nil))))))))) ?_;clear e37 e39 hb h37 h39;intro wz HZ;obtain ⟨tmps, defers⟩ := act;obtain rfl : defers = [] := hd;refine bodyPost_ret (v := .tuple #[.agg #[.bool r1, .int .i64 r2, .string r3, v3, v4, .string r6, .int .i64 r7, .string r8, v8, v9], .agg #[.int .i64 r11, .int .i64 r12, .string r13, v13, v14], .bool r16]) ?_ rfl ⟨v3, v4, v8, v9, v13, v14, rfl, vT HZ.2.2.2.1, vT HZ.2.2.2.2.1, vT HZ.2.2.2.2.2.1, vT HZ.2.2.2.2.2.2.1, vT HZ.2.2.2.2.2.2.2.1, vT HZ.2.2.2.2.2.2.2.2.1, HZ.2.2.1⟩;exact results_cct (P := Tryd.prog) (fn := Tryd.f15) Tryd.results15 _ _ w.heap.size (w.heap.size + 1) 37 39 _ _ (0, 0) (0, 0) _ _ _ t2 HZ.1 Tryd.underlying37 rfl (by kernel_rfl) t3 HZ.2.1 Tryd.underlying39 rfl (by kernel_rfl) t4
theorem vnil {α : Type} {d : Kd α} {e base : Nat} {W : World} : (uV d e base (.slice none 0 0) ([] : List α)).p W := Kd.V_nil d e W base _
set_option maxHeartbeats 1600000 in
set_option maxRecDepth 100000 in
theorem rpc_Read.calls0 (k : Nat) (A : Option Addr) (c : Nat) (l0 : List Int) (r : RdOut) (w : World) (hr : Kd.C (Kd.int .u8) w A l0.length l0) (hc : l0.length ≤ c) (h : rpc_Read.f k l0 = some r) (hT : TabOk w) :
  Calls Tryd.prog 15 #[.slice A l0.length c] w (RdPost w r) := by
 have HH := Sdq.mk h;clear h;have HK0 := Sdq.mk (Ctx.new (cs := [.int .i64 0, .int .i64 0, .string ⟨#[]⟩, .slice none 0 0, .slice none 0 0]) (t := 39) (Ctx.new (cs := [.bool false, .int .i64 0, .string ⟨#[]⟩, .slice none 0 0, .slice none 0 0, .string ⟨#[]⟩, .int .i64 0, .string ⟨#[]⟩, .slice none 0 0, .slice none 0 0]) (t := 37) (show Ctx [uTab, uB w] w from ⟨hT, Below.refl _ _, trivial⟩)));simp only [World.size_alloc] at HK0;clear hT;obtain ⟨⟨p1, p2, p3, p4, p5, p6⟩, hp, h1⟩ := Option.bind_eq_some_iff.mp HH.out;clear HH;have HH := Sdq.mk h1;clear h1;have HP := Sdq.mk hp;clear hp;go_enter Tryd.func15, Tryd.ntmps15
 focus go_wp2_with fail
 refine (json_Parse.calls k _ _ l0 p1 p2 p3 p4 p5 p6 _ (Kd.C_alloc (Kd.C_alloc hr _) _) hc HP.out).mono ?_;rintro e1 w1 ⟨v2, v3, rfl, h2, h3, hB1⟩;obtain ⟨A2, c2, rfl⟩ := Kd.R_slice h2;obtain ⟨A3, c3, rfl⟩ := Kd.R_slice h3;have HK1 := Sdq.mk (Ctx.cons (uV k27 27 (w.heap.size + 2) _ _) (vR h3 (by simp)) (Ctx.cons (uV Kd.string 9 (w.heap.size + 2) _ _) (vR h2 (by simp)) (HK0.out.below hB1)));clear HK0 hB1;clear h2 h3 hr HP;by_cases q1 : (p6 != 0) = true
 ·have h1 := HH.out
  clear HH;rw [show (((p1, p2, p3, p4, p5, p6) : Int × ByteArray × List ByteArray × List S27 × Int × Int).2.2.2.2.2 != 0) = true from q1, if_pos rfl] at h1;have HH := Sdq.mk h1;clear h1
  go_upto_region 3 with fail
  refine absW _ (Ctx.new (cs := [.int .i64 p1, .string p2, .slice A2 p3.length c2, .slice A3 p4.length c3]) (t := 27) (HK1.out)) ?_;clear HK1;intro w2 hk0;have HK2 := Sdq.mk hk0;clear hk0;obtain ⟨cb390, cb391, cb392, cb393, cb394⟩ := blk5 HK2.out.2.2.2.1;have fb39 := Ctx.frz HK2.out.2.2.2.1;obtain ⟨cb370, cb371, cb372, cb373, cb374, cb375, cb376, cb377, cb378, cb379⟩ := blk10 HK2.out.2.2.2.2.1;have fb37 := Ctx.frz HK2.out.2.2.2.2.1;have nb39b37 := Ctx.ne HK2.out.2.2.2.1 HK2.out.2.2.2.2.1 (by decide)
  focus go_wp2_with fail
  have hz := Option.some.inj HH.out;subst hz;exact rd_end HK2.out.2.2.2.2.1 HK2.out.2.2.2.1 HK2.out.2.2.2.2.2.2.1 vnil vnil vnil vnil vnil vnil rfl rfl rfl rfl
 have h1 := HH.out;clear HH;rw [if_neg q1] at h1;replace h1 := Option.bind_eq_some_iff.mp h1;obtain ⟨⟨i1, i2, i3, i4, ih⟩, hi, h1⟩ := h1;have HH := Sdq.mk h1;clear h1;have HI := Sdq.mk hi;clear hi;replace q1 := Bool.eq_false_iff.mpr q1
 go_upto_region 4 with fail
 refine absW _ (Ctx.new (cs := [.int .i64 p1, .string p2, .slice A2 p3.length c2, .slice A3 p4.length c3]) (t := 27) (HK1.out)) ?_;clear HK1;intro w2 hk0;have HK2 := Sdq.mk hk0;clear hk0;obtain ⟨cg50, cg51, cg52, cg53⟩ := blk4 HK2.out.1
 focus go_wp2_with fail
 refine (json_Get.calls k p1 p2 A2 c2 p3 (fun k => w.heap.size + 2 ≤ k) A3 c3 p4 ⟨#[105, 100]⟩ i1 i2 i3 i4 ih _ (vC HK2.out.2.2.1) (vle HK2.out.2.2.1) HK2.out.2.1 HI.out).mono ?_;rintro e1 w3 ⟨v2, v3, rfl, h2, h3, hB⟩;obtain ⟨Aik, cik, rfl⟩ := Kd.V_slice h2;obtain ⟨Ail, cil, rfl⟩ := Kd.V_slice h3;clear cg50 cg51 cg52 cg53;have hsz : w.heap.size + 2 ≤ w2.heap.size := blk_lt HK2.out.2.2.2.1;have HK3 := Sdq.mk (Ctx.cons (uV k27 27 (w.heap.size + 2) _ _) (vV h3 hsz) (Ctx.cons (uV Kd.string 9 (w.heap.size + 2) _ _) (vV h2 hsz) (HK2.out.below hB)));clear HK2 hB;clear h2 h3 hsz HI
 go_upto_region 5 with fail
 refine absW _ (Ctx.new (cs := [.int .i64 i1, .string i2, .slice Aik i3.length cik, .slice Ail i4.length cil]) (t := 27) (HK3.out)) ?_;clear HK3;intro w4 hk0;have HK4 := Sdq.mk hk0;clear hk0
 rcases Bool.eq_false_or_eq_true ih with q2 | q2
 subst q2;have h1 := HH.out;clear HH;rw [if_pos rfl] at h1;replace h1 := Option.bind_eq_some_iff.mp h1;obtain ⟨bad, hb1, h1⟩ := h1;replace hb1 := Option.bind_eq_some_iff.mp hb1;obtain ⟨q, hq, hq2⟩ := hb1;replace hq2 := Option.some.inj hq2;subst hq2;have HH := Sdq.mk h1;have HI := Sdq.mk hq;clear h1 hq;obtain ⟨cg80, cg81, cg82, cg83⟩ := blk4 HK4.out.1
 focus go_wp2_with fail
 refine (rpc_isID.calls i1 i2 Aik cik i3 Ail cil i4 q _ (vC HK4.out.2.2.1) (vle HK4.out.2.2.1) (vC HK4.out.2.1) (vle HK4.out.2.1) HI.out HK4.out.2.2.2.2.2.2.2.2.1).mono ?_;rintro e1 w5 ⟨rfl, hB⟩;clear cg80 cg81 cg82 cg83;have HK5 := Sdq.mk (HK4.out.below hB);clear HK4 hB;clear HI
 rcases Bool.eq_false_or_eq_true q with q3 | q3
 rotate_left
 ·subst q3
  have h1 := HH.out;clear HH;rw [if_pos (by rfl)] at h1;have HH := Sdq.mk h1;clear h1
  focus go_upto_region 6 with fail
  refine absW _ (HK5.out) ?_;clear HK5;intro w6 hk0;have HK6 := Sdq.mk hk0;clear hk0;obtain ⟨cb390, cb391, cb392, cb393, cb394⟩ := blk5 HK6.out.2.2.2.2.2.2.1;have fb39 := Ctx.frz HK6.out.2.2.2.2.2.2.1;obtain ⟨cb370, cb371, cb372, cb373, cb374, cb375, cb376, cb377, cb378, cb379⟩ := blk10 HK6.out.2.2.2.2.2.2.2.1;have fb37 := Ctx.frz HK6.out.2.2.2.2.2.2.2.1;have nb39b37 := Ctx.ne HK6.out.2.2.2.2.2.2.1 HK6.out.2.2.2.2.2.2.2.1 (by decide)
  focus go_wp2_with fail
  have hz := Option.some.inj HH.out;subst hz;exact rd_end HK6.out.2.2.2.2.2.2.2.1 HK6.out.2.2.2.2.2.2.1 HK6.out.2.2.2.2.2.2.2.2.2.1 vnil vnil vnil vnil vnil vnil rfl rfl rfl rfl
 subst q2;have h1 := HH.out;clear HH;rw [if_neg (by decide)] at h1;replace h1 := Option.bind_eq_some_iff.mp h1;obtain ⟨bad, hb1, h1⟩ := h1;replace hb1 := Option.some.inj hb1;subst hb1;rw [if_neg (by decide)] at h1;have HH := Sdq.mk h1;clear h1
 focus go_upto_region 7 with fail
 refine absW _ (HK4.out) ?_;clear HK4;intro w6 hk0;have HK6 := Sdq.mk hk0;clear hk0
 rotate_left
 subst q3;have h1 := HH.out;clear HH;rw [if_neg (by decide)] at h1;have HH := Sdq.mk h1;clear h1
 focus go_upto_region 7 with fail
 refine absW _ (HK5.out) ?_;clear HK5;intro w6 hk0;have HK6 := Sdq.mk hk0;clear hk0
 all_goals
  obtain ⟨cg80, cg81, cg82, cg83⟩ := blk4 HK6.out.1
  go_upto_region 8 with fail
  clear cg80 cg81 cg82 cg83;refine absW _ (Ctx.new (cs := [.int .i64 (-32600), .int .i64 i1, .string i2, .slice Aik i3.length cik, .slice Ail i4.length cil]) (t := 39) (HK6.out)) ?_;clear HK6;intro w7 hk0;have HK7 := Sdq.mk hk0;clear hk0;obtain ⟨cg50, cg51, cg52, cg53⟩ := blk4 HK7.out.2.2.2.2.1;have h1 := HH.out;clear HH;unfold rpc_Read.version at h1;replace h1 := Option.bind_eq_some_iff.mp h1;obtain ⟨⟨u1, u2, u3, u4, uh⟩, hv, h1⟩ := h1;replace h1 := Option.bind_eq_some_iff.mp h1;obtain ⟨o, ho, h1⟩ := h1;have HH := Sdq.mk h1;have HI := Sdq.mk hv;have HO := Sdq.mk ho;clear h1 hv ho
  go_wp2_with fail
  refine (json_Get.calls k p1 p2 A2 c2 p3 (fun k => w.heap.size + 2 ≤ k) A3 c3 p4 ⟨#[106, 115, 111, 110, 114, 112, 99]⟩ u1 u2 u3 u4 uh _ (vC HK7.out.2.2.2.2.2.2.1) (vle HK7.out.2.2.2.2.2.2.1) HK7.out.2.2.2.2.2.1 HI.out).mono ?_;rintro e1 w8 ⟨v2, v3, rfl, h2, h3, hB⟩;obtain ⟨Auk, cuk, rfl⟩ := Kd.V_slice h2;obtain ⟨Aul, cul, rfl⟩ := Kd.V_slice h3;clear cg50 cg51 cg52 cg53;have hsz : w.heap.size + 2 ≤ w7.heap.size := blk_lt HK7.out.2.2.2.2.2.2.2.1;have HK8 := Sdq.mk (Ctx.cons (uV k27 27 (w.heap.size + 2) _ _) (vV h3 hsz) (Ctx.cons (uV Kd.string 9 (w.heap.size + 2) _ _) (vV h2 hsz) (HK7.out.below hB)));clear HK7 hB;clear h2 h3 hsz HI
  go_upto_region 9 with fail
  refine absW _ (Ctx.new (cs := [.int .i64 u1, .string u2, .slice Auk u3.length cuk, .slice Aul u4.length cul]) (t := 27) (HK8.out)) ?_;clear HK8;intro w9 hk0;have HK9 := Sdq.mk hk0;clear hk0;obtain ⟨cg50, cg51, cg52, cg53⟩ := blk4 HK9.out.2.2.2.2.2.2.2.1;obtain ⟨cg110, cg111, cg112, cg113⟩ := blk4 HK9.out.1;by_cases r1 : (p1 != 6) = true
  ·have h1 := HO.out
   unfold rpc_Read.odd at h1;rw [if_pos r1] at h1;replace h1 := Option.some.inj h1;subst h1;clear HO;have h1 := HH.out;rw [if_pos rfl] at h1;clear HH;have HH := Sdq.mk h1;clear h1
   go_quiet (fail)
   go_upto_region 10 with fail
   clear cg50 cg51 cg52 cg53 cg110 cg111 cg112 cg113;refine absW _ (HK9.out.drewN _) ?_;clear HK9;intro w10 hk0;have HK10 := Sdq.mk hk0;clear hk0;obtain ⟨cb390, cb391, cb392, cb393, cb394⟩ := blk5 HK10.out.2.2.2.2.2.2.2.2.2.2.1;have fb39 := Ctx.frz HK10.out.2.2.2.2.2.2.2.2.2.2.1;obtain ⟨cb370, cb371, cb372, cb373, cb374, cb375, cb376, cb377, cb378, cb379⟩ := blk10 HK10.out.2.2.2.2.2.2.2.2.2.2.2.1;have fb37 := Ctx.frz HK10.out.2.2.2.2.2.2.2.2.2.2.2.1;obtain ⟨cg100, cg101, cg102, cg103, cg104⟩ := blk5 HK10.out.2.2.2.1;have nb39b37 := Ctx.ne HK10.out.2.2.2.2.2.2.2.2.2.2.1 HK10.out.2.2.2.2.2.2.2.2.2.2.2.1 (by decide);have ng10b37 := Ctx.ne HK10.out.2.2.2.1 HK10.out.2.2.2.2.2.2.2.2.2.2.2.1 (by decide);have ng10b39 := Ctx.ne' HK10.out.2.2.2.1 HK10.out.2.2.2.2.2.2.2.2.2.2.1 (by simp)
   go_region
   go_wp2_with fail
   have hz := Option.some.inj HH.out;subst hz
   have hk := (Ctx.drew HK10.out)
   simp only [← World.setCell_drew];exact rd_end hk.2.2.2.2.2.2.2.2.2.2.2.1 hk.2.2.2.2.2.2.2.2.2.2.1 hk.2.2.2.2.2.2.2.2.2.2.2.2.2.1 vnil vnil vnil vnil hk.2.2.2.2.2.2.1 hk.2.2.2.2.2.1 rfl rfl rfl rfl
  replace r1 := Bool.eq_false_iff.mpr r1
  rcases Bool.eq_false_or_eq_true uh with r2 | r2
  rotate_left
  ·subst r2
   have h1 := HO.out;unfold rpc_Read.odd at h1;rw [if_neg (by rw [r1]; decide), if_pos rfl] at h1;replace h1 := Option.some.inj h1;subst h1;clear HO;have h1 := HH.out;rw [if_pos rfl] at h1;clear HH;have HH := Sdq.mk h1;clear h1
   go_quiet (fail)
   go_upto_region 10 with fail
   clear cg50 cg51 cg52 cg53 cg110 cg111 cg112 cg113;refine absW _ (HK9.out.drewN _) ?_;clear HK9;intro w10 hk0;have HK10 := Sdq.mk hk0;clear hk0;obtain ⟨cb390, cb391, cb392, cb393, cb394⟩ := blk5 HK10.out.2.2.2.2.2.2.2.2.2.2.1;have fb39 := Ctx.frz HK10.out.2.2.2.2.2.2.2.2.2.2.1;obtain ⟨cb370, cb371, cb372, cb373, cb374, cb375, cb376, cb377, cb378, cb379⟩ := blk10 HK10.out.2.2.2.2.2.2.2.2.2.2.2.1;have fb37 := Ctx.frz HK10.out.2.2.2.2.2.2.2.2.2.2.2.1;obtain ⟨cg100, cg101, cg102, cg103, cg104⟩ := blk5 HK10.out.2.2.2.1;have nb39b37 := Ctx.ne HK10.out.2.2.2.2.2.2.2.2.2.2.1 HK10.out.2.2.2.2.2.2.2.2.2.2.2.1 (by decide);have ng10b37 := Ctx.ne HK10.out.2.2.2.1 HK10.out.2.2.2.2.2.2.2.2.2.2.2.1 (by decide);have ng10b39 := Ctx.ne' HK10.out.2.2.2.1 HK10.out.2.2.2.2.2.2.2.2.2.2.1 (by simp)
   go_region
   go_wp2_with fail
   have hz := Option.some.inj HH.out;subst hz
   have hk := (Ctx.drew HK10.out)
   simp only [← World.setCell_drew];exact rd_end hk.2.2.2.2.2.2.2.2.2.2.2.1 hk.2.2.2.2.2.2.2.2.2.2.1 hk.2.2.2.2.2.2.2.2.2.2.2.2.2.1 vnil vnil vnil vnil hk.2.2.2.2.2.2.1 hk.2.2.2.2.2.1 rfl rfl rfl rfl
  subst r2;have h1 := HO.out;unfold rpc_Read.odd at h1;rw [if_neg (by rw [r1]; decide), if_neg (by decide)] at h1;replace h1 := Option.bind_eq_some_iff.mp h1;obtain ⟨⟨t1, t2, t3, t4⟩, ht, h1⟩ := h1;replace h1 := Option.bind_eq_some_iff.mp h1;obtain ⟨b, hb, h1⟩ := h1;replace h1 := Option.some.inj h1;subst h1;clear HO;have HT := Sdq.mk ht;have HE := Sdq.mk hb;clear ht hb;clear cg50 cg51 cg52 cg53 cg110 cg111 cg112 cg113;have hS := Sdq.mk (show ∀ W, Below w9.heap.size w9 W → (W.cell? ⟨w1.heap.size, 0, none⟩ = some (.int .i64 p1) ∧ W.cell? ⟨w8.heap.size, 0, none⟩ = some (.int .i64 u1) ∧ W.cell? ⟨w8.heap.size, 1, none⟩ = some (.string u2) ∧ W.cell? ⟨w8.heap.size, 2, none⟩ = some (.slice Auk u3.length cuk) ∧ W.cell? ⟨w8.heap.size, 3, none⟩ = some (.slice Aul u4.length cul) ∧ Below w9.heap.size w9 W) from fun W h => ⟨Ctx.blk ((uBlk _ _ _).up _ _ HK9.out.2.2.2.2.2.2.2.1 h) 0 rfl, Ctx.blk ((uBlk _ _ _).up _ _ HK9.out.1 h) 0 rfl, Ctx.blk ((uBlk _ _ _).up _ _ HK9.out.1 h) 1 rfl, Ctx.blk ((uBlk _ _ _).up _ _ HK9.out.1 h) 2 rfl, Ctx.blk ((uBlk _ _ _).up _ _ HK9.out.1 h) 3 rfl, h⟩)
  go_region_held3 (fun W => W.cell? ⟨w1.heap.size, 0, none⟩ = some (.int .i64 p1) ∧ W.cell? ⟨w8.heap.size, 0, none⟩ = some (.int .i64 u1) ∧ W.cell? ⟨w8.heap.size, 1, none⟩ = some (.string u2) ∧ W.cell? ⟨w8.heap.size, 2, none⟩ = some (.slice Auk u3.length cuk) ∧ W.cell? ⟨w8.heap.size, 3, none⟩ = some (.slice Aul u4.length cul) ∧ Below w9.heap.size w9 W) (exact hS.out _ (by first | exact below_drew (Below.refl _ _) | assumption)) (first
   | (go_at_call 13; refine (json_Text.calls ⟨#[50, 46, 48]⟩ t1 t2 t3 t4 _ HT.out).mono ?_; rintro e W9 ⟨v2, v3, rfl, h2, h3, hB⟩; have hB9 := below_step (show Below w9.heap.size w9 _ from (by first | exact below_drew (Below.refl _ _) | assumption)) hB; obtain ⟨At, ct, rfl⟩ := Kd.R_slice h2; obtain ⟨As, cs, rfl⟩ := Kd.R_slice h3; have H2 := Sdq.mk h2; have H3 := Sdq.mk h3; clear h2 h3 hB)
   | (go_at_call 12; refine (eqT_calls u1 u2 (.slice Auk u3.length cuk) (.slice Aul u4.length cul) t1 t2 (.slice At t3.length ct) (.slice As t4.length cs) b _ HE.out).mono ?_; rintro e W10 ⟨rfl, hB⟩; have hB11 := below_step hB9 hB; clear hB))
  rcases Bool.eq_false_or_eq_true b with r3 | r3
  rotate_left
  ·subst r3
   have h1 := HH.out;rw [if_pos (by rfl)] at h1;clear HH;have HH := Sdq.mk h1;clear h1 HT HE hS
   go_upto_region 10 with fail
   refine absW _ (HK9.out.below hB11) ?_;clear HK9;intro w10 hk0;have HK10 := Sdq.mk hk0;clear hk0;obtain ⟨cb390, cb391, cb392, cb393, cb394⟩ := blk5 HK10.out.2.2.2.2.2.2.2.2.2.2.1;have fb39 := Ctx.frz HK10.out.2.2.2.2.2.2.2.2.2.2.1;obtain ⟨cb370, cb371, cb372, cb373, cb374, cb375, cb376, cb377, cb378, cb379⟩ := blk10 HK10.out.2.2.2.2.2.2.2.2.2.2.2.1;have fb37 := Ctx.frz HK10.out.2.2.2.2.2.2.2.2.2.2.2.1;obtain ⟨cg100, cg101, cg102, cg103, cg104⟩ := blk5 HK10.out.2.2.2.1;have nb39b37 := Ctx.ne HK10.out.2.2.2.2.2.2.2.2.2.2.1 HK10.out.2.2.2.2.2.2.2.2.2.2.2.1 (by decide);have ng10b37 := Ctx.ne HK10.out.2.2.2.1 HK10.out.2.2.2.2.2.2.2.2.2.2.2.1 (by decide);have ng10b39 := Ctx.ne' HK10.out.2.2.2.1 HK10.out.2.2.2.2.2.2.2.2.2.2.1 (by simp)
   go_region
   go_wp2_with fail
   have hz := Option.some.inj HH.out;subst hz
   have hk := (Ctx.drew HK10.out)
   simp only [← World.setCell_drew];exact rd_end hk.2.2.2.2.2.2.2.2.2.2.2.1 hk.2.2.2.2.2.2.2.2.2.2.1 hk.2.2.2.2.2.2.2.2.2.2.2.2.2.1 vnil vnil vnil vnil hk.2.2.2.2.2.2.1 hk.2.2.2.2.2.1 rfl rfl rfl rfl
  subst r3;have h1 := HH.out;rw [if_neg (by decide)] at h1;clear HH;unfold rpc_Read.method at h1;replace h1 := Option.bind_eq_some_iff.mp h1;obtain ⟨⟨m1, m2, m3, m4, mh⟩, hm, h1⟩ := h1;have HH := Sdq.mk h1;have HI := Sdq.mk hm;clear h1 hm HT HE hS
  go_upto_region 11 with fail
  refine absW _ (HK9.out.below hB11) ?_;clear HK9;intro w10 hk0;have HK10 := Sdq.mk hk0;clear hk0;clear hB9 hB11;obtain ⟨cg50, cg51, cg52, cg53⟩ := blk4 HK10.out.2.2.2.2.2.2.2.1
  go_wp2_with fail
  refine (json_Get.calls k p1 p2 A2 c2 p3 (fun k => w.heap.size + 2 ≤ k) A3 c3 p4 ⟨#[109, 101, 116, 104, 111, 100]⟩ m1 m2 m3 m4 mh _ (vC HK10.out.2.2.2.2.2.2.2.2.2.1) (vle HK10.out.2.2.2.2.2.2.2.2.2.1) HK10.out.2.2.2.2.2.2.2.2.1 HI.out).mono ?_;rintro e1 w11 ⟨v2, v3, rfl, h2, h3, hB⟩;obtain ⟨Amk, cmk, rfl⟩ := Kd.V_slice h2;obtain ⟨Aml, cml, rfl⟩ := Kd.V_slice h3;clear cg50 cg51 cg52 cg53;have hsz : w.heap.size + 2 ≤ w10.heap.size := blk_lt HK10.out.2.2.2.2.2.2.2.2.2.2.1;have HK11 := Sdq.mk (Ctx.cons (uV k27 27 (w.heap.size + 2) _ _) (vV h3 hsz) (Ctx.cons (uV Kd.string 9 (w.heap.size + 2) _ _) (vV h2 hsz) (HK10.out.below hB)));clear HK10 hB;clear h2 h3 hsz HI
  go_upto_region 12 with fail
  refine absW _ (Ctx.new (cs := [.int .i64 m1, .string m2, .slice Amk m3.length cmk, .slice Aml m4.length cml]) (t := 27) (HK11.out)) ?_;clear HK11;intro w12 hk0;have HK12 := Sdq.mk hk0;clear hk0
  rcases Bool.eq_false_or_eq_true mh with r4 | r4
  rotate_left
  ·subst r4
   have h1 := HH.out;rw [if_pos rfl] at h1;clear HH;have HH := Sdq.mk h1;clear h1
   first
    | (
     have h1 : rpc_Read.replies k p1 p2 p3 p4 i1 i2 i3 i4 true = some r := HH.out;clear HH;unfold rpc_Read.replies at h1;replace h1 := Option.bind_eq_some_iff.mp h1;obtain ⟨⟨x1, x2, x3, x4, xh⟩, hx, h1⟩ := h1;have HH := Sdq.mk h1;have HI := Sdq.mk hx;clear h1 hx;obtain ⟨cg50, cg51, cg52, cg53⟩ := blk4 HK12.out.2.2.2.2.2.2.2.2.2.2.1
     go_wp2_with fail
     refine (json_Get.calls k p1 p2 A2 c2 p3 (fun k => w.heap.size + 2 ≤ k) A3 c3 p4 ⟨#[114, 101, 115, 117, 108, 116]⟩ x1 x2 x3 x4 xh _ (vC HK12.out.2.2.2.2.2.2.2.2.2.2.2.2.1) (vle HK12.out.2.2.2.2.2.2.2.2.2.2.2.2.1) HK12.out.2.2.2.2.2.2.2.2.2.2.2.1 HI.out).mono ?_;rintro e1 w13 ⟨v2, v3, rfl, h2, h3, hB⟩;obtain ⟨Axk, cxk, rfl⟩ := Kd.V_slice h2;obtain ⟨Axl, cxl, rfl⟩ := Kd.V_slice h3;clear cg50 cg51 cg52 cg53;have hsz : w.heap.size + 2 ≤ w12.heap.size := blk_lt HK12.out.2.2.2.2.2.2.2.2.2.2.2.2.2.1;have HK13 := Sdq.mk (Ctx.cons (uV k27 27 (w.heap.size + 2) _ _) (vV h3 hsz) (Ctx.cons (uV Kd.string 9 (w.heap.size + 2) _ _) (vV h2 hsz) (HK12.out.below hB)));clear HK12 hB;clear h2 h3 hsz HI
     go_upto_region 14 with fail
     refine absW _ (Ctx.new (cs := [.int .i64 x1, .string x2, .slice Axk x3.length cxk, .slice Axl x4.length cxl]) (t := 27) (HK13.out)) ?_;clear HK13;intro w14 hk0;have HK14 := Sdq.mk hk0;clear hk0;cases xh
     ·have h1 := HH.out
      rw [if_neg (by decide)] at h1;clear HH;replace h1 := Option.bind_eq_some_iff.mp h1;obtain ⟨⟨y1, y2, y3, y4, yh⟩, hy, h1⟩ := h1;have HH := Sdq.mk h1;have HI := Sdq.mk hy;clear h1 hy
      go_upto_region 16 with fail
      refine absW _ (HK14.out) ?_;clear HK14;intro w15 hk0;have HK15 := Sdq.mk hk0;clear hk0;obtain ⟨cg50, cg51, cg52, cg53⟩ := blk4 HK15.out.2.2.2.2.2.2.2.2.2.2.2.2.2.1
      go_wp2_with fail
      refine (json_Get.calls k p1 p2 A2 c2 p3 (fun k => w.heap.size + 2 ≤ k) A3 c3 p4 ⟨#[101, 114, 114, 111, 114]⟩ y1 y2 y3 y4 yh _ (vC HK15.out.2.2.2.2.2.2.2.2.2.2.2.2.2.2.2.1) (vle HK15.out.2.2.2.2.2.2.2.2.2.2.2.2.2.2.2.1) HK15.out.2.2.2.2.2.2.2.2.2.2.2.2.2.2.1 HI.out).mono ?_;rintro e1 w16 ⟨v2, v3, rfl, h2, h3, hB⟩;obtain ⟨Ayk, cyk, rfl⟩ := Kd.V_slice h2;obtain ⟨Ayl, cyl, rfl⟩ := Kd.V_slice h3;clear cg50 cg51 cg52 cg53;have hsz : w.heap.size + 2 ≤ w15.heap.size := blk_lt HK15.out.2.2.2.2.2.2.2.2.2.2.2.2.2.2.2.2.1;have HK16 := Sdq.mk (Ctx.cons (uV k27 27 (w.heap.size + 2) _ _) (vV h3 hsz) (Ctx.cons (uV Kd.string 9 (w.heap.size + 2) _ _) (vV h2 hsz) (HK15.out.below hB)));clear HK15 hB;clear h2 h3 hsz HI
      go_upto_region 17 with fail
      refine absW _ (Ctx.new (cs := [.int .i64 y1, .string y2, .slice Ayk y3.length cyk, .slice Ayl y4.length cyl]) (t := 27) (HK16.out)) ?_;clear HK16;intro w17 hk0;have HK17 := Sdq.mk hk0;clear hk0;cases yh
      ·have h1 := HH.out
       rw [if_neg (by decide)] at h1;clear HH;have HH := Sdq.mk h1;clear h1
       go_upto_region 19 with fail
       refine absW _ (HK17.out) ?_;clear HK17;intro w18 hk0;have HK18 := Sdq.mk hk0;clear hk0;obtain ⟨cb390, cb391, cb392, cb393, cb394⟩ := blk5 HK18.out.2.2.2.2.2.2.2.2.2.2.2.2.2.2.2.2.2.2.2.1;have fb39 := Ctx.frz HK18.out.2.2.2.2.2.2.2.2.2.2.2.2.2.2.2.2.2.2.2.1;obtain ⟨cb370, cb371, cb372, cb373, cb374, cb375, cb376, cb377, cb378, cb379⟩ := blk10 HK18.out.2.2.2.2.2.2.2.2.2.2.2.2.2.2.2.2.2.2.2.2.1;have fb37 := Ctx.frz HK18.out.2.2.2.2.2.2.2.2.2.2.2.2.2.2.2.2.2.2.2.2.1;obtain ⟨cg100, cg101, cg102, cg103, cg104⟩ := blk5 HK18.out.2.2.2.2.2.2.2.2.2.2.2.2.1;have nb39b37 := Ctx.ne HK18.out.2.2.2.2.2.2.2.2.2.2.2.2.2.2.2.2.2.2.2.1 HK18.out.2.2.2.2.2.2.2.2.2.2.2.2.2.2.2.2.2.2.2.2.1 (by decide);have ng10b37 := Ctx.ne HK18.out.2.2.2.2.2.2.2.2.2.2.2.2.1 HK18.out.2.2.2.2.2.2.2.2.2.2.2.2.2.2.2.2.2.2.2.2.1 (by decide);have ng10b39 := Ctx.ne' HK18.out.2.2.2.2.2.2.2.2.2.2.2.2.1 HK18.out.2.2.2.2.2.2.2.2.2.2.2.2.2.2.2.2.2.2.2.1 (by simp)
       go_region
       go_wp2_with fail
       have hz := Option.some.inj HH.out;subst hz
       have hk := (Ctx.drew HK18.out)
       simp only [← World.setCell_drew];exact rd_end hk.2.2.2.2.2.2.2.2.2.2.2.2.2.2.2.2.2.2.2.2.1 hk.2.2.2.2.2.2.2.2.2.2.2.2.2.2.2.2.2.2.2.1 hk.2.2.2.2.2.2.2.2.2.2.2.2.2.2.2.2.2.2.2.2.2.2.1 vnil vnil vnil vnil hk.2.2.2.2.2.2.2.2.2.2.2.2.2.2.2.1 hk.2.2.2.2.2.2.2.2.2.2.2.2.2.2.1 rfl rfl rfl rfl
      ·have h1 := HH.out
       rw [if_pos (by decide)] at h1;clear HH;have HH := Sdq.mk h1;clear h1
       go_upto_region 18 with fail
       refine absW _ (HK17.out) ?_;clear HK17;intro w18 hk0;have HK18 := Sdq.mk hk0;clear hk0;obtain ⟨cb390, cb391, cb392, cb393, cb394⟩ := blk5 HK18.out.2.2.2.2.2.2.2.2.2.2.2.2.2.2.2.2.2.2.2.1;have fb39 := Ctx.frz HK18.out.2.2.2.2.2.2.2.2.2.2.2.2.2.2.2.2.2.2.2.1;obtain ⟨cb370, cb371, cb372, cb373, cb374, cb375, cb376, cb377, cb378, cb379⟩ := blk10 HK18.out.2.2.2.2.2.2.2.2.2.2.2.2.2.2.2.2.2.2.2.2.1;have fb37 := Ctx.frz HK18.out.2.2.2.2.2.2.2.2.2.2.2.2.2.2.2.2.2.2.2.2.1;have nb39b37 := Ctx.ne HK18.out.2.2.2.2.2.2.2.2.2.2.2.2.2.2.2.2.2.2.2.1 HK18.out.2.2.2.2.2.2.2.2.2.2.2.2.2.2.2.2.2.2.2.2.1 (by decide)
       go_wp2_with fail
       have hz := Option.some.inj HH.out;subst hz;exact rd_end HK18.out.2.2.2.2.2.2.2.2.2.2.2.2.2.2.2.2.2.2.2.2.1 HK18.out.2.2.2.2.2.2.2.2.2.2.2.2.2.2.2.2.2.2.2.1 HK18.out.2.2.2.2.2.2.2.2.2.2.2.2.2.2.2.2.2.2.2.2.2.2.1 vnil vnil vnil vnil vnil vnil rfl rfl rfl rfl
     ·have h1 := HH.out
      rw [if_pos (by decide)] at h1;clear HH;have HH := Sdq.mk h1;clear h1
      go_upto_region 15 with fail
      refine absW _ (HK14.out) ?_;clear HK14;intro w15 hk0;have HK15 := Sdq.mk hk0;clear hk0;obtain ⟨cb390, cb391, cb392, cb393, cb394⟩ := blk5 HK15.out.2.2.2.2.2.2.2.2.2.2.2.2.2.2.2.2.1;have fb39 := Ctx.frz HK15.out.2.2.2.2.2.2.2.2.2.2.2.2.2.2.2.2.1;obtain ⟨cb370, cb371, cb372, cb373, cb374, cb375, cb376, cb377, cb378, cb379⟩ := blk10 HK15.out.2.2.2.2.2.2.2.2.2.2.2.2.2.2.2.2.2.1;have fb37 := Ctx.frz HK15.out.2.2.2.2.2.2.2.2.2.2.2.2.2.2.2.2.2.1;have nb39b37 := Ctx.ne HK15.out.2.2.2.2.2.2.2.2.2.2.2.2.2.2.2.2.1 HK15.out.2.2.2.2.2.2.2.2.2.2.2.2.2.2.2.2.2.1 (by decide)
      go_wp2_with fail
      have hz := Option.some.inj HH.out;subst hz
      exact rd_end HK15.out.2.2.2.2.2.2.2.2.2.2.2.2.2.2.2.2.2.1 HK15.out.2.2.2.2.2.2.2.2.2.2.2.2.2.2.2.2.1 HK15.out.2.2.2.2.2.2.2.2.2.2.2.2.2.2.2.2.2.2.2.1 vnil vnil vnil vnil vnil vnil rfl rfl rfl rfl)
    | (
     have h1 : rpc_Read.replies k p1 p2 p3 p4 i1 i2 i3 i4 false = some r := HH.out;clear HH;unfold rpc_Read.replies at h1;replace h1 := Option.bind_eq_some_iff.mp h1;obtain ⟨⟨x1, x2, x3, x4, xh⟩, hx, h1⟩ := h1;have HH := Sdq.mk h1;have HI := Sdq.mk hx;clear h1 hx;obtain ⟨cg50, cg51, cg52, cg53⟩ := blk4 HK12.out.2.2.2.2.2.2.2.2.2.2.1
     go_wp2_with fail
     refine (json_Get.calls k p1 p2 A2 c2 p3 (fun k => w.heap.size + 2 ≤ k) A3 c3 p4 ⟨#[114, 101, 115, 117, 108, 116]⟩ x1 x2 x3 x4 xh _ (vC HK12.out.2.2.2.2.2.2.2.2.2.2.2.2.1) (vle HK12.out.2.2.2.2.2.2.2.2.2.2.2.2.1) HK12.out.2.2.2.2.2.2.2.2.2.2.2.1 HI.out).mono ?_;rintro e1 w13 ⟨v2, v3, rfl, h2, h3, hB⟩;obtain ⟨Axk, cxk, rfl⟩ := Kd.V_slice h2;obtain ⟨Axl, cxl, rfl⟩ := Kd.V_slice h3;clear cg50 cg51 cg52 cg53;have hsz : w.heap.size + 2 ≤ w12.heap.size := blk_lt HK12.out.2.2.2.2.2.2.2.2.2.2.2.2.2.1;have HK13 := Sdq.mk (Ctx.cons (uV k27 27 (w.heap.size + 2) _ _) (vV h3 hsz) (Ctx.cons (uV Kd.string 9 (w.heap.size + 2) _ _) (vV h2 hsz) (HK12.out.below hB)));clear HK12 hB;clear h2 h3 hsz HI
     go_upto_region 14 with fail
     refine absW _ (Ctx.new (cs := [.int .i64 x1, .string x2, .slice Axk x3.length cxk, .slice Axl x4.length cxl]) (t := 27) (HK13.out)) ?_;clear HK13;intro w14 hk0;have HK14 := Sdq.mk hk0;clear hk0;cases xh
     all_goals
      have h1 := HH.out;rw [if_neg (by decide)] at h1;clear HH;replace h1 := Option.bind_eq_some_iff.mp h1;obtain ⟨⟨y1, y2, y3, y4, yh⟩, hy, h1⟩ := h1;have HH := Sdq.mk h1;have HI := Sdq.mk hy;clear h1 hy
      go_upto_region 16 with fail
      refine absW _ (HK14.out) ?_;clear HK14;intro w15 hk0;have HK15 := Sdq.mk hk0;clear hk0;obtain ⟨cg50, cg51, cg52, cg53⟩ := blk4 HK15.out.2.2.2.2.2.2.2.2.2.2.2.2.2.1
      go_wp2_with fail
      refine (json_Get.calls k p1 p2 A2 c2 p3 (fun k => w.heap.size + 2 ≤ k) A3 c3 p4 ⟨#[101, 114, 114, 111, 114]⟩ y1 y2 y3 y4 yh _ (vC HK15.out.2.2.2.2.2.2.2.2.2.2.2.2.2.2.2.1) (vle HK15.out.2.2.2.2.2.2.2.2.2.2.2.2.2.2.2.1) HK15.out.2.2.2.2.2.2.2.2.2.2.2.2.2.2.1 HI.out).mono ?_;rintro e1 w16 ⟨v2, v3, rfl, h2, h3, hB⟩;obtain ⟨Ayk, cyk, rfl⟩ := Kd.V_slice h2;obtain ⟨Ayl, cyl, rfl⟩ := Kd.V_slice h3;clear cg50 cg51 cg52 cg53;have hsz : w.heap.size + 2 ≤ w15.heap.size := blk_lt HK15.out.2.2.2.2.2.2.2.2.2.2.2.2.2.2.2.2.1;have HK16 := Sdq.mk (Ctx.cons (uV k27 27 (w.heap.size + 2) _ _) (vV h3 hsz) (Ctx.cons (uV Kd.string 9 (w.heap.size + 2) _ _) (vV h2 hsz) (HK15.out.below hB)));clear HK15 hB;clear h2 h3 hsz HI
      go_upto_region 17 with fail
      refine absW _ (Ctx.new (cs := [.int .i64 y1, .string y2, .slice Ayk y3.length cyk, .slice Ayl y4.length cyl]) (t := 27) (HK16.out)) ?_;clear HK16;intro w17 hk0;have HK17 := Sdq.mk hk0;clear hk0;cases yh
      all_goals
       have h1 := HH.out;rw [if_neg (by decide)] at h1;clear HH;have HH := Sdq.mk h1;clear h1
       go_upto_region 19 with fail
       refine absW _ (HK17.out) ?_;clear HK17;intro w18 hk0;have HK18 := Sdq.mk hk0;clear hk0;obtain ⟨cb390, cb391, cb392, cb393, cb394⟩ := blk5 HK18.out.2.2.2.2.2.2.2.2.2.2.2.2.2.2.2.2.2.2.2.1;have fb39 := Ctx.frz HK18.out.2.2.2.2.2.2.2.2.2.2.2.2.2.2.2.2.2.2.2.1;obtain ⟨cb370, cb371, cb372, cb373, cb374, cb375, cb376, cb377, cb378, cb379⟩ := blk10 HK18.out.2.2.2.2.2.2.2.2.2.2.2.2.2.2.2.2.2.2.2.2.1;have fb37 := Ctx.frz HK18.out.2.2.2.2.2.2.2.2.2.2.2.2.2.2.2.2.2.2.2.2.1;obtain ⟨cg100, cg101, cg102, cg103, cg104⟩ := blk5 HK18.out.2.2.2.2.2.2.2.2.2.2.2.2.1;have nb39b37 := Ctx.ne HK18.out.2.2.2.2.2.2.2.2.2.2.2.2.2.2.2.2.2.2.2.1 HK18.out.2.2.2.2.2.2.2.2.2.2.2.2.2.2.2.2.2.2.2.2.1 (by decide);have ng10b37 := Ctx.ne HK18.out.2.2.2.2.2.2.2.2.2.2.2.2.1 HK18.out.2.2.2.2.2.2.2.2.2.2.2.2.2.2.2.2.2.2.2.2.1 (by decide);have ng10b39 := Ctx.ne' HK18.out.2.2.2.2.2.2.2.2.2.2.2.2.1 HK18.out.2.2.2.2.2.2.2.2.2.2.2.2.2.2.2.2.2.2.2.1 (by simp)
       go_region
       go_wp2_with fail
       have hz := Option.some.inj HH.out;subst hz
       have hk := (Ctx.drew HK18.out)
       simp only [← World.setCell_drew]
       exact rd_end hk.2.2.2.2.2.2.2.2.2.2.2.2.2.2.2.2.2.2.2.2.1 hk.2.2.2.2.2.2.2.2.2.2.2.2.2.2.2.2.2.2.2.1 hk.2.2.2.2.2.2.2.2.2.2.2.2.2.2.2.2.2.2.2.2.2.2.1 vnil vnil vnil vnil hk.2.2.2.2.2.2.2.2.2.2.2.2.2.2.2.1 hk.2.2.2.2.2.2.2.2.2.2.2.2.2.2.1 rfl rfl rfl rfl)
  subst r4;have h1 := HH.out;rw [if_neg (by decide)] at h1;clear HH;have HH := Sdq.mk h1;clear h1;by_cases r5 : (m1 != 4) = true
  ·have h1 := HH.out
   rw [if_pos r5] at h1;clear HH;have HH := Sdq.mk h1;clear h1;obtain ⟨cg130, cg131, cg132, cg133⟩ := blk4 HK12.out.1
   go_upto_region 21 with fail
   clear cg130 cg131 cg132 cg133;refine absW _ (HK12.out) ?_;clear HK12;intro w13 hk0;have HK13 := Sdq.mk hk0;clear hk0;obtain ⟨cb390, cb391, cb392, cb393, cb394⟩ := blk5 HK13.out.2.2.2.2.2.2.2.2.2.2.2.2.2.1;have fb39 := Ctx.frz HK13.out.2.2.2.2.2.2.2.2.2.2.2.2.2.1;obtain ⟨cb370, cb371, cb372, cb373, cb374, cb375, cb376, cb377, cb378, cb379⟩ := blk10 HK13.out.2.2.2.2.2.2.2.2.2.2.2.2.2.2.1;have fb37 := Ctx.frz HK13.out.2.2.2.2.2.2.2.2.2.2.2.2.2.2.1;obtain ⟨cg100, cg101, cg102, cg103, cg104⟩ := blk5 HK13.out.2.2.2.2.2.2.1;have nb39b37 := Ctx.ne HK13.out.2.2.2.2.2.2.2.2.2.2.2.2.2.1 HK13.out.2.2.2.2.2.2.2.2.2.2.2.2.2.2.1 (by decide);have ng10b37 := Ctx.ne HK13.out.2.2.2.2.2.2.1 HK13.out.2.2.2.2.2.2.2.2.2.2.2.2.2.2.1 (by decide);have ng10b39 := Ctx.ne' HK13.out.2.2.2.2.2.2.1 HK13.out.2.2.2.2.2.2.2.2.2.2.2.2.2.1 (by simp)
   go_region
   go_wp2_with fail
   have hz := Option.some.inj HH.out;subst hz
   have hk := (Ctx.drew HK13.out)
   simp only [← World.setCell_drew];exact rd_end hk.2.2.2.2.2.2.2.2.2.2.2.2.2.2.1 hk.2.2.2.2.2.2.2.2.2.2.2.2.2.1 hk.2.2.2.2.2.2.2.2.2.2.2.2.2.2.2.2.1 vnil vnil vnil vnil hk.2.2.2.2.2.2.2.2.2.1 hk.2.2.2.2.2.2.2.2.1 rfl rfl rfl rfl
  have h1 := HH.out;rw [if_neg r5] at h1;clear HH;replace r5 := Bool.eq_false_iff.mpr r5;unfold rpc_Read.params at h1;replace h1 := Option.bind_eq_some_iff.mp h1;obtain ⟨⟨z1, z2, z3, z4, zh⟩, hz, h1⟩ := h1;have HH := Sdq.mk h1;have HI := Sdq.mk hz;clear h1 hz;obtain ⟨cg130, cg131, cg132, cg133⟩ := blk4 HK12.out.1
  go_upto_region 22 with fail
  clear cg130 cg131 cg132 cg133;refine absW _ (HK12.out) ?_;clear HK12;intro w13 hk0;have HK13 := Sdq.mk hk0;clear hk0;obtain ⟨cg50, cg51, cg52, cg53⟩ := blk4 HK13.out.2.2.2.2.2.2.2.2.2.2.1
  go_wp2_with fail
  refine (json_Get.calls k p1 p2 A2 c2 p3 (fun k => w.heap.size + 2 ≤ k) A3 c3 p4 ⟨#[112, 97, 114, 97, 109, 115]⟩ z1 z2 z3 z4 zh _ (vC HK13.out.2.2.2.2.2.2.2.2.2.2.2.2.1) (vle HK13.out.2.2.2.2.2.2.2.2.2.2.2.2.1) HK13.out.2.2.2.2.2.2.2.2.2.2.2.1 HI.out).mono ?_;rintro e1 w14 ⟨v2, v3, rfl, h2, h3, hB⟩;obtain ⟨Azk, czk, rfl⟩ := Kd.V_slice h2;obtain ⟨Azl, czl, rfl⟩ := Kd.V_slice h3;clear cg50 cg51 cg52 cg53;have hsz : w.heap.size + 2 ≤ w13.heap.size := blk_lt HK13.out.2.2.2.2.2.2.2.2.2.2.2.2.2.1;have HK14 := Sdq.mk (Ctx.cons (uV k27 27 (w.heap.size + 2) _ _) (vV h3 hsz) (Ctx.cons (uV Kd.string 9 (w.heap.size + 2) _ _) (vV h2 hsz) (HK13.out.below hB)));clear HK13 hB;clear h2 h3 hsz HI
  go_upto_region 23 with fail
  refine absW _ (Ctx.new (cs := [.int .i64 z1, .string z2, .slice Azk z3.length czk, .slice Azl z4.length czl]) (t := 27) (HK14.out)) ?_;clear HK14;intro w15 hk0;have HK15 := Sdq.mk hk0;clear hk0;by_cases r6 : (zh && (z1 != 6 && z1 != 5)) = true
  ·have h1 := HH.out
   rw [if_pos r6] at h1;clear HH;have HH := Sdq.mk h1;clear h1;rw [Bool.and_eq_true, Bool.and_eq_true] at r6;obtain ⟨rfl, r7, r8⟩ := r6;obtain ⟨cg180, cg181, cg182, cg183⟩ := blk4 HK15.out.1
   go_upto_region 24 with fail
   clear cg180 cg181 cg182 cg183;refine absW _ (HK15.out) ?_;clear HK15;intro w16 hk0;have HK16 := Sdq.mk hk0;clear hk0;obtain ⟨cb390, cb391, cb392, cb393, cb394⟩ := blk5 HK16.out.2.2.2.2.2.2.2.2.2.2.2.2.2.2.2.2.1;have fb39 := Ctx.frz HK16.out.2.2.2.2.2.2.2.2.2.2.2.2.2.2.2.2.1;obtain ⟨cb370, cb371, cb372, cb373, cb374, cb375, cb376, cb377, cb378, cb379⟩ := blk10 HK16.out.2.2.2.2.2.2.2.2.2.2.2.2.2.2.2.2.2.1;have fb37 := Ctx.frz HK16.out.2.2.2.2.2.2.2.2.2.2.2.2.2.2.2.2.2.1;obtain ⟨cg100, cg101, cg102, cg103, cg104⟩ := blk5 HK16.out.2.2.2.2.2.2.2.2.2.1;have nb39b37 := Ctx.ne HK16.out.2.2.2.2.2.2.2.2.2.2.2.2.2.2.2.2.1 HK16.out.2.2.2.2.2.2.2.2.2.2.2.2.2.2.2.2.2.1 (by decide);have ng10b37 := Ctx.ne HK16.out.2.2.2.2.2.2.2.2.2.1 HK16.out.2.2.2.2.2.2.2.2.2.2.2.2.2.2.2.2.2.1 (by decide);have ng10b39 := Ctx.ne' HK16.out.2.2.2.2.2.2.2.2.2.1 HK16.out.2.2.2.2.2.2.2.2.2.2.2.2.2.2.2.2.1 (by simp)
   go_region
   go_wp2_with fail
   have hz := Option.some.inj HH.out;subst hz
   have hk := (Ctx.drew HK16.out)
   simp only [← World.setCell_drew];exact rd_end hk.2.2.2.2.2.2.2.2.2.2.2.2.2.2.2.2.2.1 hk.2.2.2.2.2.2.2.2.2.2.2.2.2.2.2.2.1 hk.2.2.2.2.2.2.2.2.2.2.2.2.2.2.2.2.2.2.2.1 vnil vnil vnil vnil hk.2.2.2.2.2.2.2.2.2.2.2.2.1 hk.2.2.2.2.2.2.2.2.2.2.2.1 rfl rfl rfl rfl
  have h1 := HH.out;rw [if_neg r6] at h1;clear HH;have HH := Sdq.mk h1;clear h1
  rcases (show zh = false ∨ (zh = true ∧ (z1 != 6) = false) ∨ (zh = true ∧ (z1 != 6) = true ∧ (z1 != 5) = false) from by revert r6; cases zh <;> cases (z1 != 6) <;> cases (z1 != 5) <;> simp) with r7 | ⟨r7, r8⟩ | ⟨r7, r8, r9⟩
  all_goals
   clear r6;subst r7;obtain ⟨cg180, cg181, cg182, cg183⟩ := blk4 HK15.out.1
   go_upto_region 25 with fail
   clear cg180 cg181 cg182 cg183;refine absW _ (HK15.out) ?_;clear HK15;intro w16 hk0;have HK16 := Sdq.mk hk0;clear hk0;obtain ⟨cg180, cg181, cg182, cg183⟩ := blk4 HK16.out.1;obtain ⟨cg130, cg131, cg132, cg133⟩ := blk4 HK16.out.2.2.2.1;obtain ⟨cg80, cg81, cg82, cg83⟩ := blk4 HK16.out.2.2.2.2.2.2.2.2.2.2.1;obtain ⟨cb390, cb391, cb392, cb393, cb394⟩ := blk5 HK16.out.2.2.2.2.2.2.2.2.2.2.2.2.2.2.2.2.1;have fb39 := Ctx.frz HK16.out.2.2.2.2.2.2.2.2.2.2.2.2.2.2.2.2.1;obtain ⟨cb370, cb371, cb372, cb373, cb374, cb375, cb376, cb377, cb378, cb379⟩ := blk10 HK16.out.2.2.2.2.2.2.2.2.2.2.2.2.2.2.2.2.2.1;have fb37 := Ctx.frz HK16.out.2.2.2.2.2.2.2.2.2.2.2.2.2.2.2.2.2.1;have nb39b37 := Ctx.ne HK16.out.2.2.2.2.2.2.2.2.2.2.2.2.2.2.2.2.1 HK16.out.2.2.2.2.2.2.2.2.2.2.2.2.2.2.2.2.2.1 (by decide);have ng8b37 := Ctx.ne HK16.out.2.2.2.2.2.2.2.2.2.2.1 HK16.out.2.2.2.2.2.2.2.2.2.2.2.2.2.2.2.2.2.1 (by decide);have ng8b39 := Ctx.ne HK16.out.2.2.2.2.2.2.2.2.2.2.1 HK16.out.2.2.2.2.2.2.2.2.2.2.2.2.2.2.2.2.1 (by decide);have ng13b37 := Ctx.ne HK16.out.2.2.2.1 HK16.out.2.2.2.2.2.2.2.2.2.2.2.2.2.2.2.2.2.1 (by decide);have ng13b39 := Ctx.ne HK16.out.2.2.2.1 HK16.out.2.2.2.2.2.2.2.2.2.2.2.2.2.2.2.2.1 (by decide);have ng18b37 := Ctx.ne HK16.out.1 HK16.out.2.2.2.2.2.2.2.2.2.2.2.2.2.2.2.2.2.1 (by decide);have ng18b39 := Ctx.ne HK16.out.1 HK16.out.2.2.2.2.2.2.2.2.2.2.2.2.2.2.2.2.1 (by decide)
   go_wp2_with fail
   clear cg180 cg181 cg182 cg183 cg130 cg131 cg132 cg133 cg80 cg81 cg82 cg83 cb390 cb391 cb392 cb393 cb394 fb39 cb370 cb371 cb372 cb373 cb374 cb375 cb376 cb377 cb378 cb379 fb37 ng8b37 ng8b39 ng13b37 ng13b39 ng18b37 ng18b39
   first
    | (
     have hz := Option.some.inj HH.out;subst hz
     exact rd_end HK16.out.2.2.2.2.2.2.2.2.2.2.2.2.2.2.2.2.2.1 HK16.out.2.2.2.2.2.2.2.2.2.2.2.2.2.2.2.2.1 HK16.out.2.2.2.2.2.2.2.2.2.2.2.2.2.2.2.2.2.2.2.1 HK16.out.2.2.2.2.2.2.2.2.2.2.2.2.1 HK16.out.2.2.2.2.2.2.2.2.2.2.2.1 HK16.out.2.2.1 HK16.out.2.1 vnil vnil rfl rfl rfl rfl)
    | (
     have hz := Option.some.inj HH.out;subst hz
     exact rd_end HK16.out.2.2.2.2.2.2.2.2.2.2.2.2.2.2.2.2.2.1 HK16.out.2.2.2.2.2.2.2.2.2.2.2.2.2.2.2.2.1 HK16.out.2.2.2.2.2.2.2.2.2.2.2.2.2.2.2.2.2.2.2.1 HK16.out.2.2.2.2.2.2.2.2.2.2.2.2.1 HK16.out.2.2.2.2.2.2.2.2.2.2.2.1 HK16.out.2.2.1 HK16.out.2.1 vnil vnil rfl rfl rfl rfl)
end Go.Proofs.YteighppcdpaekaaDoor.P
end
section
namespace Go.Proofs.YteighppcdpaekaaDoor.P
open Go.RowKit Go.Proofs.YteighppcdpaekaaDoorW.PrintWords Go.Proofs.YteighppcdpaekaaDoorW.PrintLast Go.Proofs.YteighppcdpaekaaDoorW.PrintMore
theorem lit_Cb (w : World) (e : TypeId) (xs : List Int) (z : Nat × Nat) (hxl : xs.length ≤ 1000) : Kd.C (Kd.int .u8) (w.alloc (.cells (xs.map (Value.int .u8)).toArray e z)) (some ⟨w.heap.size, 0, none⟩) xs.length xs := by
 have hb := blk_new w (.cells (xs.map (Value.int .u8)).toArray e z);refine Kd.C_of_reads (enc := Value.int .u8) (d := (0 : Int)) (h1 := fun _ => rfl) ⟨rfl, by omega, fun hn => ⟨_, rfl, fun j hj => ?_⟩⟩
 have ha : (⟨w.heap.size, 0, none⟩ : Addr).add j = ⟨w.heap.size, j, none⟩ := by
  unfold Addr.add
  split
  ·rename_i h0; rw [h0]
  ·simp
 rw [ha];simp only [World.cell?, hb]
 simp [List.getD_eq_getElem?_getD, List.getElem?_eq_getElem hj]
theorem rd_one : rpc_Read.f 60 [123, 34, 106, 115, 111, 110, 114, 112, 99, 34, 58, 34, 50, 46, 48, 34, 44, 34, 105, 100, 34, 58, 49, 44, 34, 109, 101, 116, 104, 111, 100, 34, 58, 34, 109, 34, 125] = some (true, 3, ⟨#[49]⟩, [], [], ⟨#[109]⟩, 0, ⟨#[]⟩, [], [], 0, 0, ⟨#[]⟩, [], [], true) := by kernel_rfl
theorem rd_two : rpc_Read.f 20 [91, 49, 93] = some (false, 0, ⟨#[]⟩, [], [], ⟨#[]⟩, 0, ⟨#[]⟩, [], [], -32600, 0, ⟨#[]⟩, [], [], false) := by kernel_rfl
def L6q_called.f : Option Bool := some true
set_option maxHeartbeats 1600000 in
set_option maxRecDepth 100000 in
theorem L6q_called.calls (r : Bool) (w : World) (h : L6q_called.f = some r) (hT : TabOk w) :
  Calls Tryd.prog 14 #[] w fun e w' => e = .returned (.bool r) ∧ Below w.heap.size w w' := by
 obtain rfl : true = r := Option.some.inj h
 have kc := fun (w : World) (C : Array Value) (n c : Nat) => Lib.run_convert_bytes_const (P := Tryd.prog) w 35 5 C n c Tryd.underlying35 Tryd.underlying5
 have HK0 := Sdq.mk (show Ctx [uTab, uB w] w from ⟨hT, Below.refl _ _, trivial⟩);clear hT;go_enter Tryd.func14, Tryd.ntmps14
 go_wp2_with fail
 refine (rpc_Read.calls0 60 _ _ [123, 34, 106, 115, 111, 110, 114, 112, 99, 34, 58, 34, 50, 46, 48, 34, 44, 34, 105, 100, 34, 58, 49, 44, 34, 109, 101, 116, 104, 111, 100, 34, 58, 34, 109, 34, 125] _ _ (lit_Cb w 5 [123, 34, 106, 115, 111, 110, 114, 112, 99, 34, 58, 34, 50, 46, 48, 34, 44, 34, 105, 100, 34, 58, 49, 44, 34, 109, 101, 116, 104, 111, 100, 34, 58, 34, 109, 34, 125] (37, 38) (by decide)) (by decide) rd_one (HK0.out.alloc _).1).mono ?_;rintro e1 w1 ⟨v3, v4, v8, v9, v13, v14, rfl, h3, h4, h8, h9, h13, h14, hB⟩;obtain ⟨A3, c3, rfl⟩ := Kd.V_slice h3;obtain ⟨A4, c4, rfl⟩ := Kd.V_slice h4;obtain ⟨A8, c8, rfl⟩ := Kd.V_slice h8;obtain ⟨A9, c9, rfl⟩ := Kd.V_slice h9;obtain ⟨A13, c13, rfl⟩ := Kd.V_slice h13;obtain ⟨A14, c14, rfl⟩ := Kd.V_slice h14;have HK1 := Sdq.mk ((HK0.out.alloc _).below hB);clear HK0 hB h3 h4 h8 h9 h13 h14
 go_upto_region 2 with fail
 have HK2 := Sdq.mk (Ctx.new (cs := [.int .i64 0, .int .i64 0, .string ⟨#[]⟩, .slice A13 0 c13, .slice A14 0 c14]) (t := 39) (Ctx.new (cs := [.bool true, .int .i64 3, .string ⟨#[49]⟩, .slice A3 0 c3, .slice A4 0 c4, .string ⟨#[109]⟩, .int .i64 0, .string ⟨#[]⟩, .slice A8 0 c8, .slice A9 0 c9]) (t := 37) HK1.out));clear HK1;refine absW _ HK2.out ?_;clear HK2;intro w2 hk;have HK2 := Sdq.mk hk;clear hk
 go_wp2_with fail
 refine (rpc_Read.calls0 20 _ _ [91, 49, 93] _ _ (lit_Cb w2 5 [91, 49, 93] (3, 4) (by decide)) (by decide) rd_two (HK2.out.alloc _).2.2.1).mono ?_;rintro e1 w3 ⟨v3, v4, v8, v9, v13, v14, rfl, h3, h4, h8, h9, h13, h14, hB⟩;obtain ⟨B3, d3, rfl⟩ := Kd.V_slice h3;obtain ⟨B4, d4, rfl⟩ := Kd.V_slice h4;obtain ⟨B8, d8, rfl⟩ := Kd.V_slice h8;obtain ⟨B9, d9, rfl⟩ := Kd.V_slice h9;obtain ⟨B13, d13, rfl⟩ := Kd.V_slice h13;obtain ⟨B14, d14, rfl⟩ := Kd.V_slice h14;have HK3 := Sdq.mk ((HK2.out.alloc _).below hB);clear HK2 hB h3 h4 h8 h9 h13 h14
 go_upto_region 3 with fail
 have HK4 := Sdq.mk (Ctx.new (cs := [.int .i64 (-32600), .int .i64 0, .string ⟨#[]⟩, .slice B13 0 d13, .slice B14 0 d14]) (t := 39) (Ctx.new (cs := [.bool false, .int .i64 0, .string ⟨#[]⟩, .slice B3 0 d3, .slice B4 0 d4, .string ⟨#[]⟩, .int .i64 0, .string ⟨#[]⟩, .slice B8 0 d8, .slice B9 0 d9]) (t := 37) HK3.out));clear HK3;refine absW _ HK4.out ?_;clear HK4;simp only [World.size_alloc];intro w4 hk;have HK4 := Sdq.mk hk;clear hk;obtain ⟨c0, c1, c2', c3', c4'⟩ := blk5 HK4.out.1;obtain ⟨d0, d1, d2, -, -, d5, d6, d7, -, -⟩ := blk10 HK4.out.2.2.2.1
 go_wp2_with fail
 go_ret;exact ⟨rfl, HK4.out.2.2.2.2.2.1⟩
end Go.Proofs.YteighppcdpaekaaDoor.P
end
section
namespace Go.Proofs.YteighppcdpaekaaDoor.P
open Go.RowKit Go.Proofs.YteighppcdpaekaaDoor.Rf Go.Proofs.YteighppcdpaekaaDoorW.PrintWords Go.Proofs.YteighppcdpaekaaDoorW.PrintLast Go.Proofs.YteighppcdpaekaaDoorW.PrintMore
set_option linter.unusedVariables false
set_option linter.unusedSimpArgs false
theorem rowsK {ok : Nat → Prop} {w w' : World} {v2 v3 : Value} {s : S44} {A B : Nat → Prop} (h2 : Kd.R Kd.string 9 w' w.heap.size A v2 s.f2) (h3 : Kd.R k44 44 w' w.heap.size B v3 s.f3) (hok : ∀ k, w.heap.size ≤ k → ok k) : Kv k44 ok w' (.agg #[.int .i64 s.f0, .string s.f1, v2, v3]) s := by
 replace h2 := Kd.V_mono (ok' := ok) (Kd.R_V (base' := 0) (Kd.R_bound h2)) (fun k hk => hok k hk.2.1);replace h3 := Kd.V_mono (ok' := ok) (Kd.R_V (base' := 0) (Kd.R_bound h3)) (fun k hk => hok k hk.2.1);obtain ⟨A2, c2, rfl⟩ := Kd.V_slice h2;obtain ⟨A3, c3, rfl⟩ := Kd.V_slice h3;exact Kv.mk44 s (Kd.V_reads' h2).2.1 (Kd.V_F h2) (Kd.V_reads' h3).2.1 (Kd.V_F h3)
theorem tab7_1 : tabOf (opsOf Tryd.f7 1) = ([some 16, some 17, some 18, some 19, some 20, some 21, some 22, some 23, some 3, some 4, some 5, some 6], [[], [0], [], [2], [], [4], [], [6], [1, 0, 1], [3, 8, 0, 1, 2, 3, 8], [5, 9, 0, 1, 2, 3, 4, 5, 8, 9], [7, 10, 0, 1, 2, 3, 4, 5, 6, 7, 8, 9, 10]]) := by kernel_rfl
set_option maxRecDepth 100000 in
set_option maxHeartbeats 6400000 in
theorem makes_long (i : List Int) (A : Option Addr) (c : Nat) (j : List Int) (B : Option Addr) (d : Nat) (m : ByteArray) (n : Int) (w0 : World) (hT : TabOk w0) (h : 500 < i.length ∨ 500 < j.length) : Calls Tryd.prog 7 #[.agg #[.slice A i.length c, .slice B j.length d, .string m, .int .i64 n]] w0 (fun e w' => e = .returned (.bool true) ∧ Below w0.heap.size w0 w') := by
 have C0 : Ctx [uBlk w0.heap.size [.slice A i.length c, .slice B j.length d, .string m, .int .i64 n] 75, uB w0, uTab] (w0.alloc (.cells #[.slice A i.length c, .slice B j.length d, .string m, .int .i64 n] 75 (0, 0))) := Ctx.new (cs := [.slice A i.length c, .slice B j.length d, .string m, .int .i64 n]) (t := 75) (Ctx.cons (uB w0) (Below.refl _ _) (Ctx.cons uTab hT Ctx.nil));clear hT;go_enter Tryd.func7, Tryd.ntmps7
 go_upto_region 1 with fail
 refine absW _ C0 ?_;clear C0;intro w1 C;refine flowT (n := 12) tab7_1 rfl (Ctx _) (Rl [uEq (.pointer (some ⟨w0.heap.size, 0, none⟩)), uEq (.slice A i.length c), uEq (.pointer (some ⟨w0.heap.size, 1, none⟩)), uEq (.slice B j.length d), uEq (.pointer (some ⟨w0.heap.size, 2, none⟩)), uEq (.string m), uEq (.pointer (some ⟨w0.heap.size, 3, none⟩)), uEq (.int .i64 n), uEq (.slice A i.length c), uEq (.slice B j.length d), uEq (.string m), uEq (.int .i64 n)]) rfl (by kernel_rfl) (fun _ _ h hb => h.below hb) (Rl.up _) C ⟨⟨⟨⟨⟨⟨⟨⟨⟨⟨⟨⟨trivial, ?_⟩, ?_⟩, ?_⟩, ?_⟩, ?_⟩, ?_⟩, ?_⟩, ?_⟩, ?_⟩, ?_⟩, ?_⟩, ?_⟩ ?_
 ·refine At.of _ rfl (fun e a w hC hd hb K hK => ?_)
  have b1 : a.tmps[1]? = some (.pointer (some ⟨w0.heap.size, 0, none⟩)) := hb 1 (by decide);refine value_ (w1 := w) (v := .pointer (some ⟨w0.heap.size, 0, none⟩)) (by rfl) rfl ?_ (hK.out _ _ (Below.refl _ _) rfl);clear hC hd hb hK
  first | (go_simp; done) | (go_simp; rfl)
 ·refine At.of _ rfl (fun e a w hC hd hb K hK => ?_)
  have q0 := (hd 0 (by decide)).2 16 rfl;rw [show e 0 = _ from (hd 0 (by decide)).1] at q0;have cx : w.cell? ⟨w0.heap.size, 0, none⟩ = some (.slice A i.length c) := Ctx.blk hC.1 0 rfl;refine value_ (w1 := w) (v := .slice A i.length c) (by rfl) rfl ?_ (hK.out _ _ (Below.refl _ _) rfl);clear hC hd hb hK
  first | (go_simp; done) | (go_simp; rfl)
 ·refine At.of _ rfl (fun e a w hC hd hb K hK => ?_)
  have b1 : a.tmps[1]? = some (.pointer (some ⟨w0.heap.size, 0, none⟩)) := hb 1 (by decide);refine value_ (w1 := w) (v := .pointer (some ⟨w0.heap.size, 1, none⟩)) (by rfl) rfl ?_ (hK.out _ _ (Below.refl _ _) rfl);clear hC hd hb hK
  first | (go_simp; done) | (go_simp; rfl)
 ·refine At.of _ rfl (fun e a w hC hd hb K hK => ?_)
  have q2 := (hd 2 (by decide)).2 18 rfl;rw [show e 2 = _ from (hd 2 (by decide)).1] at q2;have cx : w.cell? ⟨w0.heap.size, 1, none⟩ = some (.slice B j.length d) := Ctx.blk hC.1 1 rfl;refine value_ (w1 := w) (v := .slice B j.length d) (by rfl) rfl ?_ (hK.out _ _ (Below.refl _ _) rfl);clear hC hd hb hK
  first | (go_simp; done) | (go_simp; rfl)
 ·refine At.of _ rfl (fun e a w hC hd hb K hK => ?_)
  have b1 : a.tmps[1]? = some (.pointer (some ⟨w0.heap.size, 0, none⟩)) := hb 1 (by decide);refine value_ (w1 := w) (v := .pointer (some ⟨w0.heap.size, 2, none⟩)) (by rfl) rfl ?_ (hK.out _ _ (Below.refl _ _) rfl);clear hC hd hb hK
  first | (go_simp; done) | (go_simp; rfl)
 ·refine At.of _ rfl (fun e a w hC hd hb K hK => ?_)
  have q4 := (hd 4 (by decide)).2 20 rfl;rw [show e 4 = _ from (hd 4 (by decide)).1] at q4;have cx : w.cell? ⟨w0.heap.size, 2, none⟩ = some (.string m) := Ctx.blk hC.1 2 rfl;refine value_ (w1 := w) (v := .string m) (by rfl) rfl ?_ (hK.out _ _ (Below.refl _ _) rfl);clear hC hd hb hK
  first | (go_simp; done) | (go_simp; rfl)
 ·refine At.of _ rfl (fun e a w hC hd hb K hK => ?_)
  have b1 : a.tmps[1]? = some (.pointer (some ⟨w0.heap.size, 0, none⟩)) := hb 1 (by decide);refine value_ (w1 := w) (v := .pointer (some ⟨w0.heap.size, 3, none⟩)) (by rfl) rfl ?_ (hK.out _ _ (Below.refl _ _) rfl);clear hC hd hb hK
  first | (go_simp; done) | (go_simp; rfl)
 ·refine At.of _ rfl (fun e a w hC hd hb K hK => ?_)
  have q6 := (hd 6 (by decide)).2 22 rfl;rw [show e 6 = _ from (hd 6 (by decide)).1] at q6;have cx : w.cell? ⟨w0.heap.size, 3, none⟩ = some (.int .i64 n) := Ctx.blk hC.1 3 rfl;refine value_ (w1 := w) (v := .int .i64 n) (by rfl) rfl ?_ (hK.out _ _ (Below.refl _ _) rfl);clear hC hd hb hK
  first | (go_simp; done) | (go_simp; rfl)
 ·refine At.of _ rfl (fun e a w hC hd hb K hK => ?_)
  have q1 := (hd 1 (by decide)).2 17 rfl;rw [show e 1 = _ from (hd 1 (by decide)).1] at q1;refine value_ (w1 := w) (v := .slice A i.length c) (by rfl) rfl ?_ (hK.out _ _ (Below.refl _ _) rfl);clear hC hd hb hK
  first | (go_simp; done) | (go_simp; rfl)
 ·refine At.of _ rfl (fun e a w hC hd hb K hK => ?_)
  have q3 := (hd 3 (by decide)).2 19 rfl;rw [show e 3 = _ from (hd 3 (by decide)).1] at q3;refine value_ (w1 := w) (v := .slice B j.length d) (by rfl) rfl ?_ (hK.out _ _ (Below.refl _ _) rfl);clear hC hd hb hK
  first | (go_simp; done) | (go_simp; rfl)
 ·refine At.of _ rfl (fun e a w hC hd hb K hK => ?_)
  have q5 := (hd 5 (by decide)).2 21 rfl;rw [show e 5 = _ from (hd 5 (by decide)).1] at q5;refine value_ (w1 := w) (v := .string m) (by rfl) rfl ?_ (hK.out _ _ (Below.refl _ _) rfl);clear hC hd hb hK
  first | (go_simp; done) | (go_simp; rfl)
 ·refine At.of _ rfl (fun e a w hC hd hb K hK => ?_)
  have q7 := (hd 7 (by decide)).2 23 rfl;rw [show e 7 = _ from (hd 7 (by decide)).1] at q7;refine value_ (w1 := w) (v := .int .i64 n) (by rfl) rfl ?_ (hK.out _ _ (Below.refl _ _) rfl);clear hC hd hb hK
  first | (go_simp; done) | (go_simp; rfl)
 intro ev w C hr;have r1 : ev 1 = .slice A i.length c := hr.1.1.1.1.1.1.1.1.1.1.2;have r3 : ev 3 = .slice B j.length d := hr.1.1.1.1.1.1.1.1.2;have r5 : ev 5 = .string m := hr.1.1.1.1.1.1.2;have r7 : ev 7 = .int .i64 n := hr.1.1.1.1.2;have r8 : ev 8 = .slice A i.length c := hr.1.1.1.2;have r9 : ev 9 = .slice B j.length d := hr.1.1.2;have r10 : ev 10 = .string m := hr.1.2;have r11 : ev 11 = .int .i64 n := hr.2;simp only [fill, Act.put, r1, r3, r5, r7, r8, r9, r10, r11, if_true, List.setIfInBounds_toArray, List.set_cons_zero, List.set_cons_succ];clear hr r1 r3 r5 r7 r8 r9 r10 r11;have H := Sdq.mk C
 rcases (show (500 : Int) < (i.length : Int) ∨ (¬ (500 : Int) < (i.length : Int) ∧ (500 : Int) < (j.length : Int)) by omega) with h1 | ⟨h1, h2⟩
 all_goals
  go_wp2_with fail
  refine (L6q_called.calls true _ rfl H.out.2.2.1).mono ?_;rintro en W1 ⟨rfl, hb⟩
  go_wp2_with fail
  go_ret;exact ⟨rfl, below_step H.out.2.1 hb⟩
set_option maxRecDepth 100000 in
set_option maxHeartbeats 6400000 in
theorem makes_bad (k : Nat) (i : List Int) (A : Option Addr) (c : Nat) (j : List Int) (B : Option Addr) (d : Nat) (m : ByteArray) (n : Int) (w0 : World) (hT : TabOk w0) (hi : Kd.C (Kd.int .u8) w0 A i.length i) (hc : i.length ≤ c) (hj : Kd.C (Kd.int .u8) w0 B j.length j) (hd : j.length ≤ d) (hil : i.length ≤ 500) (hjl : j.length ≤ 500) (x y : S44) (ea ez eb fz : Int) (he : ez ≠ 0 ∨ fz ≠ 0) (hpi : parseF k i = some (x, ea, ez)) (hpj : parseF k j = some (y, eb, fz)) : Calls Tryd.prog 7 #[.agg #[.slice A i.length c, .slice B j.length d, .string m, .int .i64 n]] w0 (fun e w' => e = .returned (.bool true) ∧ Below w0.heap.size w0 w') := by
 have PI := Sdq.mk hpi;have PJ := Sdq.mk hpj;have HI := Sdq.mk hi;have HJ := Sdq.mk hj;have hc := Sdq.mk hc;have hd := Sdq.mk hd;clear hpi hpj hi hj;have C0 : Ctx [uBlk w0.heap.size [.slice A i.length c, .slice B j.length d, .string m, .int .i64 n] 75, uB w0, uTab] (w0.alloc (.cells #[.slice A i.length c, .slice B j.length d, .string m, .int .i64 n] 75 (0, 0))) := Ctx.new (cs := [.slice A i.length c, .slice B j.length d, .string m, .int .i64 n]) (t := 75) (Ctx.cons (uB w0) (Below.refl _ _) (Ctx.cons uTab hT Ctx.nil));clear hT;go_enter Tryd.func7, Tryd.ntmps7
 go_upto_region 1 with fail
 refine absW _ C0 ?_;clear C0;intro w1 C;refine flowT (n := 12) tab7_1 rfl (Ctx _) (Rl [uEq (.pointer (some ⟨w0.heap.size, 0, none⟩)), uEq (.slice A i.length c), uEq (.pointer (some ⟨w0.heap.size, 1, none⟩)), uEq (.slice B j.length d), uEq (.pointer (some ⟨w0.heap.size, 2, none⟩)), uEq (.string m), uEq (.pointer (some ⟨w0.heap.size, 3, none⟩)), uEq (.int .i64 n), uEq (.slice A i.length c), uEq (.slice B j.length d), uEq (.string m), uEq (.int .i64 n)]) rfl (by kernel_rfl) (fun _ _ h hb => h.below hb) (Rl.up _) C ⟨⟨⟨⟨⟨⟨⟨⟨⟨⟨⟨⟨trivial, ?_⟩, ?_⟩, ?_⟩, ?_⟩, ?_⟩, ?_⟩, ?_⟩, ?_⟩, ?_⟩, ?_⟩, ?_⟩, ?_⟩ ?_
 ·refine At.of _ rfl (fun e a w hC hd hb K hK => ?_)
  have b1 : a.tmps[1]? = some (.pointer (some ⟨w0.heap.size, 0, none⟩)) := hb 1 (by decide);refine value_ (w1 := w) (v := .pointer (some ⟨w0.heap.size, 0, none⟩)) (by rfl) rfl ?_ (hK.out _ _ (Below.refl _ _) rfl);clear hC hd hb hK
  first | (go_simp; done) | (go_simp; rfl)
 ·refine At.of _ rfl (fun e a w hC hd hb K hK => ?_)
  have q0 := (hd 0 (by decide)).2 16 rfl;rw [show e 0 = _ from (hd 0 (by decide)).1] at q0;have cx : w.cell? ⟨w0.heap.size, 0, none⟩ = some (.slice A i.length c) := Ctx.blk hC.1 0 rfl;refine value_ (w1 := w) (v := .slice A i.length c) (by rfl) rfl ?_ (hK.out _ _ (Below.refl _ _) rfl);clear hC hd hb hK
  first | (go_simp; done) | (go_simp; rfl)
 ·refine At.of _ rfl (fun e a w hC hd hb K hK => ?_)
  have b1 : a.tmps[1]? = some (.pointer (some ⟨w0.heap.size, 0, none⟩)) := hb 1 (by decide);refine value_ (w1 := w) (v := .pointer (some ⟨w0.heap.size, 1, none⟩)) (by rfl) rfl ?_ (hK.out _ _ (Below.refl _ _) rfl);clear hC hd hb hK
  first | (go_simp; done) | (go_simp; rfl)
 ·refine At.of _ rfl (fun e a w hC hd hb K hK => ?_)
  have q2 := (hd 2 (by decide)).2 18 rfl;rw [show e 2 = _ from (hd 2 (by decide)).1] at q2;have cx : w.cell? ⟨w0.heap.size, 1, none⟩ = some (.slice B j.length d) := Ctx.blk hC.1 1 rfl;refine value_ (w1 := w) (v := .slice B j.length d) (by rfl) rfl ?_ (hK.out _ _ (Below.refl _ _) rfl);clear hC hd hb hK
  first | (go_simp; done) | (go_simp; rfl)
 ·refine At.of _ rfl (fun e a w hC hd hb K hK => ?_)
  have b1 : a.tmps[1]? = some (.pointer (some ⟨w0.heap.size, 0, none⟩)) := hb 1 (by decide);refine value_ (w1 := w) (v := .pointer (some ⟨w0.heap.size, 2, none⟩)) (by rfl) rfl ?_ (hK.out _ _ (Below.refl _ _) rfl);clear hC hd hb hK
  first | (go_simp; done) | (go_simp; rfl)
 ·refine At.of _ rfl (fun e a w hC hd hb K hK => ?_)
  have q4 := (hd 4 (by decide)).2 20 rfl;rw [show e 4 = _ from (hd 4 (by decide)).1] at q4;have cx : w.cell? ⟨w0.heap.size, 2, none⟩ = some (.string m) := Ctx.blk hC.1 2 rfl;refine value_ (w1 := w) (v := .string m) (by rfl) rfl ?_ (hK.out _ _ (Below.refl _ _) rfl);clear hC hd hb hK
  first | (go_simp; done) | (go_simp; rfl)
 ·refine At.of _ rfl (fun e a w hC hd hb K hK => ?_)
  have b1 : a.tmps[1]? = some (.pointer (some ⟨w0.heap.size, 0, none⟩)) := hb 1 (by decide);refine value_ (w1 := w) (v := .pointer (some ⟨w0.heap.size, 3, none⟩)) (by rfl) rfl ?_ (hK.out _ _ (Below.refl _ _) rfl);clear hC hd hb hK
  first | (go_simp; done) | (go_simp; rfl)
 ·refine At.of _ rfl (fun e a w hC hd hb K hK => ?_)
  have q6 := (hd 6 (by decide)).2 22 rfl;rw [show e 6 = _ from (hd 6 (by decide)).1] at q6;have cx : w.cell? ⟨w0.heap.size, 3, none⟩ = some (.int .i64 n) := Ctx.blk hC.1 3 rfl;refine value_ (w1 := w) (v := .int .i64 n) (by rfl) rfl ?_ (hK.out _ _ (Below.refl _ _) rfl);clear hC hd hb hK
  first | (go_simp; done) | (go_simp; rfl)
 ·refine At.of _ rfl (fun e a w hC hd hb K hK => ?_)
  have q1 := (hd 1 (by decide)).2 17 rfl;rw [show e 1 = _ from (hd 1 (by decide)).1] at q1;refine value_ (w1 := w) (v := .slice A i.length c) (by rfl) rfl ?_ (hK.out _ _ (Below.refl _ _) rfl);clear hC hd hb hK
  first | (go_simp; done) | (go_simp; rfl)
 ·refine At.of _ rfl (fun e a w hC hd hb K hK => ?_)
  have q3 := (hd 3 (by decide)).2 19 rfl;rw [show e 3 = _ from (hd 3 (by decide)).1] at q3;refine value_ (w1 := w) (v := .slice B j.length d) (by rfl) rfl ?_ (hK.out _ _ (Below.refl _ _) rfl);clear hC hd hb hK
  first | (go_simp; done) | (go_simp; rfl)
 ·refine At.of _ rfl (fun e a w hC hd hb K hK => ?_)
  have q5 := (hd 5 (by decide)).2 21 rfl;rw [show e 5 = _ from (hd 5 (by decide)).1] at q5;refine value_ (w1 := w) (v := .string m) (by rfl) rfl ?_ (hK.out _ _ (Below.refl _ _) rfl);clear hC hd hb hK
  first | (go_simp; done) | (go_simp; rfl)
 ·refine At.of _ rfl (fun e a w hC hd hb K hK => ?_)
  have q7 := (hd 7 (by decide)).2 23 rfl;rw [show e 7 = _ from (hd 7 (by decide)).1] at q7;refine value_ (w1 := w) (v := .int .i64 n) (by rfl) rfl ?_ (hK.out _ _ (Below.refl _ _) rfl);clear hC hd hb hK
  first | (go_simp; done) | (go_simp; rfl)
 intro ev w C hr;have r1 : ev 1 = .slice A i.length c := hr.1.1.1.1.1.1.1.1.1.1.2;have r3 : ev 3 = .slice B j.length d := hr.1.1.1.1.1.1.1.1.2;have r5 : ev 5 = .string m := hr.1.1.1.1.1.1.2;have r7 : ev 7 = .int .i64 n := hr.1.1.1.1.2;have r8 : ev 8 = .slice A i.length c := hr.1.1.1.2;have r9 : ev 9 = .slice B j.length d := hr.1.1.2;have r10 : ev 10 = .string m := hr.1.2;have r11 : ev 11 = .int .i64 n := hr.2;simp only [fill, Act.put, r1, r3, r5, r7, r8, r9, r10, r11, if_true, List.setIfInBounds_toArray, List.set_cons_zero, List.set_cons_succ];clear hr r1 r3 r5 r7 r8 r9 r10 r11
 have hi' : ¬ (500 : Int) < (i.length : Int) := by omega
 have hj' : ¬ (500 : Int) < (j.length : Int) := by omega
 have HI := Sdq.mk (Kd.C_below HI.out C.2.1);have HJ := Sdq.mk (Kd.C_below HJ.out C.2.1);have K := Sdq.mk C;clear C
 go_wp2_with fail
 refine (parse_calls k A c i _ w HI.out hc.out PI.out).mono ?_;rintro en W1 ⟨x2, x3, rfl, h2, h3, hb⟩;have KX := rowsK (ok := fun _ => True) (s := x) h2 h3 (fun _ _ => trivial);obtain ⟨xA2, xn2, xA3, xn3, xe, -⟩ := KX.open44;simp only [Value.agg.injEq, Array.mk.injEq, List.cons.injEq, and_true, true_and] at xe;obtain ⟨rfl, rfl⟩ := xe;have C := Ctx.new (cs := [.int .i64 x.f0, .string x.f1, .slice xA2 x.f2.length xn2, .slice xA3 x.f3.length xn3]) (t := 44) (Ctx.cons (uK k44 (fun _ => True) _ x) KX (K.out.below hb));have HJ := Sdq.mk (Kd.C_below HJ.out hb);clear K hb h2 h3 HI PI KX
 go_upto_region 5 with fail
 refine absW _ (Ctx.cons (uC (Kd.int .u8) B j.length j) (Kd.C_below HJ.out (bal (Below.refl _ _) _)) C) ?_;clear C HJ;intro w2 C;have HJ := Sdq.mk (show Kd.C (Kd.int .u8) w2 B j.length j from C.1);have K := Sdq.mk C.2;clear C
 go_wp2_with fail
 refine (parse_calls k B d j _ w2 HJ.out hd.out PJ.out).mono ?_;rintro en W2 ⟨y2, y3, rfl, h2, h3, hb⟩;have KY := rowsK (ok := fun _ => True) (s := y) h2 h3 (fun _ _ => trivial);obtain ⟨yA2, yn2, yA3, yn3, ye, -⟩ := KY.open44;simp only [Value.agg.injEq, Array.mk.injEq, List.cons.injEq, and_true, true_and] at ye;obtain ⟨rfl, rfl⟩ := ye;have C := Ctx.new (cs := [.int .i64 y.f0, .string y.f1, .slice yA2 y.f2.length yn2, .slice yA3 y.f3.length yn3]) (t := 44) (Ctx.cons (uK k44 (fun _ => True) _ y) KY (K.out.below hb));clear K hb h2 h3 HJ PJ KY
 go_upto_region 6 with fail
 refine absW _ C ?_;clear C;intro w3 C;have K := Sdq.mk C;clear C
 rcases (show (ez != 0) = true ∨ ((ez != 0) = false ∧ (fz != 0) = true) by by_cases h : ez = 0 <;> simp_all) with q | ⟨q, q2⟩
 all_goals
  go_wp2_with fail
  refine (L6q_called.calls true _ rfl K.out.2.2.2.2.2.2.1).mono ?_;rintro en W3 ⟨rfl, hb⟩
  go_wp2_with fail
  go_ret;exact ⟨rfl, below_step K.out.2.2.2.2.2.1 hb⟩
end Go.Proofs.YteighppcdpaekaaDoor.P
end
