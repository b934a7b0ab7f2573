/- Walks and words of this session, put together by a program of this session (pack.py). Conditions: as each text says. -/
import Derived.Maps.AppendAt
import Derived.Lib.AppendStr
import Derived.Lib.ItoaNum
import Derived.Test.YthpgjgmaamcaoaaDoorCards
import Derived.Test.YthpgjgmaamcaoaaDoorTie
import Derived.Lib.SmallJoins
import Derived.Deep.Slices
import Derived.SliceStrings
import Derived.ChangeArms
import Derived.WalkKit
import Derived.ProofKit
import Derived.OpenShut
import Derived.ChangeMaps5
import Derived.JoinedCond
import Derived.ChangeOld
import Derived.Below
import Derived.LaidLaws
import Derived.MakeChecks
import Derived.Deep.DeepHandedRow
import Derived.Deep.DeepWitnessRowRef
import Derived.Stop.LaidErr
import Derived.Lib.LaidTab
import Derived.Test.YthpgjgmaamcaoaaDoorE1
import Derived.Test.YthpgjgmaamcaoaaDoorE2
import Derived.Test.YthpgjgmaamcaoaaDoorE3
import Derived.Test.YthpgjgmaamcaoaaDoorE4
import Derived.Test.YthpgjgmaamcaoaaDoorE5
import Derived.Test.YthpgjgmaamcaoaaDoorE7
set_option linter.unusedVariables false
set_option linter.unusedSimpArgs false
section
namespace Go.Proofs.YthpgjgmaamcaoaaDoor.P
open Go.RowKit Go.Shelf Go.Proofs.YthpgjgmaamcaoaaDoorW.PrintWords Go.Proofs.YthpgjgmaamcaoaaDoorW.PrintLast Go.Proofs.YthpgjgmaamcaoaaDoorW.PrintMore
set_option maxRecDepth 100000
set_option linter.unusedVariables false
set_option linter.unusedSimpArgs false
def bufOf (W : World) (b : Nat) : Option Nat := (W.cell? ⟨b, 1, none⟩).bind Value.ownBlock
structure KpB (b R : Nat) (W W' : World) : Prop where
 size : W.heap.size ≤ W'.heap.size
 keep : ∀ k, k < W.heap.size → k ≠ b → k ≠ R → some k ≠ bufOf W b → W'.heap[k]? = W.heap[k]?
 buf : ∀ g, bufOf W' b = some g → bufOf W b = some g ∨ W.heap.size ≤ g
section
variable {b R : Nat} {X Y Z : World}
theorem KpB.refl (W : World) : KpB b R W W := ⟨Nat.le_refl _, fun _ _ _ _ _ => rfl, fun _ h => .inl h⟩
theorem KpB.trans (h : KpB b R X Y) (k : KpB b R Y Z) : KpB b R X Z :=
 ⟨Nat.le_trans h.size k.size, fun i hi h1 h2 h3 => (k.keep i (Nat.lt_of_lt_of_le hi h.size) h1 h2 (fun e => (h.buf i e.symm).elim (fun e2 => h3 e2.symm) (fun hle => by omega))).trans (h.keep i hi h1 h2 h3), fun g hg => (k.buf g hg).elim (fun e => h.buf g e) (fun hle => .inr (Nat.le_trans h.size hle))⟩
theorem bufOf_eq (h : Y.heap[b]? = X.heap[b]?) : bufOf Y b = bufOf X b := by unfold bufOf World.cell?; rw [h]
theorem KpB.below (hb : Below X.heap.size X Y) (hlt : b < X.heap.size) : KpB b R X Y := ⟨hb.size, fun k hk _ _ _ => hb.block k hk, fun g hg => .inl (by rw [← bufOf_eq (hb.block b hlt)]; exact hg)⟩
theorem KpB.putR (W : World) (o : Obj) (hne : b ≠ R) : KpB b R W (W.putObj R o) :=
 ⟨by simp [World.putObj], fun k _ _ h2 _ => World.putObj_heap_other h2, fun g hg => .inl (by rw [← hg]; exact (bufOf_eq (World.putObj_heap_other hne)).symm)⟩
end
theorem infoU8 : (Tryd.prog.info? 5).map (fun i => (i.zero, i.size, i.bytes)) = some (some (.int .u8 0), 1, 1) := by kernel_rfl
theorem infoSB : (Tryd.prog.info? 104).map (·.size) = some 2 := by kernel_rfl
theorem liesSB : liesAt Tryd.prog Tryd.prog.depth 104 (2 / Tryd.prog.cellsOf 104) 0 104 1 = true := by kernel_rfl
set_option maxHeartbeats 1000000 in
theorem sb_copyCheck (B b R : Nat) (bs : List Value) (w : World) (h : Lib.IsBuilder 104 5 B b bs w) :
  Calls Tryd.prog 88 #[.pointer (some ⟨b, 0, none⟩)] w fun e w' => e = .returned (.tuple #[]) ∧ Lib.BuilderAt 104 5 B b (.pointer (some ⟨b, 0, none⟩)) bs w' ∧ Below B w w' ∧ KpB b R w w' ∧ KeepsOthers w w' := by
 obtain ⟨j, hj, hjs⟩ := Option.map_eq_some_iff.1 infoSB
 rcases h with h | h
 ·have h0 := h.cell0
  have hsh := h.shape;have hfz := h.frozen0
  have hE : Lib.BuilderAt 104 5 B b (.pointer (some ⟨b, 0, none⟩)) bs (w.setCell ⟨b, 0, none⟩ (.pointer (some ⟨b, 0, none⟩))) ∧ Below B w (w.setCell ⟨b, 0, none⟩ (.pointer (some ⟨b, 0, none⟩))) ∧ KpB b R w (w.setCell ⟨b, 0, none⟩ (.pointer (some ⟨b, 0, none⟩))) ∧ KeepsOthers w (w.setCell ⟨b, 0, none⟩ (.pointer (some ⟨b, 0, none⟩))) := by
   refine ⟨h.used _, (Below.refl B w).setCell (p := ⟨b, 0, none⟩) h.1 _, ⟨by simp, fun k _ h1 _ _ => Below.heap_setCell _ _ _ _ h1, fun g hg => .inl ?_⟩, KeepsOthers.setCell _ _ _⟩;rw [← hg];unfold bufOf
   congr 1
   exact (World.cell?_setCell_other w ⟨b, 0, none⟩ ⟨b, 1, none⟩ _ (by simp)).symm
  have hE := Sdq.mk hE;clear h;go_enter Tryd.func88, Tryd.ntmps88;go_wp2;rw [Lib.run_to_unsafe w ⟨b, 0, none⟩ Tryd.underlying101 Tryd.underlying152 hj (by rw [hjs]; decide) hsh (Nat.zero_lt_succ 1)];simp only [Result.andThen];rw [Oper.upon_value];go_wp2;rw [run_callFunc_extern Tryd.func103 (by kernel_rfl) (by kernel_rfl) (by kernel_rfl) (e := Extern.AbiNoEscape.same) (by kernel_rfl)];rw [Lib.run_noEscape];simp only [Result.andThen];rw [Oper.upon_value];go_wp2;rw [Lib.run_from_unsafe w ⟨b, 0, none⟩ Tryd.underlying152 Tryd.underlying101 hj hsh liesSB];simp only [Result.andThen];rw [Oper.upon_value];go_wp2
  go_end0
  exact ⟨rfl, hE.out⟩
 ·have h0 := h.cell0
  have hE := Sdq.mk h;clear h;go_enter Tryd.func88, Tryd.ntmps88;go_wp2;rw [Lib.run_neq_ptr_same w _ Tryd.underlying101 hj];go_wp2
  go_end0
  exact ⟨rfl, hE.out, Below.refl _ _, KpB.refl _, KeepsOthers.refl _⟩
theorem kpB_grow {b R B : Nat} {w w1 w2 : World} {v v' : Value} {n : Nat} {bs' : List Value} (hk : KpB b R w w1) (hc : w1.cell? ⟨b, 1, none⟩ = some v) (hg : w1.grownBy w2 v.ownBlock) (hown : w2.ownsRow B 5 1 v' n bs') (hnew : ∀ g, v'.ownBlock = some g → v.ownBlock = some g ∨ w1.heap.size ≤ g) (hb : b < w1.heap.size) (hne : v.ownBlock ≠ some b) : KpB b R w (w2.setCell ⟨b, 1, none⟩ v') := by
 refine hk.trans ⟨by simpa using hg.size, fun k hk h1 h2 h3 => ?_, fun g hg2 => ?_⟩
 ·refine (Below.heap_setCell _ _ _ _ h1).trans (hg.block k hk ?_)
  unfold bufOf at h3;rw [hc] at h3;exact h3
 ·have hc2 : w2.cell? ⟨b, 1, none⟩ = some v := by rw [← hc]; exact World.cell?_of_block (hg.block b hb (fun e => hne e.symm))
  have h1 : bufOf (w2.setCell ⟨b, 1, none⟩ v') b = v'.ownBlock := by
   unfold bufOf;rw [World.cell?_setCell_same' w2 ⟨b, 1, none⟩ v' (by rw [hc2]; rfl)]
   rfl
  rw [h1] at hg2;unfold bufOf;rw [hc];exact hnew g hg2
theorem below_grown {W W' : World} (h : Below W.heap.size W W') : W.grownBy W' none := ⟨h.os, h.tape, h.output, h.size, fun k hk _ => h.block k hk⟩
theorem own_kept {W W' : World} {base e size n : Nat} {v : Value} {xs : List Value} (h : W.ownsRow base e size v n xs) (hg : W.grownBy W' v.ownBlock) : KeepsOthers W W' :=
 ⟨hg.size, fun k o hk ho => (hg.block k (Array.getElem?_eq_some_iff.1 hk).1 (fun e => by
  rcases h.2 with ⟨h2, _⟩ | ⟨g', cap', cur, h2, hb, hc, _⟩
  ·rw [h2] at e; cases e
  ·rw [h2] at e
   simp only [Value.ownBlock, Option.some.injEq] at e;rw [e, hc] at hk;cases hk
   cases ho)).trans hk⟩
theorem str_lies {P : Program} (w : World) (base : Nat) (t u ty e : TypeId) (i : TypeInfo) (ht : P.underlying t = some (.slice e)) (hu : P.underlying u = some .string) (hi : P.info? e = some i) (hz : i.zero = some (.int .u8 0))
  (hsize : i.size = 1) (hby : i.bytes = 1) (v : Value) (n : Nat) (xs : List Value) (hown : w.ownsRow base e 1 v n xs) (s : ByteArray) (h63 : n + s.size ≤ maxLen) (hbytes : n + s.size ≤ 140737488355328)
  {v' : Value} {w' : World} (h : (Builtin.append_ #[t, u] ty #[v, .string s]).run P w = .ok v' w') : v'.ownBlock = v.ownBlock ∨ ∃ b, v'.ownBlock = some b ∧ w.heap.size ≤ b := by
 have hsmall : n + s.size ≤ 9223372036854775807 := by simp only [maxLen] at h63; omega
 have hxl : xs.length = n := by simpa using hown.1
 rcases hown.2 with ⟨rfl, rfl⟩ | ⟨g, cap, cur, rfl, hbg, hg, hnc, hcm, hcs, htake⟩
 ·by_cases hm : s.size = 0
  ·have hf := Lib.run_firstCells_string (P := P) w 1 s
   rw [hm] at hf
   simp [Builtin.append_, run_underlying ht, run_underlying hu, sizeOf, typeInfo, hi, hsize, Builtin.lenOf, hm, hf] at h
   rw [← h.1];exact .inl rfl
  ·have hr := run_append_nil_string (P := P) w t u ty e i (.int .u8 0) ht hu hi hz s (by omega) (by omega) (by rw [hby]; omega)
   rw [hr] at h
   injection h with h1 h2
   rw [← h1];exact .inr ⟨w.heap.size, rfl, Nat.le_refl _⟩
 ·by_cases hroom : n + s.size ≤ cap
  ·have hcs' : cur.size = cap := by simpa using hcs
   have hr := Lib.run_append_room_string (P := P) w t u ty e i ht hu hi hsize g n cap cur hg s hroom (by omega);rw [hr] at h
   injection h with h1 h2
   rw [← h1];exact .inl rfl
  ·have holds : ∀ j u, xs[j]? = some u → w.cell? ((⟨g, 0, none⟩ : Addr).add j) = some u := hown.cells (g := g) rfl
   have hr := Lib.run_append_grow_string (P := P) w t u ty e i (.int .u8 0) ht hu hi hz ⟨g, 0, none⟩ n cap xs (by rw [hsize]; simpa using hxl) holds s (by omega) (by omega) (by rw [hby]; exact growslice_fits (by omega) (by omega));rw [hr] at h
   injection h with h1 h2
   rw [← h1];exact .inr ⟨w.heap.size, rfl, Nat.le_refl _⟩
theorem wpl_append_str {P : Program} {w : World} {ops : Array Oper} {rest : List Oper} {o : Oper} {a : Act} {Q : Exit → Act → World → Prop} (hgd : o.guard = none) (sl x : Operand) (t u : TypeId)
  (ho : o.op = .call { callee := .builtin .append, args := #[sl, x], argTypes := #[t, u] })
  (base : Nat) (e : TypeId) (i : TypeInfo) (ht : P.underlying t = some (.slice e)) (hu : P.underlying u = some .string) (hi : P.info? e = some i) (hz : i.zero = some (.int .u8 0))
  (hsize : i.size = 1) (hby : i.bytes = 1)
  (v : Value) (n : Nat) (xs : List Value) (hs : a.eval sl = v) (hown : w.ownsRow base e 1 v n xs) (s : ByteArray) (hx : a.eval x = .string s)
  (h63 : n + s.size ≤ maxLen) (hbytes : n + s.size ≤ 140737488355328) (hbase : base ≤ w.heap.size)
  (h : ∀ v' w', w'.ownsRow base e 1 v' (n + s.size) (xs ++ Lib.strCells s) → w.grownBy w' v.ownBlock → (∀ g, v'.ownBlock = some g → v.ownBlock = some g ∨ w.heap.size ≤ g) → wpList P ops Q rest (a.put o.dst v') w') : wpList P ops Q (o :: rest) a w := by
 refine wpList_plain hgd fun K hK => ?_
 obtain ⟨v', w', hr, h2, h3, h4⟩ := Lib.run_append_own_string (P := P) w base t u o.type e i ht hu hi hz hsize hby v n xs hown s h63 hbytes hbase;have hat := str_lies w base t u o.type e i ht hu hi hz hsize hby v n xs hown s h63 hbytes hr;unfold Oper.wp execOp;simp only [ho, resolve, invoke, builtin, Sem.run_bind, Sem.run_pure, Result.andThen_ok, List.map_toArray, List.map_cons, List.map_nil, hs, hx, hr];refine hK _ _ (h v' w' h2 h3 (fun g hg => ?_))
 rcases hat with e1 | ⟨b, e1, hb⟩
 ·exact .inl (by rw [← e1]; exact hg)
 ·rw [e1] at hg
  injection hg with hg
  exact .inr (by omega)
set_option maxHeartbeats 1600000 in
theorem sb_WriteString (B b R : Nat) (bs : List Value) (s : ByteArray) (w : World) (h : Lib.IsBuilder 104 5 B b bs w) (hlen : bs.length + s.size ≤ 140737488355328) (hBw : B ≤ w.heap.size) :
  Calls Tryd.prog 62 #[.pointer (some ⟨b, 0, none⟩), .string s] w fun e w' => e = .returned (.tuple #[.int .i64 s.size, .nilIface]) ∧ Lib.IsBuilder 104 5 B b (bs ++ Lib.strCells s) w' ∧ Below B w w' ∧ KpB b R w w' ∧ KeepsOthers w w' := by
 obtain ⟨i0, hi, hz0, hz1, hz2⟩ := info_parts infoU8;go_enter Tryd.func62, Tryd.ntmps62;go_wp2_with (go_at_call 88; refine (sb_copyCheck B b R bs _ h).mono ?_);rintro e w1 ⟨rfl, h1, hb1, hk1, ho1⟩;obtain ⟨hB, v, hbk, hown, hne⟩ := h1
 have c0 : w1.cell? ⟨b, 0, none⟩ = some (.pointer (some ⟨b, 0, none⟩)) := by rw [Lib.cell_of_heap hbk]; rfl
 have c1 : w1.cell? ⟨b, 1, none⟩ = some v := by rw [Lib.cell_of_heap hbk]; rfl
 have hlt : b < w1.heap.size := (Array.getElem?_eq_some_iff.1 hbk).1
 go_wp2_with ((with_reducible refine gate_builtin (b := .append) (xs := #[.tmp 12, .tmp 13]) rfl ?_); at_builtin; go_loud (refine wpl_append_str rfl (.tmp 12) (.tmp 13) 102 9 rfl B 5 i0 Tryd.underlying102 Tryd.underlying9 hi hz0 hz1 hz2 _ _ _ rfl hown s rfl ?c3 ?c4 ?c5 ?_))
 case c3 => unfold maxLen; omega
 case c4 => omega
 case c5 => have := hb1.size; omega
 intro v' w2 hown' hg hnew;have hb2 : w2.heap[b]? = some (.cells #[.pointer (some ⟨b, 0, none⟩), v] 104 (0, 0)) := (hg.block b hlt (fun e => hne e.symm)).trans hbk
 have d0 : w2.cell? ⟨b, 0, none⟩ = some (.pointer (some ⟨b, 0, none⟩)) := by rw [Lib.cell_of_heap hb2]; rfl
 have d1 : w2.cell? ⟨b, 1, none⟩ = some v := by rw [Lib.cell_of_heap hb2]; rfl
 have f1 : w2.frozen? ⟨b, 1, none⟩ = false := Lib.frozen_of_heap hb2 1
 obtain ⟨ao, n', cap, rfl⟩ : ∃ ao n' cap, v' = .slice ao n' cap := by
  rcases hown'.2 with ⟨hv, _⟩ | ⟨g, cap, cur, hv, _⟩
  ·exact ⟨_, _, _, hv⟩
  ·exact ⟨_, _, _, hv⟩
 have E := Sdq.mk (show Lib.IsBuilder 104 5 B b (bs ++ Lib.strCells s) (w2.setCell ⟨b, 1, none⟩ (.slice ao n' cap)) ∧ Below B w (w2.setCell ⟨b, 1, none⟩ (.slice ao n' cap)) ∧ KpB b R w (w2.setCell ⟨b, 1, none⟩ (.slice ao n' cap)) ∧ KeepsOthers w (w2.setCell ⟨b, 1, none⟩ (.slice ao n' cap)) from
  ⟨.inr (Lib.BuilderAt.put (T := 104) (e := 5) hB hb2 (bs' := bs ++ Lib.strCells s) (by simpa [Lib.strCells_length] using hown') (by decide)), (hb1.grown hg (by have := hb1.size; omega) (own_base hown)).setCell (p := ⟨b, 1, none⟩) hB _, kpB_grow hk1 c1 hg hown' hnew hlt hne, (ho1.trans (own_kept hown hg)).trans (KeepsOthers.setCell _ _ _)⟩)
 clear hown' hg hnew hown hb2 hk1 hb1 ho1 hbk h c0 c1;go_wp2
 go_ret2
 exact ⟨rfl, E.out⟩
set_option maxHeartbeats 1600000 in
theorem sb_WriteByte (B b R : Nat) (bs : List Value) (c : Int) (w : World) (h : Lib.IsBuilder 104 5 B b bs w) (hlen : bs.length + 1 ≤ 140737488355328) (hBw : B ≤ w.heap.size) :
  Calls Tryd.prog 61 #[.pointer (some ⟨b, 0, none⟩), .int .u8 c] w fun e w' => e = .returned .nilIface ∧ Lib.IsBuilder 104 5 B b (bs ++ [.int .u8 c]) w' ∧ Below B w w' ∧ KpB b R w w' ∧ KeepsOthers w w' := by
 obtain ⟨i0, hi, hz0, hz1, hz2⟩ := info_parts infoU8;go_enter Tryd.func61, Tryd.ntmps61;go_wp2_with (go_at_call 88; refine (sb_copyCheck B b R bs _ h).mono ?_);rintro e w1 ⟨rfl, h1, hb1, hk1, ho1⟩;obtain ⟨hB, v, hbk, hown, hne⟩ := h1
 have c0 : w1.cell? ⟨b, 0, none⟩ = some (.pointer (some ⟨b, 0, none⟩)) := by rw [Lib.cell_of_heap hbk]; rfl
 have c1 : w1.cell? ⟨b, 1, none⟩ = some v := by rw [Lib.cell_of_heap hbk]; rfl
 have hlt : b < w1.heap.size := (Array.getElem?_eq_some_iff.1 hbk).1
 obtain ⟨w1', ew1⟩ : ∃ w1', w1' = w1.alloc (.cells #[.int .u8 c] 5) := ⟨_, rfl⟩
 have hba : Below w1.heap.size w1 w1' := by rw [ew1]; exact bal (Below.refl _ _) _
 have hbk' := (hba.block b hlt).trans hbk;have hown1 := hown.alloc (.cells #[.int .u8 c] 5);rw [← ew1] at hown1
 have c1' : w1'.cell? ⟨b, 1, none⟩ = some v := by rw [Lib.cell_of_heap hbk']; rfl
 have hnw : ∀ j u, ([.int .u8 c] : List Value)[j]? = some u → w1'.cell? ((⟨w1.heap.size, 0, none⟩ : Addr).add j) = some u := by
  intro j u hu
  match j, hu with
  | 0, hu =>
   simp at hu
   subst hu;rw [ew1]
   simp [Addr.add]
 have hs1 := hba.size
 go_wp2_with ((with_reducible refine gate_builtin (b := .append) (xs := #[.tmp 11, .tmp 13]) rfl ?_); at_builtin; rw [← ew1]; go_loud (refine wpList_append_own_at _ rfl (.tmp 11) (.tmp 13) 102 rfl B 5 i0 (.int .u8 0) 1 1 Tryd.underlying102 hi hz0 hz1 hz2 rfl (by decide) _ _ _ rfl hown1 ⟨w1.heap.size, 0, none⟩ 1 1 [.int .u8 c] rfl rfl hnw (by intro u hu; simp at hu; subst hu; rfl) (by unfold maxLen; omega) (by omega) (by have := hb1.size; omega) ?_))
 intro v' w2 hown' hg _ hat
 try rw [← ew1] at hg
 try rw [← ew1] at hat
 have hnew : ∀ g, v'.ownBlock = some g → v.ownBlock = some g ∨ w1'.heap.size ≤ g := fun g hg => by
  rcases hat with e1 | e1
  ·exact .inl (by rw [← e1]; exact hg)
  ·rw [e1] at hg
   exact .inr (Nat.le_of_eq ((show w1'.heap.size = w1.heap.size + 1 by rw [ew1]; exact World.size_alloc _ _).trans (Option.some.inj hg)))
 have hlt' : b < w1'.heap.size := Nat.lt_of_lt_of_le hlt hs1;have hb2 : w2.heap[b]? = some (.cells #[.pointer (some ⟨b, 0, none⟩), v] 104 (0, 0)) := (hg.block b hlt' (fun e => hne e.symm)).trans hbk'
 have d0 : w2.cell? ⟨b, 0, none⟩ = some (.pointer (some ⟨b, 0, none⟩)) := by rw [Lib.cell_of_heap hb2]; rfl
 have d1 : w2.cell? ⟨b, 1, none⟩ = some v := by rw [Lib.cell_of_heap hb2]; rfl
 have f1 : w2.frozen? ⟨b, 1, none⟩ = false := Lib.frozen_of_heap hb2 1
 obtain ⟨ao, n', cap, rfl⟩ : ∃ ao n' cap, v' = .slice ao n' cap := by
  rcases hown'.2 with ⟨hv, _⟩ | ⟨g, cap, cur, hv, _⟩
  ·exact ⟨_, _, _, hv⟩
  ·exact ⟨_, _, _, hv⟩
 have hB1 : Below B w w1' := hb1.trans (hba.mono (by have := hb1.size; omega))
 have E := Sdq.mk (show Lib.IsBuilder 104 5 B b (bs ++ [.int .u8 c]) (w2.setCell ⟨b, 1, none⟩ (.slice ao n' cap)) ∧ Below B w (w2.setCell ⟨b, 1, none⟩ (.slice ao n' cap)) ∧ KpB b R w (w2.setCell ⟨b, 1, none⟩ (.slice ao n' cap)) ∧ KeepsOthers w (w2.setCell ⟨b, 1, none⟩ (.slice ao n' cap)) from
  ⟨.inr (Lib.BuilderAt.put (T := 104) (e := 5) hB hb2 (bs' := bs ++ [.int .u8 c]) (by simpa using hown') (by decide)), (hB1.grown hg (by have := hB1.size; omega) (own_base hown1)).setCell (p := ⟨b, 1, none⟩) hB _, kpB_grow (hk1.trans (KpB.below hba hlt)) c1' hg hown' hnew hlt' hne, ((ho1.trans (KeepsOthers.of_grownBy (below_grown hba) (fun j o e _ => by cases e))).trans (own_kept hown1 hg)).trans (KeepsOthers.setCell _ _ _)⟩)
 clear hown' hg hnew hown hb2 hk1 hb1 ho1 hbk h c0 c1 hown1 hnw hbk' c1' hba ew1 hB1 hat;go_wp2;go_ret;exact ⟨rfl, E.out⟩
end Go.Proofs.YthpgjgmaamcaoaaDoor.P
end
section
namespace Go.Proofs.YthpgjgmaamcaoaaDoor.P
open Go.RowKit Go.Shelf Go.Proofs.YthpgjgmaamcaoaaDoorW.PrintWords Go.Proofs.YthpgjgmaamcaoaaDoorW.PrintLast Go.Proofs.YthpgjgmaamcaoaaDoorW.PrintMore Go.Proofs.YthpgjgmaamcaoaaDoor.Nm
set_option maxRecDepth 100000
set_option linter.unusedVariables false
set_option linter.unusedSimpArgs false
theorem kv_box {O : Nat → Prop} {W : World} {e : El} {x : S44} (hk : Kd.FK k44 W O x e.cs) (hO : ∀ k, W.heap.size ≤ k → O k) : Kv kTB O (W.alloc (.cells e.cs.toArray 44)) (.agg #[.bool false, .slice none 0 0, .slice (some ⟨W.heap.size, 0, none⟩) 1 1]) ⟨⟨false, []⟩, [x]⟩ := by
 have hb : Below W.heap.size W (W.alloc (.cells e.cs.toArray 44)) := bal (Below.refl _ _) _
 obtain ⟨B3, d3, e3, l3, F3⟩ := ns_row (W := W.alloc (.cells e.cs.toArray 44)) (base := W.heap.size) (O := O) (pv := .slice (some ⟨W.heap.size, 0, none⟩) 1 1) (os := [e]) (xs := [x])
  ⟨by simp [El.cs], .inr ⟨W.heap.size, 1, e.cs.toArray, rfl, Nat.le_refl _, blk_new W _, Nat.le_refl _, by decide, by simp [El.cs], by simp [El.cs]⟩⟩ hO rfl (by simp) (fun i z f hz hf => by
   have hi := (List.getElem?_eq_some_iff.1 hz).1;simp only [List.length_singleton] at hi
   obtain rfl : i = 0 := by omega
   simp only [List.getElem?_cons_zero, Option.some.injEq] at hz hf;subst hz;subst hf
   exact Kd.FK_below hk hb)
 simp only [Value.slice.injEq] at e3;obtain ⟨rfl, -, rfl⟩ := e3;exact ⟨_, rfl, kTB_mkF _ _ ⟨⟨false, []⟩, [x]⟩ (Nat.le_refl _) (Kd.F_nil _ _ _) l3 F3⟩
set_option maxHeartbeats 1600000 in
theorem lin_Var (ok : Nat → Prop) (vr : Int) (w0 : World) (hok : ∀ k, w0.heap.size ≤ k → ok k) :
  Calls Tryd.prog 42 #[.int .i64 vr] w0 (KPost kTB ok w0 (tt 0 [(vr, 1)])) := by
 have C := Ctx.new (cs := [.bool false, .slice none 0 0, .slice none 0 0]) (t := 27) (show Ctx [uB w0] w0 from ⟨Below.refl _ _, trivial⟩);have hok := Sdq.mk hok
 obtain ⟨r, hr⟩ : ∃ r, r = tt 0 [(vr, 1)] := ⟨_, rfl⟩
 rw [← hr]
 have HR := Sdq.mk (show (⟨⟨false, []⟩, [⟨vr, can 1⟩]⟩ : TB) = r from by
  have e : can 0 = ⟨false, []⟩ := by first | rfl | (unfold can; simp) | (unfold can; simp [dig])
  rw [hr];unfold tt;rw [e]
  rfl)
 clear hr;go_enter Tryd.func42, Tryd.ntmps42
 go_upto_region 1 with fail
 refine absW _ C ?_;clear C;intro w1 C;have hN := big_Of (fun k => ok k ∧ k ≠ w0.heap.size) 1 w1 (fun k hk => by have := blk_lt (show w1.heap[w0.heap.size]? = _ from C.1); exact ⟨hok.out k (by omega), by omega⟩) (by decide) (by decide);have C := Sdq.mk C;go_wp2_with (go_at_call 41; refine hN.mono ?_; rintro e2 w2 ⟨v2, rfl, hv2, hb2⟩; obtain ⟨yA, yc, rfl, yl, yF⟩ := hv2.openB; have C3 := C.out.below hb2; have hk2 := kv_box (e := ⟨vr, (can 1).f0, yA, (can 1).f1.length, yc⟩) (k44_mkF w2 _ ⟨vr, can 1⟩ yl yF) (fun k hk => by have := blk_lt (show w2.heap[w0.heap.size]? = _ from C3.1); exact ⟨hok.out k (by omega), by omega⟩); rw [HR.out] at hk2; have hk3 : Kv kTB (fun k => ok k ∧ k ≠ w0.heap.size) (w2.alloc (.cells #[.int .i64 vr, .bool (can 1).f0, .slice yA (can 1).f1.length yc] 44)) (.agg #[.bool false, .slice none 0 0, .slice (some ⟨w2.heap.size, 0, none⟩) 1 1]) r := hk2; have C4 := C3.below (bal (Below.refl w2.heap.size w2) (.cells #[.int .i64 vr, .bool (can 1).f0, .slice yA (can 1).f1.length yc] 44)); have E := Sdq.mk (end3 (O := fun k => ok k ∧ k ≠ w0.heap.size) (ok := ok) C4.1 C4.2.1 (Nat.le_refl _) (fun k hk => hk) hk3 _ rfl); have r0 := Ctx.blk C4.1 0 rfl; have r1 := Ctx.blk C4.1 1 rfl; have r2 := Ctx.blk C4.1 2 rfl; have f0 := Ctx.frz C4.1 0; have f1 := Ctx.frz C4.1 1; have f2 := Ctx.frz C4.1 2; clear C3 C4 hv2 hk2 hk3 hb2 yl yF);have E := E.out;clear r0 r1 r2 f0 f1 f2;generalize World.setCell _ _ _ = wf at E ⊢;obtain ⟨EP, e0, e1, e2⟩ := E;exact bodyPost_ret (by first | (simp [results, Tryd.results42, go_sem, e0, e1, e2]; done) | (simp [results, Tryd.results42, go_sem, e0, e1, e2]; rfl)) rfl EP
end Go.Proofs.YthpgjgmaamcaoaaDoor.P
end
section
namespace Go.Proofs.YthpgjgmaamcaoaaDoor.P
open Go.RowKit Go.Shelf Go.Proofs.YthpgjgmaamcaoaaDoorW.PrintWords Go.Proofs.YthpgjgmaamcaoaaDoorW.PrintLast Go.Proofs.YthpgjgmaamcaoaaDoorW.PrintMore Go.Proofs.YthpgjgmaamcaoaaDoor.Nm
set_option maxRecDepth 100000
set_option linter.unusedVariables false
set_option linter.unusedSimpArgs false
attribute [local go_sem] Oper.semAt_some
structure VE where
 v : Int
 n : Int
 A : Option Addr
 c : Nat
def VE.p (x : VE) : Int × Int := (x.v, x.n)
def encV (x : VE) : Array Value := #[.int .i64 x.v, .agg #[.bool (can x.n).f0, .slice x.A (can x.n).f1.length x.c]]
def RXV (Kp : World → World → Prop) (ps : LnP.Ps) (x : VE) (W : World) : Prop := x.p ∈ ps ∧ (can x.n).f1.length ≤ x.c ∧ ∀ W', Kp W W' → IsRow .u32 W' x.A (can x.n).f1
theorem abides_below {β : Type} {B : Nat} {J : β → World → Prop} (hJ : AbidesFrom B J) {s : β} {W W' : World} (h : J s W) (hb : Below W.heap.size W W') : J s W' := hJ s W W' none h (below_grown hb) (fun r e => by cases e)
structure KpOk (w : World) (Kp : World → World → Prop) : Prop where
 refl : ∀ W, Kp W W
 trans : ∀ {X Y Z : World}, Kp X Y → Kp Y Z → Kp X Z
 alloc : ∀ (W W' : World) (o : Obj), Below w.heap.size w W → Kp W W' → Kp W (W'.alloc o)
 fresh : ∀ W W', Below w.heap.size w W → Kp W W' → W.heap.size ≤ W'.heap.size ∧ ∀ k, w.heap.size + 2 ≤ k → k < W.heap.size → W'.heap[k]? = W.heap[k]?
theorem field_TB1 (b v1 v2 : Value) (W : World) : (Instr.field 27 (.agg #[b, v1, v2]) 1).run Tryd.prog W = .ok v2 W := by kernel_rfl
theorem lin_Vars (v : Value) (x : TB) (w : World) (h : Kv kTB (fun _ => True) w v x) :
  Calls Tryd.prog 32 #[v] w fun e w' => e = .returned (.func (.func 68) #[] #[.pointer (some ⟨w.heap.size, 0, none⟩)]) ∧ ∃ cs, v = .agg cs ∧ w' = w.alloc (.cells cs 27) := by
 obtain ⟨A, c, B, d, rfl, -, -⟩ := h.openTB;clear h;go_enter Tryd.func32, Tryd.ntmps32;go_wp2;go_ret;exact ⟨rfl, _, rfl, rfl⟩
set_option maxHeartbeats 3200000 in
theorem vars_x (Bs : Nat) (A : Option Addr) (c : Nat) (B : Option Addr) (d : Nat) (x : TB) (w : World) (hBs : (uBlk Bs [.bool x.f0.f0, .slice A x.f0.f1.length c, .slice B x.f1.length d] 27).p w) (h : Kv kTB (fun _ => True) w (.agg #[.bool x.f0.f0, .slice A x.f0.f1.length c, .slice B x.f1.length d]) x) (hx : NIn x) {Kp : World → World → Prop} (hK : KpOk w Kp) :
  SeqX 2 Tryd.prog 68 #[.pointer (some ⟨Bs, 0, none⟩)] encV (RXV Kp (LnP.nrm (psB x.f1))) Kp (fun ys => ys.map VE.p = LnP.nrm (psB x.f1)) (fun ys => ∃ i, i ≤ (LnP.nrm (psB x.f1)).length ∧ ys.map VE.p = (LnP.nrm (psB x.f1)).take i) (LnP.nrm (psB x.f1)).length w := by
 intro l J Jx W hW hW2 hJ hJx hY h0;have hNm := lin_Norm (fun k => w.heap.size + 2 ≤ k) _ x W (fun k hk => Nat.le_trans hW2 hk) (h.below hW) hx;have hB := (uBlk _ _ _).up _ _ hBs hW
 obtain ⟨ps, eps⟩ : ∃ ps, ps = LnP.nrm (psB x.f1) := ⟨_, rfl⟩
 rw [← eps] at hNm hY ⊢
 have hlen : ps.length ≤ 39 := by
  rw [eps];refine Nat.le_trans (LnP.nrm_len _) ?_;have := hx.few;unfold psB
  simpa using this
 clear eps h hBs hx;have hYJ := Sdq.mk hY;have h0 := Sdq.mk h0;have HJ := Sdq.mk hJ;have b0 := Ctx.blk hB 0 rfl;have b1 := Ctx.blk hB 1 rfl;have b2 := Ctx.blk hB 2 rfl;clear hB hY hJ;have hfd := field_TB1;refine callsIn_of_wp Tryd.func68 rfl trivial ?_ rfl;simp only [Tryd.ntmps68, List.size_toArray, List.length_cons, List.length_nil, Nat.reduceAdd, Nat.reduceSub, Array.replicate_succ, Array.replicate_zero, List.push_toArray, List.append_toArray, List.nil_append, List.cons_append]
 gi_wp2_with (refine ⟨trivial, ?_⟩; gi_at_call 17; refine (callsIn_wide.2 hNm).mono ?_; rintro e1 W1 ⟨v1, rfl, hv1, hb1⟩; obtain ⟨yA, yc, yB, yd, rfl, -, hcv⟩ := hv1.openTB)
 have hbW : Below w.heap.size w W1 := hW.trans (hb1.mono hW.size);have hJ1 := abides_below HJ.out h0.out hb1;obtain ⟨B', d', e1, hcl, hF⟩ := hcv
 injection e1 with e2 _ e3
 subst e2;subst e3
 have hlen2 : (tt (bv x.f0) ps).f1.length = ps.length := by unfold tt; simp
 have hF := Sdq.mk hF;have hbW := Sdq.mk hbW;have hJ1 := Sdq.mk hJ1;rw [hlen2]
 obtain ⟨n, en⟩ : ∃ n, n = ps.length := ⟨_, rfl⟩
 rw [← en];have hn := Sdq.mk en
 have hn39 : n ≤ 39 := by rw [en]; exact hlen
 clear en hlen hlen2 hv1 hb1 hNm b0 b1 b2 h0 hcl hW
 gi_loopw [9] (fun i wr => ∃ (m : Nat) (ys : List VE), m ≤ n ∧ i = .int .i64 (m : Int) ∧ Sdq (ys.map VE.p = ps.take m) ∧ Sdq (J ys wr) ∧ Sdq (Kp W1 wr)) (fun i _ => (n - intOf i).toNat)
 case atStart => exact ⟨0, [], Nat.zero_le _, rfl, ⟨rfl⟩, hJ1, ⟨hK.refl _⟩⟩
 case round =>
  clear hJ1;obtain ⟨m, ys, hm, rfl, hys, hJs, hKs⟩ := hrel;by_cases hmn : m = n
  ·subst hmn
   have hall := Sdq.mk (show ys.map VE.p = ps by rw [hys.out, hn.out]; exact List.take_length);clear hys hn
   gi_wp2
   go_end0
   exact ⟨⟨_, rfl⟩, .inl ⟨ys, hall.out, hJs.out⟩⟩
  ·have hlt : m < n := by omega
   have hps : m < ps.length := by have := hn.out; omega
   have hyl : ys.length = m := by
    have := congrArg List.length hys.out;rw [List.length_map, List.length_take] at this
    omega
   have hkr := hK.fresh W1 wr hbW.out hKs.out;have hFr := Kd.F_step (Kd.F_bound hF.out) (fun k hk hlt => hkr.2 k hk.1 hlt);have hFr2 : Kd.F k44 wr (fun k => w.heap.size + 2 ≤ k ∧ k < W1.heap.size) yB (ps.map cp).length (ps.map cp) := hFr;obtain ⟨ad, e, eyB, x0, x1, x2, hfk⟩ := row_el hFr2 (i := m) (by rw [List.length_map]; exact hps)
   have hpe : (ps.map cp)[m]'(by rw [List.length_map]; exact hps) = cp ps[m] := by simp
   rw [hpe] at hfk
   obtain ⟨p, ep⟩ : ∃ p, p = ps[m] := ⟨_, rfl⟩
   rw [← ep] at hfk;obtain ⟨f1, f2, f3, f4, f5⟩ := fk_el hfk;have hba : Below wr.heap.size wr (wr.alloc (.cells #[.int .i64 e.v, .bool e.b, .slice e.A e.n e.c] 44)) := bal (Below.refl _ _) _;have hKa0 := hK.alloc W1 wr (.cells #[.int .i64 e.v, .bool e.b, .slice e.A e.n e.c] 44) hbW.out hKs.out;have hFW1 : Kd.F k44 W1 (fun k => w.heap.size + 2 ≤ k) yB (ps.map cp).length (ps.map cp) := hF.out
   have hrx : RXV Kp ps ⟨p.1, p.2, e.A, e.c⟩ (wr.alloc (.cells #[.int .i64 e.v, .bool e.b, .slice e.A e.n e.c] 44)) := ⟨by
    show (p.1, p.2) ∈ ps
    rw [ep]
    exact List.getElem_mem hps, f4, fun V hV => by
    have h1 := hK.fresh W1 wr hbW.out hKs.out;have h2 := hK.fresh W1 V hbW.out (hK.trans hKa0 hV);refine row_of (ok := fun k => w.heap.size + 2 ≤ k ∧ k < W1.heap.size) (Kd.F_step f5 (fun k hk _ => ?_))
    rw [h2.2 k hk.1 hk.2, h1.2 k hk.1 hk.2]⟩
   have hyr := hYJ.out ys ⟨p.1, p.2, e.A, e.c⟩ _ (abides_below HJ.out hJs.out hba) hrx (by omega)
   have hen : encV ⟨p.1, p.2, e.A, e.c⟩ = #[.int .i64 e.v, .agg #[.bool e.b, .slice e.A e.n e.c]] := by
    unfold encV;rw [f1, f2, f3]
    rfl
   rw [hen] at hyr
   have hys2 := Sdq.mk (show (ys ++ [(⟨p.1, p.2, e.A, e.c⟩ : VE)]).map VE.p = ps.take (m + 1) by
    rw [List.map_append, hys.out, List.take_succ_eq_append_getElem hps, ← ep]
    rfl)
   have hKa := Sdq.mk hKa0;clear hKa0;have hn1 := Sdq.mk (show m + 1 ≤ ps.length from hps)
   obtain ⟨x, ex⟩ : ∃ x : VE, x = ⟨p.1, p.2, e.A, e.c⟩ := ⟨_, rfl⟩
   rw [← ex] at hys2 hyr;subst eyB;clear hFW1 ex hen hrx f1 f2 f3 f4 f5 hfk hpe hFr hFr2 hkr ep hyl hys hKs hJs hba;obtain ⟨fn, tmps, assign, body, hy, hR⟩ := hyr
   gi_wp2
   refine hR.mono ?_;rintro e3 W3 (⟨rfl, hJ3, hk3⟩ | ⟨rfl, hJx3⟩)
   ·have hJ3 := Sdq.mk hJ3
    have hk3 := Sdq.mk (hK.trans hKa.out hk3)
    gi_wp2
    go_roundw
    case rel => exact ⟨m + 1, _, hlt, by go_num, hys2, hJ3, hk3⟩
    case measure => simp [intOf]; omega
   ·have hJx3 := Sdq.mk hJx3
    gi_wp2
    refine bodyPost_ret (results_none rfl _ _ _) rfl ?_;exact ⟨⟨_, rfl⟩, .inr ⟨_, ⟨m + 1, hn1.out, hys2.out⟩, hJx3.out⟩⟩
end Go.Proofs.YthpgjgmaamcaoaaDoor.P
end
section
namespace Go.Proofs.YthpgjgmaamcaoaaDoor.P
open Go.RowKit Go.Proofs.YthpgjgmaamcaoaaDoor.Nm
theorem decDigits_dig : ∀ k : Nat, ∀ n : Int, 0 < n → n.toNat = k → Lib.decDigits k = (dig 10 n).reverse.map (fun x => UInt8.ofNat (x + 48).toNat) := by
 intro k
 induction k using Nat.strongRecOn with
 | _ k ih =>
  intro n hn hk;rw [dig_succ (by decide) hn, List.reverse_cons, List.map_append, Lib.decDigits]
  split
  ·rename_i hlt
   rw [show n / 10 = 0 by omega, dig_zero];simp only [List.reverse_nil, List.map_nil, List.nil_append, List.map_cons];rw [show (n % 10 + 48).toNat = 48 + k by omega]
  ·rename_i hge
   rw [ih (k / 10) (by omega) (n / 10) (by omega) (by omega)];simp only [List.map_cons, List.map_nil];rw [show (n % 10 + 48).toNat = 48 + k % 10 by omega]
theorem decS_itoa {n : Int} (h : 0 ≤ n) : (decS n).data.toList = Lib.decDigits n.toNat := by
 unfold decS
 split
 ·rename_i h0
  subst h0
  show _ = Lib.decDigits 0
  rw [Lib.decDigits]
  rfl
 ·rw [decDigits_dig n.toNat n (by omega) rfl]
  simp [strOfNums, List.map_map, Function.comp_def]
theorem decI_itoa (n : Int) : (decI n).data.toList = Lib.itoa n := by
 unfold decI Lib.itoa
 split
 ·rw [show (⟨#[45]⟩ ++ decS (-n) : ByteArray).data.toList = 45 :: (decS (-n)).data.toList by simp [ByteArray.data_append], decS_itoa (by omega)]
  congr 2
  omega
 ·rw [decS_itoa (by omega)]
theorem itoa_len (n : Int) : (Lib.itoa n).length ≤ (dig 10 n.natAbs).length + 2 := by
 rw [← decI_itoa];have h1 := decS_size n;have h2 := decS_size (-n);unfold decI
 split
 ·rw [show (n.natAbs : Int) = -n by omega]
  simp only [ByteArray.data_append, Array.toList_append, List.length_append]
  show _ + (decS (-n)).data.toList.length ≤ _
  rw [show (decS (-n)).data.toList.length = (decS (-n)).size from rfl]
  simp
  omega
 ·rw [show (n.natAbs : Int) = n by omega]
  show (decS n).size ≤ _
  omega
def txtP (s : List UInt8) (p : Int × Int) : List UInt8 := s ++ (if s ≠ [] ∧ 0 < p.2 then [43] else []) ++ (Lib.itoa p.2 ++ ([42, 120] ++ Lib.itoa p.1))
def txts (ps : LnP.Ps) : List UInt8 := ps.foldl txtP []
def txtT (c : Int) (ps : LnP.Ps) : List UInt8 := if txts ps = [] ∨ c ≠ 0 then txts ps ++ (if txts ps ≠ [] ∧ 0 < c then [43] else []) ++ Lib.itoa c else txts ps
theorem txts_snoc (ps : LnP.Ps) (p : Int × Int) : txts (ps ++ [p]) = txtP (txts ps) p := by unfold txts; rw [List.foldl_append]; rfl
theorem txtP_len {s : List UInt8} {p : Int × Int} {L : Nat} (h1 : (Lib.itoa p.1).length ≤ 30) (h2 : (Lib.itoa p.2).length ≤ L) : (txtP s p).length ≤ s.length + (L + 40) := by
 unfold txtP;simp only [List.length_append, List.length_cons, List.length_nil]
 split
 ·simp; omega
 ·simp; omega
theorem txts_len {L : Nat} : ∀ (n : Nat) (ps : LnP.Ps), ps.length = n → (∀ p ∈ ps, (Lib.itoa p.1).length ≤ 30 ∧ (Lib.itoa p.2).length ≤ L) → (txts ps).length ≤ n * (L + 40) := by
 intro n
 induction n with
 | zero =>
  intro ps h _;rw [List.length_eq_zero_iff.1 h]
  simp [txts]
 | succ n ih =>
  intro ps h hp
  rcases List.eq_nil_or_concat ps with rfl | ⟨a, p, rfl⟩
  ·simp at h
  ·rw [List.concat_eq_append] at h hp ⊢
   simp only [List.length_append, List.length_singleton] at h;rw [txts_snoc, Nat.add_mul, Nat.one_mul];have h1 := ih a (by omega) (fun q hq => hp q (List.mem_append_left _ hq));have h2 := hp p (by simp);have := txtP_len (s := txts a) h2.1 h2.2
   omega
theorem itoa64_len {n : Int} (h0 : -9223372036854775808 ≤ n) (h1 : n ≤ 9223372036854775807) : (Lib.itoa n).length ≤ 30 := by
 have h2 := dig_len (B := 10) (by decide) (n := n.natAbs) (k := 19) (show (n.natAbs : Int) < 10 ^ 19 by omega);have := itoa_len n
 omega
end Go.Proofs.YthpgjgmaamcaoaaDoor.P
end
section
namespace Go.Proofs.YthpgjgmaamcaoaaDoor.P
open Go.RowKit Go.Shelf Go.Proofs.YthpgjgmaamcaoaaDoorW.PrintWords Go.Proofs.YthpgjgmaamcaoaaDoorW.PrintLast Go.Proofs.YthpgjgmaamcaoaaDoorW.PrintMore Go.Proofs.YthpgjgmaamcaoaaDoor.Nm
set_option maxRecDepth 100000
set_option linter.unusedVariables false
set_option linter.unusedSimpArgs false
attribute [local go_sem] Oper.semAt_some
def TabOk (w : World) : Prop := Lib.TabIs Tryd.prog w "internal/strconv.uint64pow10" .u64 Lib.pow10Tab
theorem var_below {n : String} {cs : Array Value} {w w' : World} (h : w.var? Tryd.prog n = some cs) (hb : Below w.heap.size w w') : w'.var? Tryd.prog n = some cs := by
 unfold World.var? at h ⊢
 cases hg : Tryd.prog.globalNamed n with
 | none => rw [hg] at h; cases h
 | some g =>
  rw [hg] at h;simp only [Option.bind_some] at h ⊢
  cases hh : w.heap[g]? with
  | none => rw [hh] at h; cases h
  | some o => rw [hb.block g (Array.getElem?_eq_some_iff.1 hh).1, hh]; rw [hh] at h; exact h
theorem TabOk.below {w w' : World} (h : TabOk w) (hb : Below w.heap.size w w') : TabOk w' := var_below h hb
theorem itoa_below (n : Int) (h0 : -9223372036854775808 ≤ n) (h1 : n ≤ 9223372036854775807) (w : World) (hT : TabOk w) :
  Calls Tryd.prog 64 #[.int .i64 n] w fun e w' => e = .returned (.string ⟨(Lib.itoa n).toArray⟩) ∧ Below w.heap.size w w' := by
 refine (Tryd.strconv_Itoa n h0 h1 w hT).mono ?_;rintro e w' ⟨he, k, os, rfl⟩;refine ⟨he, rfl, rfl, rfl, ?_, fun j hj => ?_⟩
 ·show w.heap.size ≤ ((w.drewN k).heap ++ os).size
  rw [Array.size_append];exact Nat.le_add_right _ _
 ·show ((w.drewN k).heap ++ os)[j]? = _
  exact Array.getElem?_append_left hj
theorem IsRow.F {k : IntKind} {W : World} {A : Option Addr} {xs : List Int} (h : IsRow k W A xs) (hl : xs.length ≤ 1000000) : Kd.F (Kd.int k) W (fun _ => True) A xs.length xs := fun W' hW => by
 refine ⟨rfl, by omega, fun hn => ?_⟩;obtain ⟨ad, rfl, hc⟩ := row_some h (i := 0) (by omega);refine ⟨ad, rfl, fun j p hj => ?_⟩;obtain ⟨hj1, hj2⟩ := List.getElem?_eq_some_iff.1 hj;refine ⟨[.int k p], rfl, rfl, fun i u hu => ?_⟩;have hi := (List.getElem?_eq_some_iff.1 hu).1;simp only [List.length_singleton] at hi
 obtain rfl : i = 0 := by omega
 obtain rfl : Value.int k p = u := by simpa using hu
 have h1 := hc j hj1;rw [hj2] at h1;rw [show j * (Kd.int k).sz + 0 = j by show j * 1 + 0 = j; omega];rw [← h1];exact World.cell?_of_block (hW _ trivial (World.block_lt_of_cell? W _ h1))
theorem kpB_ok {w : World} {b : Nat} (hb : b < w.heap.size) (hbuf : bufOf w b = none) : KpOk w (KpB b (w.heap.size + 1)) where
 refl := KpB.refl
 trans := KpB.trans
 alloc := fun W W' o h1 h2 => h2.trans (KpB.below (bal (Below.refl _ _) o) (Nat.lt_of_lt_of_le (Nat.lt_of_lt_of_le hb h1.size) h2.size))
 fresh := fun W W' h1 h2 => ⟨h2.size, fun k h3 h4 => h2.keep k h4 (by omega) (by omega) (by rw [bufOf_eq (h1.block b hb), hbuf]; simp)⟩
theorem isB_own {β : Type} {B' T e B b : Nat} (f : β → List Value) : OwnFrom B' (fun s W => Lib.IsBuilder T e B b (f s) W) := fun s W W' row hs hg hr => by
 have key : ∀ p, Lib.BuilderAt T e B b p (f s) W → Lib.BuilderAt T e B b p (f s) W' := fun p h => by
  obtain ⟨hB, v, hbk, hown, hne⟩ := h
  have nc : ∀ k c t z, W.heap[k]? = some (.cells c t z) → some k ≠ row := fun k c t z hk e => by
   obtain ⟨_, o, ho, hc⟩ := hr k e.symm;rw [hk] at ho;cases ho;cases hc
  refine ⟨hB, v, (hg.block b (Array.getElem?_eq_some_iff.1 hbk).1 (nc _ _ _ _ hbk)).trans hbk, hown.kept hg ?_, hne⟩
  rcases hown.2 with ⟨h1, _⟩ | ⟨g, cap, cur, h1, _, h2, _⟩
  ·exact .inl (by rw [h1]; rfl)
  ·exact .inr (by rw [h1]; exact nc _ _ _ _ h2)
 rcases hs with h | h
 ·exact .inl (key _ h)
 ·exact .inr (key _ h)
theorem isB_buf {T e B b : Nat} {bs : List Value} {W : World} (h : Lib.IsBuilder T e B b bs W) : ∀ g, bufOf W b = some g → ∃ c, W.heap[g]? = some (.cells c e (0, 0)) := fun g hg => by
 have key : ∀ p, Lib.BuilderAt T e B b p bs W → ∃ c, W.heap[g]? = some (.cells c e (0, 0)) := fun p h => by
  obtain ⟨hB, v, hbk, hown, hne⟩ := h
  have hc : W.cell? ⟨b, 1, none⟩ = some v := by rw [Lib.cell_of_heap hbk]; rfl
  unfold bufOf at hg;rw [hc] at hg
  rcases hown.2 with ⟨h1, _⟩ | ⟨g', cap, cur, h1, _, h2, _⟩
  ·rw [h1] at hg; cases hg
  ·rw [h1] at hg
   simp only [Option.bind_some, Value.ownBlock, Option.some.injEq] at hg;exact ⟨_, hg ▸ h2⟩
 rcases h with h | h
 ·exact key _ h
 ·exact key _ h
theorem isB_below {T e B b : Nat} {bs : List Value} {W W' : World} (h : Lib.IsBuilder T e B b bs W) (hb : Below W.heap.size W W') : Lib.IsBuilder T e B b bs W' := isB_own (B' := 0) (fun _ : Unit => bs) () W W' none h (below_grown hb) (fun r e => by cases e)
theorem isB_lt {T e B b : Nat} {bs : List Value} {W : World} (h : Lib.IsBuilder T e B b bs W) : b < W.heap.size := by
 rcases h with h | h
 ·exact h.lt
 ·exact h.lt
theorem isB_le {T e B b : Nat} {bs : List Value} {W : World} (h : Lib.IsBuilder T e B b bs W) : B ≤ b := by
 rcases h with h | h
 ·exact h.1
 ·exact h.1
structure BT (B b R : Nat) (w1 W : World) (s : List UInt8) (V : World) : Prop where
 is_ : Lib.IsBuilder 104 5 B b (Lib.byteCells s) V
 bel : Below B w1 V
 kp : KpB b R W V
 ko : KeepsOthers W V
section
variable {B b R : Nat} {w1 W V V' : World} {s : List UInt8}
theorem BT.below (h : BT B b R w1 W s V) (hb : Below V.heap.size V V') : BT B b R w1 W s V' :=
 ⟨isB_below h.is_ hb, h.bel.trans (hb.mono (by have := isB_lt h.is_; have := isB_le h.is_; omega)), h.kp.trans (KpB.below hb (isB_lt h.is_)), h.ko.trans (KeepsOthers.of_grownBy (below_grown hb) (fun j o e _ => by cases e))⟩
theorem bt_Len (h : BT B b R w1 W s V) : Calls Tryd.prog 60 #[.pointer (some ⟨b, 0, none⟩)] V fun e V' => e = .returned (.int .i64 s.length) ∧ V' = V := by
 have := Tryd.Builder_Len B b _ V h.is_
 rwa [Lib.byteCells_length] at this
theorem bt_plus (h : BT B b R w1 W s V) (hl : s.length ≤ 1000000000) : Calls Tryd.prog 61 #[.pointer (some ⟨b, 0, none⟩), .int .u8 43] V fun e V' => e = .returned .nilIface ∧ BT B b R w1 W (s ++ [43]) V' := by
 refine (sb_WriteByte B b R _ 43 V h.is_ (by rw [Lib.byteCells_length]; omega) (by have := isB_lt h.is_; have := isB_le h.is_; omega)).mono ?_;rintro e V' ⟨rfl, h1, h2, h3, h4⟩;exact ⟨rfl, by rw [Lib.byteCells_append]; exact h1, h.bel.trans h2, h.kp.trans h3, h.ko.trans h4⟩
theorem bt_str (h : BT B b R w1 W s V) (t : ByteArray) (hl : s.length ≤ 1000000000) (ht : t.size ≤ 1000000000) : Calls Tryd.prog 62 #[.pointer (some ⟨b, 0, none⟩), .string t] V fun e V' => e = .returned (.tuple #[.int .i64 t.size, .nilIface]) ∧ BT B b R w1 W (s ++ t.data.toList) V' := by
 refine (sb_WriteString B b R _ t V h.is_ (by rw [Lib.byteCells_length]; omega) (by have := isB_lt h.is_; have := isB_le h.is_; omega)).mono ?_;rintro e V' ⟨rfl, h1, h2, h3, h4⟩;exact ⟨rfl, by rw [Lib.byteCells_append, ← Lib.strCells_eq]; exact h1, h.bel.trans h2, h.kp.trans h3, h.ko.trans h4⟩
end
theorem itoa_big {n : Int} (h : (can n).f1.length ≤ 1001) : (Lib.itoa n).length ≤ 10020 := by
 have h1 := itoa_len n;have h2 := dec_len (can_dg n);rw [show val B32 (can n).f1 = n.natAbs from val_dig (by decide) _ (by omega)] at h2
 omega
theorem nrm_mem1 : ∀ {l : LnP.Ps} {q : Int × Int}, q ∈ LnP.nrm l → ∃ p ∈ l, p.1 = q.1
 | [], _, h => by cases h
 | p :: r, q, h => by
  rcases LnP.ins_mem h with h | h
  ·exact ⟨p, List.mem_cons_self .., h.symm⟩
  ·obtain ⟨z, hz, e⟩ := nrm_mem1 h
   exact ⟨z, List.mem_cons_of_mem _ hz, e⟩
set_option maxHeartbeats 3200000 in
theorem lin_Text (v : Value) (x : TB) (w0 : World) (h : Kv kTB (fun _ => True) w0 v x) (hx : NIn x) (hv : ∀ p ∈ x.f1, -9223372036854775808 ≤ p.f0 ∧ p.f0 ≤ 9223372036854775807) (hT : TabOk w0) :
  Calls Tryd.prog 30 #[v] w0 fun e w' => e = .returned (.string ⟨(txtT (bv x.f0) (LnP.nrm (psB x.f1))).toArray⟩) ∧ Below w0.heap.size w0 w' := by
 obtain ⟨A, c, B, d, rfl, hk, -⟩ := h.openTB;have C := Ctx.new (cs := [.pointer none, .slice none 0 0]) (t := 104) (Ctx.new (cs := [.bool x.f0.f0, .slice A x.f0.f1.length c, .slice B x.f1.length d]) (t := 27) (Ctx.cons (uB w0) (Below.refl _ _) (Ctx.cons (uK kTB (fun _ => True) (.agg #[.bool x.f0.f0, .slice A x.f0.f1.length c, .slice B x.f1.length d]) x) h (Ctx.cons (uK k24 (fun _ => True) (.agg #[.bool x.f0.f0, .slice A x.f0.f1.length c]) x.f0) hk Ctx.nil))));simp only [World.size_alloc] at C
 obtain ⟨R, hR0⟩ : ∃ R, R = (⟨(txtT (bv x.f0) (LnP.nrm (psB x.f1))).toArray⟩ : ByteArray) := ⟨_, rfl⟩
 rw [← hR0];have hR := Sdq.mk hR0;clear hR0
 have hps : (LnP.nrm (psB x.f1)).length ≤ 39 ∧ ∀ p ∈ LnP.nrm (psB x.f1), Big (can p.2) ∧ (can p.2).f1.length ≤ 1001 ∧ -9223372036854775808 ≤ p.1 ∧ p.1 ≤ 9223372036854775807 := by
  have hl : (psB x.f1).length ≤ 39 := by have := hx.few; unfold psB; simpa using this
  refine ⟨Nat.le_trans (LnP.nrm_len _) hl, fun p hp => ?_⟩;have h1 := nrm_can (L := 1000) hl (psB_abs (fun p hp => ⟨hx.dg p hp, hx.len p hp⟩)) p hp;refine ⟨⟨can_dg _, by omega⟩, h1, ?_⟩;obtain ⟨q, hq, e⟩ := nrm_mem1 hp;unfold psB at hq;obtain ⟨z, hz, rfl⟩ := List.mem_map.1 hq;rw [← e];exact hv z hz
 have hps := Sdq.mk hps;have hT := Sdq.mk hT;have hx := Sdq.mk hx;have hk0 := Sdq.mk hk;clear h hk hv;refine (callsIn_wide (n := 3)).1 (callsIn_of_wp_marks Tryd.func30 rfl trivial (wpIn_wide.2 ?_) rfl);simp only [Tryd.ntmps30, List.size_toArray, List.length_cons, List.length_nil, Nat.reduceAdd, Nat.reduceSub, Array.replicate_succ, Array.replicate_zero, List.push_toArray, List.append_toArray, List.nil_append, List.cons_append]
 go_upto_region 2 with fail
 refine absW _ C ?_;clear C;intro w1 C;have y0 := Ctx.blk C.2.1 0 rfl;have y1 := Ctx.blk C.2.1 1 rfl;have y2 := Ctx.blk C.2.1 2 rfl;have hVs := lin_Vars (.agg #[.bool x.f0.f0, .slice A x.f0.f1.length c, .slice B x.f1.length d]) x w1 C.2.2.2.1;have C := Sdq.mk C;go_wp2_with (go_at_call 32; refine hVs.mono ?_; rintro e w2 ⟨rfl, cs2, ecs, rfl⟩; injection ecs with ecs; subst ecs);clear hVs y0 y1 y2;have C3 := Ctx.new (cs := [.bool x.f0.f0, .slice A x.f0.f1.length c, .slice B x.f1.length d]) (t := 27) C.out;have hs1 := Sdq.mk (show w0.heap.size + 1 < w1.heap.size from blk_lt C.out.1);have hb1 := Sdq.mk (show Below w0.heap.size w0 w1 from C.out.2.2.1);have hb13 : Below (w0.heap.size + 1) w1 (w1.alloc (.cells #[.bool x.f0.f0, .slice A x.f0.f1.length c, .slice B x.f1.length d] 27)) := (bal (Below.refl _ _) _).mono (by have := hs1.out; omega);have hC3 := And.intro C3 hb13
 obtain ⟨Bs, eBs⟩ : ∃ Bs, Bs = w1.heap.size := ⟨_, rfl⟩
 have C1 := C;clear C C3 hb13
 revert hC3
 rw [← eBs];have heBs := Sdq.mk eBs;clear eBs;generalize w1.alloc _ = w3;rintro ⟨C, hb13⟩;have C := Sdq.mk C;have hs3 := Sdq.mk (show Bs < w3.heap.size from blk_lt C.out.1);have hbl3 := Sdq.mk (show w0.heap.size + 1 < w3.heap.size from blk_lt C.out.2.1)
 have hbn : bufOf w3 (w0.heap.size + 1) = none := by
  unfold bufOf;rw [Ctx.blk C.out.2.1 1 rfl]
  rfl
 have hI0 : Lib.IsBuilder 104 5 (w0.heap.size + 1) (w0.heap.size + 1) (Lib.byteCells (txts (([] : List VE).map VE.p))) w3 := .inl ⟨Nat.le_refl _, .slice none 0 0, C.out.2.1, World.ownsRow_nil _ _ _ _, by simp [Value.ownBlock]⟩
 apply wp_rangeX (gf := 68) (lb := #[.pointer (some ⟨Bs, 0, none⟩)]) rfl (enters_of Tryd.func68 (by kernel_rfl) rfl)
  (vars_x Bs A c B d x w3 C.out.1 C.out.2.2.2.2.1 hx.out (kpB_ok hbl3.out hbn)) KpB.trans (fun W o o' _ => KpB.putR W o' (by have := hbl3.out; omega)) (fun _ => rfl)
  (fun pre W => Lib.IsBuilder 104 5 (w0.heap.size + 1) (w0.heap.size + 1) (Lib.byteCells (txts (pre.map VE.p))) W ∧ Below (w0.heap.size + 1) w1 W ∧ ∀ y ∈ pre, y.p ∈ LnP.nrm (psB x.f1)) (fun _ _ _ => False)
  (OwnFrom.and (isB_own _) (OwnFrom.and (ownFrom_below (by have := hs1.out; omega) (by have := hbl3.out; omega)) (ownFrom_pure _ _))) (fun _ _ _ _ _ hs _ _ => hs) ⟨hI0, hb13, fun _ h => by cases h⟩
  (fun y a' W => ∃ g, a' = { tmps := #[.agg #[.bool x.f0.f0, .slice A x.f0.f1.length c, .slice B x.f1.length d], .pointer (some ⟨w0.heap.size, 0, none⟩), .string ⟨#[]⟩, .pointer (some ⟨w0.heap.size + 1, 0, none⟩), .int .i64 y.v, .pointer (some ⟨g, 0, none⟩), .agg #[.bool x.f0.f0, .slice A x.f0.f1.length c, .slice B x.f1.length d], .func (.func 68) #[] #[.pointer (some ⟨Bs, 0, none⟩)], .int .i64 y.v, .agg #[.bool (can y.n).f0, .slice y.A (can y.n).f1.length y.c], undef, undef, undef, undef, undef, undef, undef, undef, undef, undef, undef, undef, undef, undef, undef, undef, undef, undef, undef, undef, undef, undef, undef, undef, undef, undef, undef, undef, undef, undef, undef, undef, undef, undef, undef, undef, undef], defers := [] } ∧ w3.heap.size + 2 ≤ g ∧ (uBlk g [.bool (can y.n).f0, .slice y.A (can y.n).f1.length y.c] 24).p W ∧ y.p ∈ LnP.nrm (psB x.f1) ∧ (can y.n).f1.length ≤ y.c ∧ ∀ W', KpB (w0.heap.size + 1) (w3.heap.size + 1) W W' → IsRow .u32 W' y.A (can y.n).f1)
  ?hAx ?assign ?body ?done ?stop
 case hAx =>
  rintro y a' W o o' ⟨g, e, hgs, h1, h2, h3, h4⟩ ho hc;refine ⟨g, e, hgs, (World.putObj_heap_other (fun e => ?_)).trans h1, h2, h3, fun W' hW' => h4 W' ((KpB.putR W o' (by have := hbl3.out; omega)).trans hW')⟩;rw [← e, show W.heap[g]? = _ from h1] at ho;cases ho;cases hc
 case assign =>
  rintro l pre y W K hsz ⟨hI, hB, hm⟩ ⟨h1, h2, h3⟩ hK
  have hE := fun (o : Obj) => And.intro (bal (Below.refl W.heap.size W) o) (KpB.below (R := w3.heap.size + 1) (bal (Below.refl W.heap.size W) o) (isB_lt hI))
  have hE := Sdq.mk hE
  dsimp only [encV]
  gi_wp2
  exact hK _ _ ((KeepsOthers.alloc _ _).from _) (hE.out _).2 ⟨isB_below hI (hE.out _).1, hB.trans ((hE.out _).1.mono (by have := isB_lt hI; omega)), hm⟩ ⟨W.heap.size, rfl, hsz, blk_new W _, h1, h2, fun W' hW' => h3 W' ((hE.out _).2.trans hW')⟩
 case stop =>
  rintro D cd pre W _ _ h _;exact h.elim
 case body =>
  rintro l pre y a' W ⟨hI, hB, hm⟩ ⟨g, rfl, hgs, hg, hmem, hcap, hrow⟩ hlen;have hbg := hps.out.2 y.p hmem
  have hsl : (txts (pre.map VE.p)).length ≤ 400000 := by
   have h1 := txts_len (L := 10020) pre.length (pre.map VE.p) (by simp) (fun q hq => by
    obtain ⟨z, hz, rfl⟩ := List.mem_map.1 hq;have h2 := hps.out.2 z.p (hm z hz)
    exact ⟨itoa64_len h2.2.2.1 h2.2.2.2, itoa_big h2.2.1⟩)
   have h2 := hps.out.1;have h3 : pre.length * (10020 + 40) ≤ 39 * (10020 + 40) := Nat.mul_le_mul_right _ (by omega)
   omega
  have hsn : txts ((pre ++ [y]).map VE.p) = txtP (txts (pre.map VE.p)) y.p := by rw [List.map_append]; exact txts_snoc _ _
  have hm2 := Sdq.mk (show ∀ z ∈ pre ++ [y], z.p ∈ LnP.nrm (psB x.f1) from fun z hz => by
   rcases List.mem_append.1 hz with hz | hz
   ·exact hm z hz
   ·obtain rfl : z = y := by simpa using hz
    exact hmem)
  obtain ⟨s, es⟩ : ∃ s, s = txts (pre.map VE.p) := ⟨_, rfl⟩
  rw [← es] at hI hsl hsn
  have hbx : ∀ V, KpB (w0.heap.size + 1) (w3.heap.size + 1) W V → (uBlk g [.bool (can y.n).f0, .slice y.A (can y.n).f1.length y.c] 24).p V := fun V hV =>
   (hV.keep g (blk_lt hg) (by have := hbl3.out; omega) (by omega) (fun e => by
    obtain ⟨c1, h1⟩ := isB_buf hI g e.symm
    exact blk_ne (t := 24) hg h1 (by decide) rfl)).trans hg
  have hkv : ∀ V, KpB (w0.heap.size + 1) (w3.heap.size + 1) W V → Kv k24 (fun _ => True) V (.agg #[.bool (can y.n).f0, .slice y.A (can y.n).f1.length y.c]) (can y.n) := fun V hV => Kv.mkB hcap ((hrow V hV).F (by have := (show (can y.n).f1.length ≤ 1001 from hbg.2.1); omega))
  have hSg := fun V hV => big_Sign _ (can y.n) V (hkv V hV) (can_dg _)
  have hTx := fun V hV => big_Text _ (can y.n) V (hkv V hV) hbg.1
  simp only [bv_can] at hSg hTx
  have hIt := fun (V : World) (hV : Below (w0.heap.size + 1) w1 V) => itoa_below y.v hbg.2.2.1 hbg.2.2.2 V (hT.out.below (hb1.out.trans (hV.mono (Nat.le_succ _))))
  have hS0 : BT (w0.heap.size + 1) (w0.heap.size + 1) (w3.heap.size + 1) w1 W s W := ⟨hI, hB, KpB.refl _, KeepsOthers.refl _⟩
  have hfin : ∀ V, BT (w0.heap.size + 1) (w0.heap.size + 1) (w3.heap.size + 1) w1 W (txtP s y.p) V → KeepsFrom w3.heap.size W V ∧ KpB (w0.heap.size + 1) (w3.heap.size + 1) W V ∧ Lib.IsBuilder 104 5 (w0.heap.size + 1) (w0.heap.size + 1) (Lib.byteCells (txts ((pre ++ [y]).map VE.p))) V ∧ Below (w0.heap.size + 1) w1 V ∧ ∀ z ∈ pre ++ [y], z.p ∈ LnP.nrm (psB x.f1) := fun V h => ⟨h.ko.from _, h.kp, by rw [hsn]; exact h.is_, h.bel, hm2.out⟩
  have hfin := Sdq.mk hfin;have hil := itoa_big hbg.2.1;have hil2 := itoa64_len hbg.2.2.1 hbg.2.2.2;rw [show y.p.2 = y.n from rfl] at hil;rw [show y.p.1 = y.v from rfl] at hil2;have htp : txtP s y.p = s ++ (if s ≠ [] ∧ 0 < y.n then [43] else []) ++ (Lib.itoa y.n ++ ([42, 120] ++ Lib.itoa y.v)) := rfl
  obtain ⟨T, eT⟩ : ∃ T, T = decI y.n := ⟨_, rfl⟩
  obtain ⟨I, eI⟩ : ∃ I : ByteArray, I = ⟨(Lib.itoa y.v).toArray⟩ := ⟨_, rfl⟩
  obtain ⟨sv, esv⟩ : ∃ sv, sv = sgn y.n := ⟨_, rfl⟩
  have hTl : T.data.toList = Lib.itoa y.n := by rw [eT]; exact decI_itoa _
  have hIl : I.data.toList = Lib.itoa y.v := by rw [eI]
  rw [← hTl, ← hIl] at htp
  have hTs : T.size ≤ 10020 := by have : T.size = T.data.toList.length := rfl; rw [this, hTl]; exact hil
  have hIs : I.size ≤ 30 := by have : I.size = I.data.toList.length := rfl; rw [this, hIl]; exact hil2
  rw [← eT] at hTx;rw [← eI] at hIt;rw [← esv] at hSg
  have hadd1 : ¬ 9223372036854775807 < T.size + 2 := by omega
  have hadd2 : ¬ 9223372036854775807 < T.size + 2 + I.size := by omega
  have hts := Sdq.mk (show (T ++ ⟨#[42, 120]⟩ ++ I).size ≤ 1000000000 by
   rw [ByteArray.size_append, ByteArray.size_append]
   show T.size + 2 + I.size ≤ _
   omega)
  have c0 := Ctx.blk hg 0 rfl;have c1 := Ctx.blk hg 1 rfl;have hSg := Sdq.mk hSg;have hTx := Sdq.mk hTx;have hIt := Sdq.mk hIt;have hbx := Sdq.mk hbx;have hS0 := Sdq.mk hS0;clear hI hB hm hg hrow hkv hsn es hil hil2 hTl hIl eT eI hlen
  by_cases hs : s = []
  ·subst hs
   have hl1 := Sdq.mk (show ([] : List UInt8).length ≤ 1000000000 by simp)
   have h0 : ¬ (0 : Int) < (([] : List UInt8).length : Int) := by decide
   gi_wp2_with (refine ⟨trivial, ?_⟩; gi_at_call 60; refine (CallsIn.inRound l (callsIn_wide.2 (bt_Len hS0.out))).mono ?_; rintro e1 W1 ⟨rfl, rfl⟩)
   refine ⟨trivial, ?_⟩
   gi_wp2_with (first | (refine ⟨trivial, ?_⟩; gi_at_call 63; refine (CallsIn.inRound l (callsIn_wide.2 (hTx.out _ (hS0).out.kp))).mono ?_; rintro e3 W3 ⟨rfl, hb3⟩; have hS3 := Sdq.mk ((hS0).out.below hb3)) | (refine ⟨trivial, ?_⟩; gi_at_call 64; refine (CallsIn.inRound l (callsIn_wide.2 (hIt.out _ hS3.out.bel))).mono ?_; rintro e4 W4 ⟨rfl, hb4⟩; have hS4 := Sdq.mk (hS3.out.below hb4)) | (refine ⟨trivial, ?_⟩; gi_at_call 62; refine (CallsIn.inRound l (callsIn_wide.2 (bt_str hS4.out _ hl1.out hts.out))).mono ?_; rintro e5 W5 ⟨rfl, hS5⟩; have hS5 := Sdq.mk hS5))
   exact hfin.out _ (by rw [htp, if_neg (by simp), List.append_nil]; have := hS5.out; simpa using this)
  ·by_cases hn : 0 < y.n
   ·have hL := bt_Len hS0.out
    have hn0 : (0 : Int) < (s.length : Int) := by have := List.length_pos_iff.2 hs; omega
    obtain ⟨nl, enl⟩ : ∃ nl : Int, nl = (s.length : Int) := ⟨_, rfl⟩
    rw [← enl] at hL hn0;have hL := Sdq.mk hL;clear enl;have hl0 := Sdq.mk (show s.length ≤ 1000000000 by omega);have hl1 := Sdq.mk (show (s ++ [43]).length ≤ 1000000000 by simp; omega)
    have hsv : 0 < sv := by rw [esv, sgn_gt hn]; decide
    have hcnd := Sdq.mk (And.intro hs hn);clear esv hn hs hsl
    gi_wp2_with (first | (refine ⟨trivial, ?_⟩; gi_at_call 60; refine (CallsIn.inRound l (callsIn_wide.2 (hL.out))).mono ?_; rintro e1 W1 ⟨rfl, rfl⟩) | (refine ⟨trivial, ?_⟩; gi_at_call 51; refine (CallsIn.inRound l (callsIn_wide.2 (hSg.out _ hS0.out.kp))).mono ?_; rintro e2 W2 ⟨rfl, hb2⟩; have hS2 := Sdq.mk (hS0.out.below hb2); have d0 := Ctx.blk (hbx.out _ hS2.out.kp) 0 rfl; have d1 := Ctx.blk (hbx.out _ hS2.out.kp) 1 rfl) | (refine ⟨trivial, ?_⟩; gi_at_call 61; refine (CallsIn.inRound l (callsIn_wide.2 (bt_plus hS2.out hl0.out))).mono ?_; rintro e6 W6 ⟨rfl, hS6⟩; have hS6 := Sdq.mk hS6; have f0 := Ctx.blk (hbx.out _ hS6.out.kp) 0 rfl; have f1 := Ctx.blk (hbx.out _ hS6.out.kp) 1 rfl) | (refine ⟨trivial, ?_⟩; gi_at_call 63; refine (CallsIn.inRound l (callsIn_wide.2 (hTx.out _ (hS6).out.kp))).mono ?_; rintro e3 W3 ⟨rfl, hb3⟩; have hS3 := Sdq.mk ((hS6).out.below hb3)) | (refine ⟨trivial, ?_⟩; gi_at_call 64; refine (CallsIn.inRound l (callsIn_wide.2 (hIt.out _ hS3.out.bel))).mono ?_; rintro e4 W4 ⟨rfl, hb4⟩; have hS4 := Sdq.mk (hS3.out.below hb4)) | (refine ⟨trivial, ?_⟩; gi_at_call 62; refine (CallsIn.inRound l (callsIn_wide.2 (bt_str hS4.out _ hl1.out hts.out))).mono ?_; rintro e5 W5 ⟨rfl, hS5⟩; have hS5 := Sdq.mk hS5))
    exact hfin.out _ (by rw [htp, if_pos hcnd.out]; have := hS5.out; simpa using this)
   ·have hL := bt_Len hS0.out
    have hn0 : (0 : Int) < (s.length : Int) := by have := List.length_pos_iff.2 hs; omega
    obtain ⟨nl, enl⟩ : ∃ nl : Int, nl = (s.length : Int) := ⟨_, rfl⟩
    rw [← enl] at hL hn0;have hL := Sdq.mk hL;clear enl;have hl1 := Sdq.mk (show s.length ≤ 1000000000 by omega)
    have hsv : ¬ 0 < sv := by
     rw [esv]
     rcases Int.lt_or_eq_of_le (show y.n ≤ 0 by omega) with h | h
     ·rw [sgn_lt h]; decide
     ·rw [sgn_zero h]; decide
    have hcnd := Sdq.mk (show ¬ (s ≠ [] ∧ 0 < y.n) from fun h => hn h.2);clear esv hn hs hsl
    gi_wp2_with (first | (refine ⟨trivial, ?_⟩; gi_at_call 60; refine (CallsIn.inRound l (callsIn_wide.2 (hL.out))).mono ?_; rintro e1 W1 ⟨rfl, rfl⟩) | (refine ⟨trivial, ?_⟩; gi_at_call 51; refine (CallsIn.inRound l (callsIn_wide.2 (hSg.out _ hS0.out.kp))).mono ?_; rintro e2 W2 ⟨rfl, hb2⟩; have hS2 := Sdq.mk (hS0.out.below hb2); have d0 := Ctx.blk (hbx.out _ hS2.out.kp) 0 rfl; have d1 := Ctx.blk (hbx.out _ hS2.out.kp) 1 rfl) | (refine ⟨trivial, ?_⟩; gi_at_call 63; refine (CallsIn.inRound l (callsIn_wide.2 (hTx.out _ (hS2).out.kp))).mono ?_; rintro e3 W3 ⟨rfl, hb3⟩; have hS3 := Sdq.mk ((hS2).out.below hb3)) | (refine ⟨trivial, ?_⟩; gi_at_call 64; refine (CallsIn.inRound l (callsIn_wide.2 (hIt.out _ hS3.out.bel))).mono ?_; rintro e4 W4 ⟨rfl, hb4⟩; have hS4 := Sdq.mk (hS3.out.below hb4)) | (refine ⟨trivial, ?_⟩; gi_at_call 62; refine (CallsIn.inRound l (callsIn_wide.2 (bt_str hS4.out _ hl1.out hts.out))).mono ?_; rintro e5 W5 ⟨rfl, hS5⟩; have hS5 := Sdq.mk hS5))
    exact hfin.out _ (by rw [htp, if_neg hcnd.out, List.append_nil]; have := hS5.out; simpa using this)
 case done =>
  rintro D ys W hD hS ⟨hI, hB, -⟩ hK
  have hSl : (txts (LnP.nrm (psB x.f1))).length ≤ 400000 := by
   have h1 := txts_len (L := 10020) _ (LnP.nrm (psB x.f1)) rfl (fun q hq => by
    have h2 := hps.out.2 q hq
    exact ⟨itoa64_len h2.2.2.1 h2.2.2.2, itoa_big h2.2.1⟩)
   have h2 := hps.out.1;have h3 : (LnP.nrm (psB x.f1)).length * (10020 + 40) ≤ 39 * (10020 + 40) := Nat.mul_le_mul_right _ h2
   omega
  rw [hS] at hI;have hRQ := hR.out
  obtain ⟨s, es⟩ : ∃ s, s = txts (LnP.nrm (psB x.f1)) := ⟨_, rfl⟩
  unfold txtT at hRQ;rw [← es] at hI hSl hRQ
  have hS0 : BT (w0.heap.size + 1) (w0.heap.size + 1) (w3.heap.size + 1) w1 W s W := ⟨hI, hB, KpB.refl _, KeepsOthers.refl _⟩
  have hbw : ∀ V, Below (w0.heap.size + 1) w1 V → Below w0.heap.size w0 V := fun V hV => hb1.out.trans (hV.mono (Nat.le_succ _))
  have hend : ∀ (V : World) (l : List UInt8), BT (w0.heap.size + 1) (w0.heap.size + 1) (w3.heap.size + 1) w1 W l V → R = ⟨l.toArray⟩ → Calls Tryd.prog 65 #[.pointer (some ⟨w0.heap.size + 1, 0, none⟩)] V fun e V' => e = .returned (.string R) ∧ Sdq (V'.heap[D]? = some (.deferred (some [])) ∧ Below w0.heap.size w0 V') := fun V l h hl => by
   refine (Tryd.Builder_String_any_k (w0.heap.size + 1) (w0.heap.size + 1) l V (Lib.IsBuilderF.of h.is_) (Nat.le_of_lt (isB_lt h.is_))).mono ?_;rintro e V' ⟨rfl, -, h2, h3⟩;exact ⟨by rw [hl], ⟨h3 D _ (h.ko.same D _ hK rfl) (by have := hbl3.out; simp; omega) (by intro c fz h; cases h), hbw _ (h.bel.trans h2)⟩⟩
  have hend := Sdq.mk hend
  have hbx : ∀ V, Below (w0.heap.size + 1) w1 V → (uBlk w0.heap.size [.bool x.f0.f0, .slice A x.f0.f1.length c, .slice B x.f1.length d] 27).p V := fun V hV => (hV.block _ (Nat.lt_succ_self _)).trans C1.out.2.1
  have hkv : ∀ V, Below (w0.heap.size + 1) w1 V → Kv k24 (fun _ => True) V (.agg #[.bool x.f0.f0, .slice A x.f0.f1.length c]) x.f0 := fun V hV => hk0.out.below (hbw V hV)
  have hSg := fun V hV => big_Sign _ x.f0 V (hkv V hV) hx.out.c.dg
  have hTx := fun V hV => big_Text _ x.f0 V (hkv V hV) hx.out.c
  have hdec := decI_itoa (bv x.f0)
  have hcl : (Lib.itoa (bv x.f0)).length ≤ 1000000 := by
   have h1 := itoa_len (bv x.f0);have h2 := dec_len hx.out.c.dg;rw [show val B32 x.f0.f1 = ((bv x.f0).natAbs : Int) by have := val_nonneg (B := B32) (by decide) hx.out.c.dg; unfold bv sg; split <;> omega] at h2;have := hx.out.c.len
   omega
  obtain ⟨cc, ecc⟩ : ∃ cc, cc = bv x.f0 := ⟨_, rfl⟩
  rw [← ecc] at hSg hTx hRQ hdec hcl
  obtain ⟨T, eT⟩ : ∃ T, T = decI cc := ⟨_, rfl⟩
  obtain ⟨sv, esv⟩ : ∃ sv, sv = sgn cc := ⟨_, rfl⟩
  rw [← eT] at hTx hdec;rw [← esv] at hSg;have hts := Sdq.mk (show T.size ≤ 1000000000 by have : T.size = T.data.toList.length := rfl; rw [this, hdec]; omega);rw [← hdec] at hRQ;have c0 := Ctx.blk (hbx W hB) 0 rfl;have c1 := Ctx.blk (hbx W hB) 1 rfl;have hSg := Sdq.mk hSg;have hTx := Sdq.mk hTx;have hbx := Sdq.mk hbx;have hS0 := Sdq.mk hS0;have hD' := Sdq.mk (show w0.heap.size ≤ D by have := hbl3.out; omega);clear hI hB hK hkv hS es hdec hcl eT hD hbw ecc
  have hL := fun V => bt_Len (V := V) (B := w0.heap.size + 1) (b := w0.heap.size + 1) (R := w3.heap.size + 1) (w1 := w1) (W := W) (s := s)
  obtain ⟨nl, enl⟩ : ∃ nl : Int, nl = (s.length : Int) := ⟨_, rfl⟩
  rw [← enl] at hL;have hL := Sdq.mk hL
  by_cases hs : s = []
  ·have hn0 : (nl == 0) = true := by rw [enl, hs]; rfl
   have hn1 : ¬ 0 < nl := by rw [enl, hs]; decide
   have hRR := Sdq.mk (show R = ⟨(s ++ T.data.toList).toArray⟩ by rw [hRQ, if_pos (Or.inl hs), hs]; simp);have hl1 := Sdq.mk (show s.length ≤ 1000000000 by omega);clear hRQ hs enl esv hSl;go_wp2_with (first | (go_at_call 60; refine (hL.out _ hS0.out).mono ?_; rintro e1 W1 ⟨rfl, rfl⟩) | (go_at_call 63; refine (hTx.out _ hS0.out.bel).mono ?_; rintro e2 hS1W ⟨rfl, hb2⟩; have hS1 := Sdq.mk (hS0.out.below hb2); have hS1c0 := Ctx.blk (hbx.out _ hS1.out.bel) 0 rfl; have hS1c1 := Ctx.blk (hbx.out _ hS1.out.bel) 1 rfl) | (go_at_call 62; refine (bt_str hS1.out _ hl1.out hts.out).mono ?_; rintro e2 hS2W ⟨rfl, hh⟩; have hS2 := Sdq.mk hh; clear hh) | (go_at_call 65; refine (hend.out _ _ hS2.out hRR.out).mono ?_; rintro e2 WE ⟨rfl, hE⟩));exact marks_ret1 hE.out.1 (.string R) (by simp [results, Tryd.results30, go_sem]) ⟨rfl, below_put hE.out.2 hD'.out hE.out.1 _⟩
  ·have hn0 : (nl == 0) = false := by have := List.length_pos_iff.2 hs; simp; omega
   have hn1 : 0 < nl := by have := List.length_pos_iff.2 hs; omega
   by_cases hc0 : cc = 0
   ·have hsv : sv = 0 := by rw [esv]; exact sgn_zero hc0
    have hRR := Sdq.mk (show R = ⟨s.toArray⟩ by rw [hRQ, if_neg (by simp [hs, hc0])]);subst hsv;clear hRQ hs enl esv hSl hc0;go_wp2_with (first | (go_at_call 60; refine (hL.out _ hS0.out).mono ?_; rintro e1 W1 ⟨rfl, rfl⟩) | (go_at_call 51; refine (hSg.out _ hS0.out.bel).mono ?_; rintro e2 hS1W ⟨rfl, hb2⟩; have hS1 := Sdq.mk (hS0.out.below hb2); have hS1c0 := Ctx.blk (hbx.out _ hS1.out.bel) 0 rfl; have hS1c1 := Ctx.blk (hbx.out _ hS1.out.bel) 1 rfl) | (go_at_call 65; refine (hend.out _ _ hS1.out hRR.out).mono ?_; rintro e2 WE ⟨rfl, hE⟩));exact marks_ret1 hE.out.1 (.string R) (by simp [results, Tryd.results30, go_sem]) ⟨rfl, below_put hE.out.2 hD'.out hE.out.1 _⟩
   ·by_cases hcp : 0 < cc
    ·have hsv0 : (sv == 0) = false := by rw [esv, sgn_gt hcp]; rfl
     have hsv : 0 < sv := by rw [esv, sgn_gt hcp]; decide
     have hRR := Sdq.mk (show R = ⟨(s ++ [43] ++ T.data.toList).toArray⟩ by rw [hRQ, if_pos (Or.inr hc0), if_pos ⟨hs, hcp⟩]);have hl0 := Sdq.mk (show s.length ≤ 1000000000 by omega);have hl1 := Sdq.mk (show (s ++ [43]).length ≤ 1000000000 by simp; omega);clear hRQ hs enl esv hSl hc0 hcp;go_wp2_with (first | (go_at_call 60; refine (hL.out _ hS1.out).mono ?_; rintro e1 W1 ⟨rfl, rfl⟩) | (go_at_call 60; refine (hL.out _ hS0.out).mono ?_; rintro e1 W1 ⟨rfl, rfl⟩) | (go_at_call 51; refine (hSg.out _ hS1.out.bel).mono ?_; rintro e2 hS2W ⟨rfl, hb2⟩; have hS2 := Sdq.mk (hS1.out.below hb2); have hS2c0 := Ctx.blk (hbx.out _ hS2.out.bel) 0 rfl; have hS2c1 := Ctx.blk (hbx.out _ hS2.out.bel) 1 rfl) | (go_at_call 51; refine (hSg.out _ hS0.out.bel).mono ?_; rintro e2 hS1W ⟨rfl, hb2⟩; have hS1 := Sdq.mk (hS0.out.below hb2); have hS1c0 := Ctx.blk (hbx.out _ hS1.out.bel) 0 rfl; have hS1c1 := Ctx.blk (hbx.out _ hS1.out.bel) 1 rfl) | (go_at_call 61; refine (bt_plus hS2.out hl0.out).mono ?_; rintro e2 hS3W ⟨rfl, hh⟩; have hS3 := Sdq.mk hh; clear hh; have hS3c0 := Ctx.blk (hbx.out _ hS3.out.bel) 0 rfl; have hS3c1 := Ctx.blk (hbx.out _ hS3.out.bel) 1 rfl) | (go_at_call 63; refine (hTx.out _ hS3.out.bel).mono ?_; rintro e2 hS4W ⟨rfl, hb2⟩; have hS4 := Sdq.mk (hS3.out.below hb2); have hS4c0 := Ctx.blk (hbx.out _ hS4.out.bel) 0 rfl; have hS4c1 := Ctx.blk (hbx.out _ hS4.out.bel) 1 rfl) | (go_at_call 62; refine (bt_str hS4.out _ hl1.out hts.out).mono ?_; rintro e2 hS5W ⟨rfl, hh⟩; have hS5 := Sdq.mk hh; clear hh) | (go_at_call 65; refine (hend.out _ _ hS5.out hRR.out).mono ?_; rintro e2 WE ⟨rfl, hE⟩));exact marks_ret1 hE.out.1 (.string R) (by simp [results, Tryd.results30, go_sem]) ⟨rfl, below_put hE.out.2 hD'.out hE.out.1 _⟩
    ·have hsv0 : (sv == 0) = false := by rw [esv, sgn_lt (by omega)]; rfl
     have hsv : ¬ 0 < sv := by rw [esv, sgn_lt (by omega)]; decide
     have hRR := Sdq.mk (show R = ⟨(s ++ T.data.toList).toArray⟩ by rw [hRQ, if_pos (Or.inr hc0), if_neg (fun h => hcp h.2), List.append_nil]);have hl1 := Sdq.mk (show s.length ≤ 1000000000 by omega);clear hRQ hs enl esv hSl hc0 hcp;go_wp2_with (first | (go_at_call 60; refine (hL.out _ hS1.out).mono ?_; rintro e1 W1 ⟨rfl, rfl⟩) | (go_at_call 60; refine (hL.out _ hS0.out).mono ?_; rintro e1 W1 ⟨rfl, rfl⟩) | (go_at_call 51; refine (hSg.out _ hS1.out.bel).mono ?_; rintro e2 hS2W ⟨rfl, hb2⟩; have hS2 := Sdq.mk (hS1.out.below hb2); have hS2c0 := Ctx.blk (hbx.out _ hS2.out.bel) 0 rfl; have hS2c1 := Ctx.blk (hbx.out _ hS2.out.bel) 1 rfl) | (go_at_call 51; refine (hSg.out _ hS0.out.bel).mono ?_; rintro e2 hS1W ⟨rfl, hb2⟩; have hS1 := Sdq.mk (hS0.out.below hb2); have hS1c0 := Ctx.blk (hbx.out _ hS1.out.bel) 0 rfl; have hS1c1 := Ctx.blk (hbx.out _ hS1.out.bel) 1 rfl) | (go_at_call 63; refine (hTx.out _ hS2.out.bel).mono ?_; rintro e2 hS4W ⟨rfl, hb2⟩; have hS4 := Sdq.mk (hS2.out.below hb2); have hS4c0 := Ctx.blk (hbx.out _ hS4.out.bel) 0 rfl; have hS4c1 := Ctx.blk (hbx.out _ hS4.out.bel) 1 rfl) | (go_at_call 62; refine (bt_str hS4.out _ hl1.out hts.out).mono ?_; rintro e2 hS5W ⟨rfl, hh⟩; have hS5 := Sdq.mk hh; clear hh) | (go_at_call 65; refine (hend.out _ _ hS5.out hRR.out).mono ?_; rintro e2 WE ⟨rfl, hE⟩));exact marks_ret1 hE.out.1 (.string R) (by simp [results, Tryd.results30, go_sem]) ⟨rfl, below_put hE.out.2 hD'.out hE.out.1 _⟩
end Go.Proofs.YthpgjgmaamcaoaaDoor.P
end
section
namespace Go.Proofs.YthpgjgmaamcaoaaDoor.P
open Go.RowKit Go.Shelf Go.Proofs.YthpgjgmaamcaoaaDoor.P Go.Proofs.YthpgjgmaamcaoaaDoorW.PrintWords Go.Proofs.YthpgjgmaamcaoaaDoorW.PrintLast Go.Proofs.YthpgjgmaamcaoaaDoorW.PrintMore Go.Proofs.YthpgjgmaamcaoaaDoor.Nm
set_option maxRecDepth 100000
set_option linter.unusedVariables false
set_option linter.unusedSimpArgs false
theorem law_summed.tab2 : tabOf (opsOf Tryd.f10 2) = ([some 12, some 13, some 14, some 15, some 16, some 17, some 18, some 19, some 20, some 21, some 22, some 23, some 24, some 0], [[], [0], [1], [2, 1], [3], [3, 3], [5, 3], [6, 6, 3], [5, 7, 7, 3], [4, 8, 8, 3], [9, 9, 3], [10, 3], [3, 11], [12, 10, 0, 1, 2, 3, 4, 5, 6, 7, 8, 9, 10, 11, 12]]) := by kernel_rfl
def Sm (n : Int) : Prop := (n.natAbs : Int) < 4294967296
theorem Sm.len {n : Int} (h : Sm n) : (can n).f1.length ≤ 1 := can_len (by unfold Sm at h; unfold B32; simpa using h)
theorem Sm.big {n : Int} (h : Sm n) : Big (can n) := ⟨can_dg n, Nat.le_trans h.len (by decide)⟩
theorem sm_lin {k : Int} {ps : LnP.Ps} (hk : Sm k) (hp : ∀ p ∈ ps, Sm p.2) (hl : ps.length ≤ 39) : LIn (tt k ps) :=
 ⟨by show (ps.map cp).length ≤ 39; rwa [List.length_map], ⟨can_dg _, Nat.le_trans hk.len (by decide)⟩, fun p hq => by
  obtain ⟨z, hz, rfl⟩ := List.mem_map.1 hq
  exact ⟨can_dg _, Nat.le_trans (hp z hz).len (by decide)⟩⟩
theorem itoa_1 : Lib.itoa 1 = [49] := by show Lib.decDigits 1 = _; rw [Lib.decDigits]; rfl
theorem itoa_2 : Lib.itoa 2 = [50] := by show Lib.decDigits 2 = _; rw [Lib.decDigits]; rfl
theorem itoa_3 : Lib.itoa 3 = [51] := by show Lib.decDigits 3 = _; rw [Lib.decDigits]; rfl
theorem itoa_5 : Lib.itoa 5 = [53] := by show Lib.decDigits 5 = _; rw [Lib.decDigits]; rfl
theorem sum_text1 : txtT 5 [(1, 2)] = [50, 42, 120, 49, 43, 53] := by
 simp [txtT, txts, txtP, itoa_1, itoa_2, itoa_5]
theorem sum_text2 : txtT 3 [(2, 2)] = [50, 42, 120, 50, 43, 51] := by
 simp [txtT, txts, txtP, itoa_2, itoa_3]
theorem cv_laid {O : Nat → Prop} {W : World} {es : List El} {xs : List S44} (hl : es.length = xs.length) (hm : xs.length ≤ 39) (hn : 0 < xs.length) (hO : ∀ k, W.heap.size ≤ k → O k) (h : ∀ (i : Nat) (x : S44) (e : El), xs[i]? = some x → es[i]? = some e → Kd.FK k44 W O x e.cs) :
  Cv k44 O (W.alloc (.cells (es.flatMap El.cs).toArray 44)) (.slice (some ⟨W.heap.size, 0, none⟩) es.length es.length) xs := by
 have hb : Below W.heap.size W (W.alloc (.cells (es.flatMap El.cs).toArray 44)) := bal (Below.refl _ _) _;have hf := cs_flat es
 exact ns_row (W := W.alloc (.cells (es.flatMap El.cs).toArray 44)) (base := W.heap.size) (O := O) (pv := .slice (some ⟨W.heap.size, 0, none⟩) es.length es.length) (os := es) (xs := xs)
  ⟨hf, .inr ⟨W.heap.size, es.length, (es.flatMap El.cs).toArray, rfl, Nat.le_refl _, blk_new W _, Nat.le_refl _, by unfold maxLen; omega, by rw [List.size_toArray, hf], by rw [← hf]; exact List.take_length⟩⟩ hO hl (by omega) (fun i x e hx he => Kd.FK_below (h i x e hx he) hb)
def uTab : UpP := ⟨TabOk, fun _ _ h hb => h.below hb⟩
theorem lin_TextS (k : Int) (ps : LnP.Ps) (S : ByteArray) (v : Value) (w0 : World) (h : Kv kTB (fun _ => True) w0 v (tt k ps)) (hx : LIn (tt k ps)) (hv : ∀ p ∈ ps, -9223372036854775808 ≤ p.1 ∧ p.1 ≤ 9223372036854775807) (hT : TabOk w0) (ho : LnP.nrm ps = ps) (hS : (⟨(txtT k ps).toArray⟩ : ByteArray) = S) :
  Calls Tryd.prog 30 #[v] w0 fun e w' => ∃ v, e = .returned v ∧ v = .string S ∧ Below w0.heap.size w0 w' := by
 have h1 := lin_Text v (tt k ps) w0 h (lin_nin hx) (fun p hp => by
  obtain ⟨z, hz, rfl⟩ := List.mem_map.1 hp
  exact hv z hz) hT
 rw [show bv (tt k ps).f0 = k from bv_can k, show psB (tt k ps).f1 = ps from psB_cp ps, ho, hS] at h1;exact h1.mono (fun e w' he => ⟨_, he.1, rfl, he.2⟩)
set_option maxHeartbeats 3200000 in
theorem law_summed (w0 : World) (hT : TabOk w0) : Calls Tryd.prog 10 #[] w0 fun e w' => e = .returned (.bool true) ∧ Below w0.heap.size w0 w' := by
 have hin := Sdq.mk (show LIn (tt 5 [(1, 2)]) ∧ LIn (tt 3 [(2, 2)]) from ⟨sm_lin (by unfold Sm; decide) (by unfold Sm; decide) (by decide), sm_lin (by unfold Sm; decide) (by unfold Sm; decide) (by decide)⟩)
 have hOf := Sdq.mk (fun (w : World) (v : Value) (h : Kv k24 (fun _ => True) w v (can 1)) => by
  have h1 := lin_Of (fun _ => True) v (can 1) w (fun _ _ => trivial) h (Sm.big (by unfold Sm; decide));rw [bv_can] at h1
  exact h1)
 have hSub := Sdq.mk (fun (w : World) (u v : Value) (h : Kv kTB (fun _ => True) w u (tt 0 [(2, 1)])) (h' : Kv kTB (fun _ => True) w v (tt 1 [])) => by
  have h1 := lin_Sub (fun _ => True) u v _ _ w (fun _ _ => trivial) h h' (lin_sin (sm_lin (by unfold Sm; decide) (by unfold Sm; decide) (by decide))) (lin_sin (sm_lin (by unfold Sm; decide) (by unfold Sm; decide) (by decide))) (by decide);rw [show bv ((tt 0 [(2, 1)])).f0 - bv ((tt 1 [])).f0 = -1 by show bv (can 0) - bv (can 1) = -1; rw [bv_can, bv_can]; rfl, show psB ((tt 0 [(2, 1)])).f1 = [(2, 1)] from psB_cp _, show psB ((tt 1 [])).f1 = [] from rfl] at h1
  exact h1)
 have hSst := Sdq.mk (fun (w : World) (u v : Value) (h : Kv kTB (fun _ => True) w u (tt 5 [(1, 2)])) (h' : Kv kTB (fun _ => True) w v (tt (-1) [(2, 1)])) => by
  have h1 := lin_Subst (fun _ => True) u v _ _ 1 w (fun _ _ => trivial) h h' (sm_lin (by unfold Sm; decide) (by unfold Sm; decide) (by decide)) (sm_lin (by unfold Sm; decide) (by unfold Sm; decide) (by decide)) (by decide);rw [show psB ((tt 5 [(1, 2)])).f1 = [(1, 2)] from psB_cp _, show psB ((tt (-1) [(2, 1)])).f1 = [(2, 1)] from psB_cp _, show bv ((tt 5 [(1, 2)])).f0 = 5 from bv_can 5, show bv ((tt (-1) [(2, 1)])).f0 = -1 from bv_can (-1), show ((tt 5 [(1, 2)])).f1.filter (fun p => p.f0 != 1) = [] from rfl] at h1
  exact h1)
 have hT := Sdq.mk hT;go_enter Tryd.func10, Tryd.ntmps10;go_wp2_with (first | (have _ := hv3; go_at_call 41; refine (big_Of (fun _ => True) _ _ (fun _ _ => trivial) (by decide) (by decide)).mono ?_; rintro e4 W4 ⟨v4, rfl, hv4, hb4⟩; obtain ⟨A4, c4, rfl, l4, F4⟩ := hv4.openB) | (have _ := hv2; go_at_call 41; refine (big_Of (fun _ => True) _ _ (fun _ _ => trivial) (by decide) (by decide)).mono ?_; rintro e3 W3 ⟨v3, rfl, hv3, hb3⟩; obtain ⟨A3, c3, rfl, l3, F3⟩ := hv3.openB) | (have _ := hv1; go_at_call 41; refine (big_Of (fun _ => True) _ _ (fun _ _ => trivial) (by decide) (by decide)).mono ?_; rintro e2 W2 ⟨v2, rfl, hv2, hb2⟩; obtain ⟨A2, c2, rfl, l2, F2⟩ := hv2.openB) | (go_at_call 41; refine (big_Of (fun _ => True) _ _ (fun _ _ => trivial) (by decide) (by decide)).mono ?_; rintro e1 W1 ⟨v1, rfl, hv1, hb1⟩; obtain ⟨A1, c1, rfl, l1, F1⟩ := hv1.openB) | fail)
 have hrow := cv_laid (O := fun _ => True) (W := W4) (es := [⟨3, (can 1).f0, A2, (can 1).f1.length, c2⟩, ⟨1, (can 2).f0, A3, (can 2).f1.length, c3⟩, ⟨3, (can (-1)).f0, A4, (can (-1)).f1.length, c4⟩]) (xs := [cp (3, 1), cp (1, 2), cp (3, -1)]) rfl (by decide) (by decide) (fun _ _ => trivial) (fun i x e h1 h2 => by
  match i, h1, h2 with
  | 0, h1, h2 => obtain rfl := Option.some.inj h1; obtain rfl := Option.some.inj h2; exact el_fk rfl rfl rfl l2 (Kd.F_below (Kd.F_below F2 hb3) hb4)
  | 1, h1, h2 => obtain rfl := Option.some.inj h1; obtain rfl := Option.some.inj h2; exact el_fk rfl rfl rfl l3 (Kd.F_below F3 hb4)
  | 2, h1, h2 => obtain rfl := Option.some.inj h1; obtain rfl := Option.some.inj h2; exact el_fk rfl rfl rfl l4 F4)
 obtain ⟨B', d', e1, l5, F5⟩ := hrow
 injection e1 with e2 e9 e3
 subst e2;have hbA : Below w0.heap.size w0 W4 := below_step (below_step (below_step hb1 hb2) hb3) hb4;have hN := lin_Norm (fun _ => True) _ ⟨can 5, [cp (3, 1), cp (1, 2), cp (3, -1)]⟩ _ (fun _ _ => trivial) ⟨_, rfl, kTB_mkF _ _ ⟨can 5, [cp (3, 1), cp (1, 2), cp (3, -1)]⟩ l1 (Kd.F_below (Kd.F_below (Kd.F_below (Kd.F_below F1 hb2) hb3) hb4) (bal (Below.refl _ _) _)) (show 3 ≤ 3 from Nat.le_refl _) F5⟩ (lin_nin (sm_lin (k := 5) (ps := [(3, 1), (1, 2), (3, -1)]) (by unfold Sm; decide) (by unfold Sm; decide) (by decide)));rw [show bv (⟨can 5, [cp (3, 1), cp (1, 2), cp (3, -1)]⟩ : TB).f0 = 5 from bv_can 5, show psB (⟨can 5, [cp (3, 1), cp (1, 2), cp (3, -1)]⟩ : TB).f1 = [(3, 1), (1, 2), (3, -1)] from psB_cp [(3, 1), (1, 2), (3, -1)], show LnP.nrm [(3, 1), (1, 2), (3, -1)] = [(1, 2)] by decide] at hN;refine hN.mono ?_;rintro e5 W5 ⟨v5, rfl, hv5, hb5⟩;obtain ⟨tA, tc, tB, td, rfl, -, -⟩ := hv5.openTB;simp only [show (tt 5 [(1, 2)]).f0 = can 5 from rfl, show (tt 5 [(1, 2)]).f1.length = 1 from rfl] at hv5 ⊢;have hb0 : Below w0.heap.size w0 W5 := below_step (bal hbA _) hb5;have C := Ctx.new (cs := [.bool (can 5).f0, .slice tA (can 5).f1.length tc, .slice tB 1 td]) (t := 27) (Ctx.cons (uK kTB (fun _ => True) (.agg #[.bool (can 5).f0, .slice tA (can 5).f1.length tc, .slice tB 1 td]) (tt 5 [(1, 2)])) hv5 (Ctx.cons (uB w0) hb0 (Ctx.cons uTab (hT.out.below hb0) Ctx.nil)))
 obtain ⟨g1, eg1⟩ : ∃ g1, g1 = W5.heap.size := ⟨_, rfl⟩
 clear hbA hN hb5 hb4 hb3 hb2 hb1 F1 F2 F3 F4 F5 l1 l2 l3 l4 l5 hv1 hv2 hv3 hv4 hv5 hb0
 go_upto_region 2 with fail
 simp only [← eg1] at C ⊢;refine absW _ C ?_;clear C eg1;intro w6 C;refine flowT (n := 14) law_summed.tab2 rfl (Ctx _) (Rl [uEq (.agg #[.bool (can 5).f0, .slice tA (can 5).f1.length tc, .slice tB 1 td]), uEq (.string ⟨#[50, 42, 120, 49, 43, 53]⟩), uEq (.bool true), uEq (.bool true), uEq (.agg #[.bool (can 5).f0, .slice tA (can 5).f1.length tc, .slice tB 1 td]), uKd kTB (fun _ => True) (tt 0 [(2, 1)]), uKd k24 (fun _ => True) (can 1), uKd kTB (fun _ => True) (tt 1 []), uKd kTB (fun _ => True) (tt (-1) [(2, 1)]), uKd kTB (fun _ => True) (tt 3 [(2, 2)]), uEq (.string ⟨#[50, 42, 120, 50, 43, 51]⟩), uEq (.bool true), uEq (.bool true), uEq (.bool true)]) rfl (by kernel_rfl) (fun _ _ h hb => h.below hb) (Rl.up _) C ⟨⟨⟨⟨⟨⟨⟨⟨⟨⟨⟨⟨⟨⟨trivial, ?_⟩, ?_⟩, ?_⟩, ?_⟩, ?_⟩, ?_⟩, ?_⟩, ?_⟩, ?_⟩, ?_⟩, ?_⟩, ?_⟩, ?_⟩, ?_⟩ ?_
 ·refine At.of _ rfl (fun e_ a w hC hd hb K hK => ?_)
  have b1 : a.tmps[1]? = some (.pointer (some ⟨g1, 0, none⟩)) := hb 1 (by decide);have cc0 : w.cell? ⟨g1, 0, none⟩ = some (.bool (can 5).f0) := Ctx.blk hC.1 0 rfl;have cc1 : w.cell? ⟨g1, 1, none⟩ = some (.slice tA (can 5).f1.length tc) := Ctx.blk hC.1 1 rfl;have cc2 : w.cell? ⟨g1, 2, none⟩ = some (.slice tB 1 td) := Ctx.blk hC.1 2 rfl;refine value_ (w1 := w) (v := .agg #[.bool (can 5).f0, .slice tA (can 5).f1.length tc, .slice tB 1 td]) (by rfl) rfl ?_ (hK.out _ _ (Below.refl _ _) rfl);clear hC hd hb hK hin hOf hSub hSst
  first | (go_simp; done) | (go_simp; rfl)
 ·refine At.of _ rfl (fun e_ a w hC hd hb K hK => ?_)
  have q12 := (hd 0 (by decide)).2 12 rfl;rw [show e_ 0 = _ from (hd 0 (by decide)).1] at q12;refine goes_ Tryd.func30 (by kernel_rfl) rfl #[.agg #[.bool (can 5).f0, .slice tA (can 5).f1.length tc, .slice tB 1 td]] (by rfl) rfl rfl (by first | (simp [Act.eval, q12]; done) | (simp [Act.eval, q12]; rfl)) ?_;refine (lin_TextS 5 [(1, 2)] _ _ w hC.2.1 hin.out.1 (by decide) hC.2.2.2.1 (by decide) (by rw [sum_text1])).mono ?_;rintro en w' ⟨v, rfl, hv, hb'⟩;exact ⟨v, rfl, hK.out v w' hb' hv⟩
 ·refine At.of _ rfl (fun e_ a w hC hd hb K hK => ?_)
  have q13 := (hd 1 (by decide)).2 13 rfl;rw [show e_ 1 = _ from (hd 1 (by decide)).1] at q13;refine value_ (w1 := w) (v := .bool true) (by rfl) rfl ?_ (hK.out _ _ (Below.refl _ _) rfl);clear hC hd hb hK hin hOf hSub hSst
  first | (go_simp; done) | (go_simp; rfl)
 ·refine At.of _ rfl (fun e_ a w hC hd hb K hK => ?_)
  have q14 := (hd 2 (by decide)).2 14 rfl;rw [show e_ 2 = _ from (hd 2 (by decide)).1] at q14;refine value_ (w1 := w) (v := .bool true) (by rfl) rfl ?_ (hK.out _ _ (Below.refl _ _) rfl);clear hC hd hb hK hin hOf hSub hSst
  first | (go_simp; done) | (go_simp; rfl)
 ·refine At.of _ rfl (fun e_ a w hC hd hb K hK => ?_)
  have gg15 := (hd 3 (by decide)).2 15 rfl;rw [show e_ 3 = _ from (hd 3 (by decide)).1] at gg15;have b1 : a.tmps[1]? = some (.pointer (some ⟨g1, 0, none⟩)) := hb 1 (by decide);have cc0 : w.cell? ⟨g1, 0, none⟩ = some (.bool (can 5).f0) := Ctx.blk hC.1 0 rfl;have cc1 : w.cell? ⟨g1, 1, none⟩ = some (.slice tA (can 5).f1.length tc) := Ctx.blk hC.1 1 rfl;have cc2 : w.cell? ⟨g1, 2, none⟩ = some (.slice tB 1 td) := Ctx.blk hC.1 2 rfl;refine value_ (w1 := w) (v := .agg #[.bool (can 5).f0, .slice tA (can 5).f1.length tc, .slice tB 1 td]) (by simp [Region.wanted, yielded, gg15]) rfl ?_ (hK.out _ _ (Below.refl _ _) rfl);clear hC hd hb hK hin hOf hSub hSst
  first | (go_simp; done) | (go_simp; rfl)
 ·refine At.of _ rfl (fun e_ a w hC hd hb K hK => ?_)
  have gg15 := (hd 3 (by decide)).2 15 rfl;rw [show e_ 3 = _ from (hd 3 (by decide)).1] at gg15;refine goes_ Tryd.func42 (by kernel_rfl) rfl #[.int .i64 2] (by simp [Region.wanted, yielded, gg15]) rfl rfl (by first | (simp [Act.eval]; done) | (simp [Act.eval]; rfl)) ?_;refine (lin_Var (fun _ => True) 2 w (fun _ _ => trivial)).mono ?_;rintro en w' ⟨v, rfl, hv, hb'⟩;exact ⟨v, rfl, hK.out v w' hb' hv⟩
 ·refine At.of _ rfl (fun e_ a w hC hd hb K hK => ?_)
  have gg15 := (hd 3 (by decide)).2 15 rfl;rw [show e_ 3 = _ from (hd 3 (by decide)).1] at gg15;refine goes_ Tryd.func41 (by kernel_rfl) rfl #[.int .i64 1] (by simp [Region.wanted, yielded, gg15]) rfl rfl (by first | (simp [Act.eval]; done) | (simp [Act.eval]; rfl)) ?_;refine (big_Of (fun _ => True) 1 w (fun _ _ => trivial) (by decide) (by decide)).mono ?_;rintro en w' ⟨v, rfl, hv, hb'⟩;exact ⟨v, rfl, hK.out v w' hb' hv⟩
 ·refine At.of _ rfl (fun e_ a w hC hd hb K hK => ?_)
  have gg15 := (hd 3 (by decide)).2 15 rfl;rw [show e_ 3 = _ from (hd 3 (by decide)).1] at gg15;have q18 := (hd 6 (by decide)).2 18 rfl;refine goes_ Tryd.func43 (by kernel_rfl) rfl #[e_ 6] (by simp [Region.wanted, yielded, gg15]) rfl rfl (by first | (simp [Act.eval, q18]; done) | (simp [Act.eval, q18]; rfl)) ?_;refine (hOf.out w _ (hd 6 (by decide)).1).mono ?_;rintro en w' ⟨v, rfl, hv, hb'⟩;exact ⟨v, rfl, hK.out v w' hb' hv⟩
 ·refine At.of _ rfl (fun e_ a w hC hd hb K hK => ?_)
  have gg15 := (hd 3 (by decide)).2 15 rfl;rw [show e_ 3 = _ from (hd 3 (by decide)).1] at gg15;have q17 := (hd 5 (by decide)).2 17 rfl;have q19 := (hd 7 (by decide)).2 19 rfl;refine goes_ Tryd.func19 (by kernel_rfl) rfl #[e_ 5, e_ 7] (by simp [Region.wanted, yielded, gg15]) rfl rfl (by first | (simp [Act.eval, q17, q19]; done) | (simp [Act.eval, q17, q19]; rfl)) ?_;refine (hSub.out w _ _ (hd 5 (by decide)).1 (hd 7 (by decide)).1).mono ?_;rintro en w' ⟨v, rfl, hv, hb'⟩;exact ⟨v, rfl, hK.out v w' hb' hv⟩
 ·refine At.of _ rfl (fun e_ a w hC hd hb K hK => ?_)
  have gg15 := (hd 3 (by decide)).2 15 rfl;rw [show e_ 3 = _ from (hd 3 (by decide)).1] at gg15;have q16 := (hd 4 (by decide)).2 16 rfl;rw [show e_ 4 = _ from (hd 4 (by decide)).1] at q16;have q20 := (hd 8 (by decide)).2 20 rfl;refine goes_ Tryd.func12 (by kernel_rfl) rfl #[.agg #[.bool (can 5).f0, .slice tA (can 5).f1.length tc, .slice tB 1 td], .int .i64 1, e_ 8] (by simp [Region.wanted, yielded, gg15]) rfl rfl (by first | (simp [Act.eval, q16, q20]; done) | (simp [Act.eval, q16, q20]; rfl)) ?_;refine (hSst.out w _ _ hC.2.1 (hd 8 (by decide)).1).mono ?_;rintro en w' ⟨v, rfl, hv, hb'⟩;exact ⟨v, rfl, hK.out v w' hb' hv⟩
 ·refine At.of _ rfl (fun e_ a w hC hd hb K hK => ?_)
  have gg15 := (hd 3 (by decide)).2 15 rfl;rw [show e_ 3 = _ from (hd 3 (by decide)).1] at gg15;have q21 := (hd 9 (by decide)).2 21 rfl;refine goes_ Tryd.func30 (by kernel_rfl) rfl #[e_ 9] (by simp [Region.wanted, yielded, gg15]) rfl rfl (by first | (simp [Act.eval, q21]; done) | (simp [Act.eval, q21]; rfl)) ?_;refine (lin_TextS 3 [(2, 2)] _ _ w (hd 9 (by decide)).1 hin.out.2 (by decide) hC.2.2.2.1 (by decide) (by rw [sum_text2])).mono ?_;rintro en w' ⟨v, rfl, hv, hb'⟩;exact ⟨v, rfl, hK.out v w' hb' hv⟩
 ·refine At.of _ rfl (fun e_ a w hC hd hb K hK => ?_)
  have gg15 := (hd 3 (by decide)).2 15 rfl;rw [show e_ 3 = _ from (hd 3 (by decide)).1] at gg15;have q22 := (hd 10 (by decide)).2 22 rfl;rw [show e_ 10 = _ from (hd 10 (by decide)).1] at q22;refine value_ (w1 := w) (v := .bool true) (by simp [Region.wanted, yielded, gg15]) rfl ?_ (hK.out _ _ (Below.refl _ _) rfl);clear hC hd hb hK hin hOf hSub hSst
  first | (go_simp; done) | (go_simp; rfl)
 ·refine At.of _ rfl (fun e_ a w hC hd hb K hK => ?_)
  have q15 := (hd 3 (by decide)).2 15 rfl;rw [show e_ 3 = _ from (hd 3 (by decide)).1] at q15;have q23 := (hd 11 (by decide)).2 23 rfl;rw [show e_ 11 = _ from (hd 11 (by decide)).1] at q23;refine value_ (w1 := w) (v := .bool true) (by rfl) rfl ?_ (hK.out _ _ (Below.refl _ _) rfl);clear hC hd hb hK hin hOf hSub hSst
  first | (go_simp; done) | (go_simp; rfl)
 ·refine At.of _ rfl (fun e_ a w hC hd hb K hK => ?_)
  have q24 := (hd 12 (by decide)).2 24 rfl;rw [show e_ 12 = _ from (hd 12 (by decide)).1] at q24;refine value_ (w1 := w) (v := .bool true) (by rfl) rfl ?_ (hK.out _ _ (Below.refl _ _) rfl);clear hC hd hb hK hin hOf hSub hSst
  first | (go_simp; done) | (go_simp; rfl)
 ·intro e_ w10 hC hr
  have r13 : e_ 13 = .bool true := hr.2;simp only [fill, Act.put, r13, if_true, List.setIfInBounds_toArray, List.set_cons_zero, List.set_cons_succ];have hb10 := hC.2.2.1;clear hr r13 hC
  go_wp2_with fail
  go_ret;exact ⟨rfl, hb10⟩
end Go.Proofs.YthpgjgmaamcaoaaDoor.P
end
section
namespace Go.Proofs.YthpgjgmaamcaoaaDoor.P
open Go.RowKit Go.Proofs.YthpgjgmaamcaoaaDoorW.PrintWords Go.Proofs.YthpgjgmaamcaoaaDoorW.PrintLast Go.Proofs.YthpgjgmaamcaoaaDoorW.PrintMore Go.Proofs.YthpgjgmaamcaoaaDoor.Nm
open Go.ChangeShapes Go.WideShapes
set_option maxRecDepth 100000
set_option linter.unusedVariables false
theorem cells_93 : Tryd.prog.cellsOf 93 = 1 := by kernel_rfl
theorem cells_22 : Tryd.prog.cellsOf 22 = 1 := by kernel_rfl
theorem cells_24 : Tryd.prog.cellsOf 24 = 2 := by kernel_rfl
theorem cells_44 : Tryd.prog.cellsOf 44 = 3 := by kernel_rfl
theorem cells_25 : Tryd.prog.cellsOf 25 = 1 := by kernel_rfl
theorem cells_27 : Tryd.prog.cellsOf 27 = 3 := by kernel_rfl
theorem cells_3 : Tryd.prog.cellsOf 3 = 1 := by kernel_rfl
theorem cells_4 : Tryd.prog.cellsOf 4 = 1 := by kernel_rfl
instance : Inhabited S44 := ⟨z44⟩
section
variable {H : Type} {enc : TypeId × Value → H} {W : World} {sp : Nat → Bool} {held : Bool}
theorem openB {fuel : Nat} {cs : List Value} {x : DataW H × List MemPlace} (h : DataW.trod enc Tryd.prog W 0 sp held fuel 24 cs = some x) : ∃ v : S24, k24.K W v cs ∧ Dg B32 v.f1 := by
 obtain ⟨xs, n, hn, rfl, hl, hlen, hf⟩ := DataW.trod_struct Tryd.underlying24 h;rw [cells_24] at hl
 obtain ⟨a, b, rfl⟩ : ∃ a b, cs = [a, b] := by
  match cs, hl with
  | [a, b], _ => exact ⟨a, b, rfl⟩
 obtain ⟨y0, y1, rfl⟩ : ∃ a b, xs = [a, b] := by
  match xs, hlen with
  | [a, b], _ => exact ⟨a, b, rfl⟩
 have f0 : DataW.trod enc Tryd.prog W 0 sp held n 4 (([a, b].drop 0).take (Tryd.prog.cellsOf 4)) = some y0 := hf 0 _ rfl;have f1 : DataW.trod enc Tryd.prog W 0 sp held n 22 (([a, b].drop 1).take (Tryd.prog.cellsOf 22)) = some y1 := hf 1 _ rfl;rw [cells_4] at f0;rw [cells_22] at f1;obtain ⟨z, hz, _⟩ := DataW.trod_bool Tryd.underlying4 f0
 obtain rfl : a = .bool z := by simpa using hz
 have k2 : ∃ (l2 : List Int) (A2 : Option Addr) (c2 : Nat), b = .slice A2 l2.length c2 ∧ l2.length ≤ c2 ∧ (Kd.int .u32).C W A2 l2.length l2 ∧ Dg B32 l2 := by
  rcases open_ints Tryd.underlying22 Tryd.underlying93 cells_93 f1 with ⟨hc, _⟩ | ⟨ad, len, cap, zs, hc, _, h1, h2, h3, _, h5, h6⟩
  ·obtain rfl : b = .slice none 0 0 := by simpa using hc
   exact ⟨[], none, 0, rfl, Nat.le_refl _, Kd.C_nil _ W, fun x hx => by cases hx⟩
  ·obtain rfl : b = .slice (some ad) len cap := by simpa using hc
   have hss : len ≤ zs.length := by rw [h3]; split <;> omega
   have hll : (zs.take len).length = len := by rw [List.length_take]; omega
   refine ⟨zs.take len, some ad, cap, by rw [hll], by rw [hll]; exact h1, ?_, fun x hx => ?_⟩
   ·rw [hll]
    refine Kd.C_of_reads (enc := Value.int .u32) (d := (0 : Int)) (h1 := fun _ => rfl) ⟨hll, by unfold maxLen at h2; omega, fun _ => ⟨ad, rfl, fun j hj => ?_⟩⟩;rw [h5 j (by omega)];simp only [List.getD_eq_getElem?_getD, List.getElem?_take_of_lt hj]
   ·have := h6 x (List.mem_of_mem_take hx)
    have h7 : 0 ≤ x ∧ x ≤ 2 ^ 32 - 1 := by simpa [Lit.wf, IntKind.min, IntKind.max, IntKind.signed, IntKind.bits] using this
    unfold B32
    omega
 obtain ⟨l2, A2, c2, rfl, m2, g2, d2⟩ := k2;exact ⟨⟨z, l2⟩, k24_mk W ⟨z, l2⟩ m2 g2, d2⟩
theorem openP {fuel : Nat} {cs : List Value} {x : DataW H × List MemPlace} (h : DataW.trod enc Tryd.prog W 0 sp held fuel 44 cs = some x) : ∃ v : S44, k44.K W v cs ∧ Dg B32 v.f1.f1 ∧ -9223372036854775808 ≤ v.f0 ∧ v.f0 ≤ 9223372036854775807 := by
 obtain ⟨xs, n, hn, rfl, hl, hlen, hf⟩ := DataW.trod_struct Tryd.underlying44 h;rw [cells_44] at hl
 obtain ⟨a, b, c, rfl⟩ : ∃ a b c, cs = [a, b, c] := by
  match cs, hl with
  | [a, b, c], _ => exact ⟨a, b, c, rfl⟩
 obtain ⟨y0, y1, rfl⟩ : ∃ a b, xs = [a, b] := by
  match xs, hlen with
  | [a, b], _ => exact ⟨a, b, rfl⟩
 have f0 : DataW.trod enc Tryd.prog W 0 sp held n 3 (([a, b, c].drop 0).take (Tryd.prog.cellsOf 3)) = some y0 := hf 0 _ rfl;have f1 : DataW.trod enc Tryd.prog W 0 sp held n 24 (([a, b, c].drop 1).take (Tryd.prog.cellsOf 24)) = some y1 := hf 1 _ rfl;rw [cells_3] at f0;rw [cells_24] at f1;obtain ⟨z, hz, _, hw⟩ := DataW.trod_int Tryd.underlying3 f0
 obtain rfl : a = .int .i64 z := by simpa using hz
 obtain ⟨v, hv, hd⟩ := openB f1
 have hw : -2 ^ 63 ≤ z ∧ z ≤ 2 ^ 63 - 1 := by simpa [Lit.wf, IntKind.min, IntKind.max, IntKind.signed, IntKind.bits] using hw
 exact ⟨⟨z, v⟩, ⟨[.int .i64 z], [b, c], rfl, rfl, hv⟩, hd, by show -9223372036854775808 ≤ z; omega, by show z ≤ 9223372036854775807; omega⟩
structure Wid (x : TB) : Prop where
 c : Dg B32 x.f0.f1
 p : ∀ p ∈ x.f1, Dg B32 p.f1.f1
 v : ∀ p ∈ x.f1, -9223372036854775808 ≤ p.f0 ∧ p.f0 ≤ 9223372036854775807
theorem openT {fuel : Nat} {cs : List Value} {x : DataW H × List MemPlace} (h : DataW.trod enc Tryd.prog W 0 sp held fuel 27 cs = some x) : ∃ v : TB, kTB.K W v cs ∧ Wid v := by
 obtain ⟨xs, n, hn, rfl, hl, hlen, hf⟩ := DataW.trod_struct Tryd.underlying27 h;rw [cells_27] at hl
 obtain ⟨a, b, c, rfl⟩ : ∃ a b c, cs = [a, b, c] := by
  match cs, hl with
  | [a, b, c], _ => exact ⟨a, b, c, rfl⟩
 obtain ⟨y0, y1, rfl⟩ : ∃ a b, xs = [a, b] := by
  match xs, hlen with
  | [a, b], _ => exact ⟨a, b, rfl⟩
 have f0 : DataW.trod enc Tryd.prog W 0 sp held n 24 (([a, b, c].drop 0).take (Tryd.prog.cellsOf 24)) = some y0 := hf 0 _ rfl;have f1 : DataW.trod enc Tryd.prog W 0 sp held n 25 (([a, b, c].drop 2).take (Tryd.prog.cellsOf 25)) = some y1 := hf 1 _ rfl;rw [cells_24] at f0;rw [cells_25] at f1;obtain ⟨k, hk, hd⟩ := openB f0
 have k3 : ∃ (l3 : List S44) (A3 : Option Addr) (c3 : Nat), c = .slice A3 l3.length c3 ∧ l3.length ≤ c3 ∧ k44.C W A3 l3.length l3 ∧ ∀ v ∈ l3, Dg B32 v.f1.f1 ∧ -9223372036854775808 ≤ v.f0 ∧ v.f0 ≤ 9223372036854775807 := by
  rcases DataW.trod_slice Tryd.underlying25 f1 with ⟨hc, _⟩ | ⟨ad, len, cap, elems, rest, n2, hn2, hc, _, _, h1, h2, h3, h4, _⟩
  ·obtain rfl : c = .slice none 0 0 := by simpa using hc
   exact ⟨[], none, 0, rfl, Nat.le_refl _, Kd.C_nil _ W, fun x hx => by cases hx⟩
  ·obtain rfl : c = .slice (some ad) len cap := by simpa using hc
   obtain ⟨f, hff⟩ := Deep.choose_lt (α := S44) (n := len) (p := fun i v => ∃ cs, cs.length = 3 ∧ k44.K W v cs ∧ (∀ j u, cs[j]? = some u → W.cell? (ad.add (i * 3 + j)) = some u) ∧ Dg B32 v.f1.f1 ∧ -9223372036854775808 ≤ v.f0 ∧ v.f0 ≤ 9223372036854775807) (fun i hi => by
    have h5 := h4 i hi;rw [List.getElem?_eq_getElem (by omega)] at h5;obtain ⟨cs', h6, h7⟩ := Option.bind_eq_some_iff.1 h5;rw [cells_44] at h6;obtain ⟨_, h8, h9⟩ := World.cells?_some h6;obtain ⟨v, hv, hg⟩ := openP h7;refine ⟨v, cs', h8, hv, fun j u hu => ?_, hg⟩
    have hj : j < 3 := by have := (List.getElem?_eq_some_iff.1 hu).1; omega
    rw [← hu, ← h9 j hj, Deep.add_add])
   have hll : ((List.range len).map f).length = len := by simp
   refine ⟨(List.range len).map f, some ad, cap, by rw [hll], by rw [hll]; exact h1, ?_, fun v hv => ?_⟩
   ·rw [hll]
    refine ⟨hll, by unfold maxLen at h2; omega, fun _ => ⟨ad, rfl, fun j p hj => ?_⟩⟩
    have hjl : j < len := by have := (List.getElem?_eq_some_iff.1 hj).1; rw [hll] at this; exact this
    obtain ⟨cs', e1, e2, e3, e4⟩ := hff j hjl
    have : p = f j := by simpa [List.getElem?_range, hjl] using hj.symm
    subst this;exact ⟨cs', e1, e2, e3⟩
   ·obtain ⟨j, hj, rfl⟩ := List.mem_map.1 hv
    obtain ⟨cs', e1, e2, e3, e4⟩ := hff j (List.mem_range.1 hj);exact e4
 obtain ⟨l3, A3, c3, rfl, m3, g3, d3⟩ := k3;exact ⟨⟨k, l3⟩, ⟨[a, b], [.slice A3 l3.length c3], rfl, hk, ⟨A3, c3, rfl, m3, g3⟩⟩, hd, fun p hp => (d3 p hp).1, fun p hp => (d3 p hp).2⟩
theorem kv_of {α : Type} {d : Kd α} (hd : Kd.Heap d) {x : α} {cs : List Value} (h : d.K W x cs) : Kd.FK d W (fun _ => True) x cs := fun W' hW => hd.K (fun k hk => hW k trivial hk) h
theorem openArgT {b0 : Nat} {v : Value} {d : DataW H} {p : List MemPlace} (hv : Value.okWide Tryd.prog W .any b0 27 v) (h : DataW.Trod enc Tryd.prog W 0 sp held 27 v d p) :
  ∃ s : TB, Kv kTB (fun _ => True) W v s ∧ Wid s := by
 obtain ⟨cs, rfl, hsz⟩ := okWide_struct Tryd.underlying27 hv;obtain ⟨fuel, hf⟩ := h;obtain ⟨s, hs, hd⟩ := openT hf;refine ⟨s, ⟨_, ?_, kv_of kTB_heap hs⟩, hd⟩
 simp [Value.cells]
end
end Go.Proofs.YthpgjgmaamcaoaaDoor.P
namespace Go.Proofs.YthpgjgmaamcaoaaDoor.laidThree
open Go.ChangeShapes Go.WideShapes Go.ChangeAt Go.RowKit Go.Proofs.YthpgjgmaamcaoaaDoorW.PrintWords Go.Proofs.YthpgjgmaamcaoaaDoor.P
set_option linter.unusedVariables false
set_option maxRecDepth 100000
def three : List (String × DataW Unit) := [("math/bits.deBruijn32tab", Rows.laid_math_bits_deBruijn32tab), ("math/bits.deBruijn64tab", Rows.laid_math_bits_deBruijn64tab), ("internal/strconv.uint64pow10", Rows.laid_internal_strconv_uint64pow10)]
theorem gTab : Tryd.prog.globalNamed "internal/strconv.uint64pow10" = some 0 := by kernel_rfl
theorem gTabType : (Tryd.prog.globals[0]?).map (·.type) = some 165 := by kernel_rfl
theorem cells_u64 : Tryd.prog.cellsOf 61 = 1 := by kernel_rfl
theorem tabs {W : World} (h : laidMetH Tryd.prog three W) : TabOk W := by
 have hm : laidMet Tryd.prog three W := by rw [← MakeChecks.laidMetH_plain Tryd.prog three W (by kernel_rfl)]; exact h
 have h3 : laidMet Tryd.prog [("internal/strconv.uint64pow10", Rows.laid_internal_strconv_uint64pow10)] W := hm.tail.tail;exact Lib.tabIs_of_head (rest := _) gTab gTabType Tryd.underlying165 Tryd.underlying61 cells_u64 (by kernel_rfl) h3
def lits {H : Type} : DataW H → List Value
 | .agg l => l.map fun d => match d with
  | .lit (.int k z) => .int k z
  | _ => undef
 | _ => []
def putTab (h : Array Obj) (i : Nat) (cs : List Value) : Array Obj := h.modify i fun
 | .cells _ t frozen => .cells cs.toArray t frozen
 | o => o
noncomputable def laidWorld (os : Os) : World :=
 let w0 := World.holding Tryd.prog os ⟨#[], #[], []⟩
 { w0 with heap := putTab (putTab (putTab w0.heap 0 (lits (H := Unit) Rows.laid_internal_strconv_uint64pow10)) 1 (lits (H := Unit) Rows.laid_math_bits_deBruijn32tab)) 2 (lits (H := Unit) Rows.laid_math_bits_deBruijn64tab) }
end Go.Proofs.YthpgjgmaamcaoaaDoor.laidThree
end
section
namespace Go.Proofs.YthpgjgmaamcaoaaDoor.P
open Go.RowKit Go.Shelf Go.Proofs.YthpgjgmaamcaoaaDoor.P Go.Proofs.YthpgjgmaamcaoaaDoorW.PrintWords Go.Proofs.YthpgjgmaamcaoaaDoorW.PrintLast Go.Proofs.YthpgjgmaamcaoaaDoorW.PrintMore Go.Proofs.YthpgjgmaamcaoaaDoor.Nm
set_option maxRecDepth 100000
set_option linter.unusedVariables false
set_option linter.unusedSimpArgs false
structure Lim (x : TB) : Prop where
 c : Dg B32 x.f0.f1
 p : ∀ p ∈ x.f1, Dg B32 p.f1.f1
theorem mul_abs {a b A B : Int} (hA : (a.natAbs : Int) ≤ A) (hB : (b.natAbs : Int) ≤ B) : ((a * b).natAbs : Int) ≤ A * B := by
 rw [Int.natAbs_mul, Int.natCast_mul];exact Int.mul_le_mul hA hB (Int.natCast_nonneg _) (Int.le_trans (Int.natCast_nonneg _) hA)
def K4 : Int := B32 ^ 4
theorem K4_val : K4 = 340282366920938463463374607431768211456 := by unfold K4 B32; decide
theorem both_of {n : Int} (h : (n.natAbs : Int) ≤ 400 * (K4 * K4)) : Big (can n) ∧ Dec (cn n) := by
 have h9 : (400 * (K4 * K4) : Int) < B32 ^ 9 := by rw [K4_val]; unfold B32; decide
 have h90 : (400 * (K4 * K4) : Int) < 10 ^ 90 := by rw [K4_val]; decide
 exact ⟨⟨can_dg _, Nat.le_trans (can_len (k := 9) (Int.lt_of_le_of_lt h h9)) (by decide)⟩, ⟨cn_dg _, Nat.le_trans (cn_len (k := 90) (Int.lt_of_le_of_lt h h90)) (by decide)⟩⟩
theorem lite_lin {x : TB} (h : Lite x) (hd : Lim x) : LIn x := ⟨by have := h.1; omega, ⟨hd.c, by have := h.2.1; omega⟩, fun p hp => ⟨hd.p p hp, by have := h.2.2 p hp; omega⟩⟩
theorem lite_bin {x : TB} (h : Lite x) (hd : Lim x) : R.BIn x := ⟨by have := h.1; omega, ⟨hd.c, by have := h.2.1; omega⟩, fun p hp => ⟨hd.p p hp, by have := h.2.2 p hp; omega⟩⟩
theorem bv_K {x : S24} (hd : Dg B32 x.f1) (hl : x.f1.length ≤ 4) : ((bv x).natAbs : Int) ≤ K4 := Int.le_of_lt (abs_lt' hd hl)
theorem cn_K {n : Int} (h : (n.natAbs : Int) ≤ K4) : (cn n).f1.length ≤ 40 := cn_len (Int.lt_of_le_of_lt h (by rw [K4_val]; decide))
theorem lite_din {x : TB} (h : Lite x) (hd : Lim x) : R.DIn 40 (R.ofT x) :=
 ⟨by show (List.map R.ofP x.f1).length ≤ 39; rw [List.length_map]; have := h.1; omega, ⟨cn_dg _, cn_K (bv_K hd.c h.2.1)⟩, fun p hp => by
  obtain ⟨q, hq, rfl⟩ := List.mem_map.1 hp
  exact ⟨cn_dg _, cn_K (bv_K (hd.p q hq) (h.2.2 q hq))⟩⟩
theorem nv_ofT (x : TB) : nv (R.ofT x).f0 = bv x.f0 := nv_cn _
theorem psR_ofP (l : List S44) : R.psR (l.map R.ofP) = psB l := by
 unfold R.psR psB;rw [List.map_map];exact List.map_congr_left (fun p _ => by show (p.f0, nv (cn (bv p.f1))) = _; rw [nv_cn])
theorem psR_ofT (x : TB) : R.psR (R.ofT x).f1 = psB x.f1 := psR_ofP x.f1
theorem lite_ps {x : TB} (h : Lite x) (hd : Lim x) : ∀ p ∈ psB x.f1, (p.2.natAbs : Int) ≤ K4 := fun p hp => by
 obtain ⟨q, hq, rfl⟩ := List.mem_map.1 hp;exact bv_K (hd.p q hq) (h.2.2 q hq)
theorem psB_len (l : List S44) : (psB l).length = l.length := by unfold psB; simp
theorem K4_pos : (0 : Int) ≤ K4 := by rw [K4_val]; decide
theorem law_summedT (w0 : World) (hT : TabOk w0) : Calls Tryd.prog 10 #[] w0 fun e w' => ∃ v, e = .returned v ∧ v = .bool true ∧ Below w0.heap.size w0 w' :=
 (law_summed w0 hT).mono (fun e w' he => ⟨_, he.1, rfl, he.2⟩)
theorem law_lightT {v : Value} {x : TB} {w0 : World} {b : Bool} (h : Kv kTB (fun _ => True) w0 v x) (hb : decide (Lite x) = b) :
  Calls Tryd.prog 9 #[v] w0 fun e w' => e = .returned (.bool b) ∧ Below w0.heap.size w0 w' := hb ▸ law_light v x w0 h
end Go.Proofs.YthpgjgmaamcaoaaDoor.P
end
section
namespace Go.Proofs.YthpgjgmaamcaoaaDoor.P
open Go.RowKit Go.Proofs.YthpgjgmaamcaoaaDoorW.PrintWords
abbrev Lai := Nat → Option Nat
def Lai.set (b : Lai) (i g : Nat) : Lai := fun j => if j = i then some g else b j
section
variable {P : Program} {ops : Array Oper} {Q : Exit → Act → World → Prop} {a0 : Act} {C : World → Prop} {G : Nat → Nat → World → Prop} {R : Nat → Lai → Value → World → Prop} {p : List Nat} {Z : Nat → Obj}
def AtM (P : Program) (ops : Array Oper) (Q : Exit → Act → World → Prop) (D : List (Option Tmp)) (W : List (List Nat)) (a0 : Act) (C : World → Prop) (G : Nat → Nat → World → Prop) (p : List Nat) (R : Nat → Lai → Value → World → Prop) (i : Nat) : Prop :=
 i ∉ p → ∀ (b : Lai) (e : Nat → Value) (a : Act) (w : World), C w → (∀ i g, b i = some g → G i g w ∧ g < w.heap.size) → (∀ j, j ∈ W.getD i [] → (j ∉ p → R j b (e j) w) ∧ ∀ t, D[j]? = some (some t) → a.tmps[t]? = some (e j)) → (∀ t, some t ∉ D → a.tmps[t]? = a0.tmps[t]?) →
  ∀ K : Act → World → Prop, Sdq (∀ v w', Below w.heap.size w w' → R i b v w' → K (a.put (D.getD i none) v) w') →
  match ops[i]? with
  | some o => if Region.wanted o (yielded ops a.tmps) = true then Oper.wp P o a w K Q else K (a.put (D.getD i none) undef) w
  | none => True
theorem AtM.of {D : List (Option Tmp)} {W : List (List Nat)} {i : Nat} (o : Oper) (ho : ops[i]? = some o) (h : ∀ (b : Lai) (e : Nat → Value) (a : Act) (w : World), C w → (∀ i g, b i = some g → G i g w ∧ g < w.heap.size) → (∀ j, j ∈ W.getD i [] → (j ∉ p → R j b (e j) w) ∧ ∀ t, D[j]? = some (some t) → a.tmps[t]? = some (e j)) → (∀ t, some t ∉ D → a.tmps[t]? = a0.tmps[t]?) →
  ∀ K : Act → World → Prop, Sdq (∀ v w', Below w.heap.size w w' → R i b v w' → K (a.put (D.getD i none) v) w') → if Region.wanted o (yielded ops a.tmps) = true then Oper.wp P o a w K Q else K (a.put (D.getD i none) undef) w) : AtM P ops Q D W a0 C G p R i := by
 intro _ b e a w h1 h1' h2 h3 K h4;rw [ho];exact h b e a w h1 h1' h2 h3 K h4
end
def Rm (l : List UpX) (O : Nat → Prop) (j : Nat) (b : Lai) (v : Value) (w : World) : Prop := match l[j]? with
 | some u => u.p (fun k => O k ∧ ∀ i, b i ≠ some k) v w
 | none => True
theorem Rm.up (l : List UpX) (O : Nat → Prop) (j : Nat) (b : Lai) (v : Value) (w w' : World) (h : Rm l O j b v w) (hb : Below w.heap.size w w') : Rm l O j b v w' := by
 unfold Rm at *
 split
 ·rename_i u hu
  rw [hu] at h;exact u.up _ v w w' h hb
 ·trivial
theorem Rm.laid (l : List UpX) (O : Nat → Prop) (Z : Nat → Obj) (i j : Nat) (b : Lai) (v : Value) (w : World) (h : Rm l O j b v w) : Rm l O j (b.set i w.heap.size) v (w.alloc (Z i)) := by
 unfold Rm at *
 split
 ·rename_i u hu
  rw [hu] at h;refine u.up _ v w _ (u.bd _ _ v w h (fun k hk hlt => ⟨hk.1, fun i' hi' => ?_⟩)) (bal (Below.refl _ _) _);unfold Lai.set at hi'
  split at hi'
  ·have := Option.some.inj hi'; omega
  ·exact hk.2 i' hi'
 ·trivial
end Go.Proofs.YthpgjgmaamcaoaaDoor.P
end
section
namespace Go.Proofs.YthpgjgmaamcaoaaDoor.P
open Go.RowKit Go.Shelf Go.Proofs.YthpgjgmaamcaoaaDoor.P Go.Proofs.YthpgjgmaamcaoaaDoorW.PrintWords Go.Proofs.YthpgjgmaamcaoaaDoorW.PrintLast Go.Proofs.YthpgjgmaamcaoaaDoorW.PrintMore Go.Proofs.YthpgjgmaamcaoaaDoor.Nm
set_option maxRecDepth 100000
set_option linter.unusedVariables false
set_option linter.unusedSimpArgs false
theorem K4_le : K4 ≤ 6 * (K4 * K4) := by rw [K4_val]; decide
theorem kk_pos : (0 : Int) ≤ K4 * K4 := by rw [K4_val]; decide
end Go.Proofs.YthpgjgmaamcaoaaDoor.P
end
section
namespace Go.Proofs.YthpgjgmaamcaoaaDoor.P
open Go.RowKit Go.Proofs.YthpgjgmaamcaoaaDoorW.PrintWords
section
variable {P : Program} {ops : Array Oper} {Q : Exit → Act → World → Prop} {a0 : Act} {C : World → Prop} {R : Nat → Value → World → Prop}
theorem flow_seq2 {m : Nat} (hmn : m < ops.size) (hM : (List.range m).all (marks ops m (waits ops m)).contains = true) (hCh : ∀ t, m < t → t < ops.size → (waits ops t).contains (t - 1) = true) (hSq : Region.seqB .any ops (ops.size - m) m (headArr ops.size m) = true) (hE : early ops = true) (hA : apart (dsts ops) = true) (hT : ∀ t, some t ∈ dsts ops → t < a0.tmps.size) (hC : ∀ w w', C w → Below w.heap.size w w' → C w') (hR : ∀ j v w w', R j v w → Below w.heap.size w w' → R j v w')
  (hS : ∀ i, i < m → Step2 P ops Q a0 C R i) (hQ : ∀ e w, C w → (∀ j, j < m → R j (e j) w) → ∀ a, a = fill (dsts ops) 0 e (fun j => decide (j < m)) a0 → wpList P ops Q (ops.toList.drop m) a w) :
  ∀ fuel l a w, FI ops a0 C R l a w → (∀ t, m ≤ t → lf l t = false) → cnt (lf l) ops.size = fuel → wpAny P .any ops Q fuel l a w := by
 intro fuel
 induction fuel with
 | zero =>
  intro l a w hI hl hn;have := cnt_pos (hl m (Nat.le_refl _)) ops.size hmn
  omega
 | succ fuel ih =>
  intro l a w hI hl hn;by_cases hall : ∀ j, j < m → lf l j = true
  ·obtain ⟨hs, hc, hCw, e, rfl, hr⟩ := hI
   have hlh : ∀ j, j < ops.size → lf l j = decide (j < m) := fun j _ => by
    by_cases hj : j < m
    ·rw [hall j hj]; simp [hj]
    ·rw [hl j (by omega)]; simp [hj]
   have hle := head_eq hs hlh;have hcn := cnt_head ops.size hlh;rw [hcn] at hn
   have hlen : (ops.toList.drop m).length = fuel + 1 := by rw [List.length_drop, Array.length_toList]; exact hn
   rw [← hlen];refine wpAny_of_seq (ops.toList.drop m) m l _ w (fun j => by rw [List.getElem?_drop, Array.getElem?_toList]) (by rw [hlen, hle, ← hn]; exact hSq) ?_;exact hQ e w hCw (fun j hj => hr j (hall j hj)) _ (fill_congr _ 0 a0 (fun j _ hj => ⟨hlh j (by simpa [dsts] using hj), fun _ => rfl⟩))
  ·refine ⟨fun hr => ?_, fun i hi => ?_⟩
   ·have := ready_nil hr hE hI.1 m hmn
    rw [hl m (Nat.le_refl _)] at this;cases this
   ·obtain ⟨o, ho, hli, hisz, hw⟩ := ready_mem hi hI.1
    have hnx := cnt_next hi hI.1;have hilt := (Array.getElem?_eq_some_iff.1 ho).1
    have hwl : ∀ x, x ∈ waits ops i → lf l x = true := fun x hx => by
     obtain ⟨o', ho', y, hy, hyb, rfl⟩ := waits_mem hx;obtain rfl := Option.some.inj (ho.symm.trans ho');exact hw y hy hyb
    have him : i < m := by
     refine Classical.byContradiction fun hge => ?_
     by_cases e : i = m
     ·subst e
      exact hall (fun j hj => marks_listed hI.2.1 i _ hwl j (by simpa using List.all_eq_true.1 hM j (List.mem_range.2 hj)))
     ·have h1 := hwl (i - 1) (by simpa using hCh i (by omega) hilt)
      rw [hl (i - 1) (by omega)] at h1;cases h1
    refine fi_step2 hA hT hC hR hI hi (hS i him) (fun a' w' hI' => ih _ a' w' hI' (fun t ht => ?_) (by omega));rw [lf_set hisz]
    dsimp only
    rw [if_neg (by omega)];exact hl t ht
theorem flowS2 {id m n : Nat} {w0 : World} {D : List (Option Tmp)} {W : List (List Nat)} (h : tabOf ops = (D, W)) (hn : ops.size = n) (C : World → Prop) (R : Nat → Value → World → Prop) (hm : P.follows .mixedOrders = true)
  (hc : (earlyW W && apart D && D.all (fun d => (d.map fun t => decide (t < a0.tmps.size)).getD true) && (List.range m).all (marksW W m (W.getD m [])).contains && (List.range n).all (fun t => decide (t ≤ m) || (W.getD t []).contains (t - 1)) && decide (m < n)) = true) (hSq : Region.seqB .any ops (n - m) m (headArr n m) = true)
  (hC : ∀ w w', C w → Below w.heap.size w w' → C w') (hR : ∀ j v w w', R j v w → Below w.heap.size w w' → R j v w') (h0 : C w0)
  (hS : Steps (At2 P ops Q D W a0 C R) m) (hQ : ∀ e w, C w → Steps (fun j => R j (e j) w) m → ∀ a, a = fill D 0 e (fun j => decide (j < m)) a0 → wpList P ops Q (ops.toList.drop m) a w) : (Code.region id ops true).wp P Q a0 w0 := by
 subst hn;simp only [Bool.and_eq_true, decide_eq_true_eq] at hc;have hD : dsts ops = D := congrArg Prod.fst h;refine wp_region_any hm (flow_seq2 hc.2 (by rw [marks_tab h m _ (by omega), ← waits_tab h m hc.2]; exact hc.1.1.2) (fun t h1 h2 => ?_) hSq (early_tab h hc.1.1.1.1.1) (by rw [hD]; exact hc.1.1.1.1.2) (by rw [hD]; exact fun t ht => by have := List.all_eq_true.1 hc.1.1.1.2 _ ht; simpa using this) hC hR (fun i hi => step_at2 h (hS.all i hi)) (fun e w hCw hr a ha => ?_) _ _ _ _ (fi_start (hC _ _ h0 (below_drew (Below.refl _ _)))) (fun t _ => ?_) (cnt_none _ (fun j _ => ?_)))
 ·have := List.all_eq_true.1 hc.1.2 t (List.mem_range.2 h2)
  simp only [Bool.or_eq_true, decide_eq_true_eq] at this;rw [← waits_tab h t h2];exact this.resolve_left (by omega)
 ·rw [hD] at ha
  refine hQ e w hCw ?_ a ha
  have hall : ∀ n, n ≤ m → Steps (fun j => R j (e j) w) n := fun n => by
   induction n with
   | zero => intro _; trivial
   | succ n ih => intro hn; exact ⟨ih (by omega), hr n (by omega)⟩
  exact hall _ (Nat.le_refl _)
 ·unfold lf; rw [Array.getD_eq_getD_getElem?, Array.getElem?_replicate]; split <;> rfl
 ·unfold lf; rw [Array.getD_eq_getD_getElem?, Array.getElem?_replicate]; split <;> rfl
end
end Go.Proofs.YthpgjgmaamcaoaaDoor.P
end
section
namespace Go.Proofs.YthpgjgmaamcaoaaDoor.P.LB
open Go.Proofs.YthpgjgmaamcaoaaDoor.P.R (uEl)
open Go.RowKit Go.Shelf Go.Proofs.YthpgjgmaamcaoaaDoor.P Go.Proofs.YthpgjgmaamcaoaaDoorW.PrintWords Go.Proofs.YthpgjgmaamcaoaaDoorW.PrintLast Go.Proofs.YthpgjgmaamcaoaaDoorW.PrintMore Go.Proofs.YthpgjgmaamcaoaaDoor.Nm
set_option maxRecDepth 100000
set_option linter.unusedVariables false
set_option linter.unusedSimpArgs false
theorem fk_el {ok : Nat → Prop} {W : World} {x : S78} {e : El} (h : Kd.FK k78 W ok x e.cs) : e.v = x.f0 ∧ e.b = x.f1.f0 ∧ e.n = x.f1.f1.length ∧ x.f1.f1.length ≤ e.c ∧ Kd.F (Kd.int .u32) W ok e.A x.f1.f1.length x.f1.f1 := by
 obtain ⟨A, c, he, hl, hF⟩ := k78_openF h;unfold El.cs at he;simp only [List.cons.injEq, Value.int.injEq, Value.bool.injEq, Value.slice.injEq, true_and, and_true] at he;obtain ⟨h1, h2, h3, h4, h5⟩ := he;exact ⟨h1, h2, h4, h5 ▸ hl, h3 ▸ hF⟩
theorem el_kv {ok : Nat → Prop} {W : World} {x : S78} {e : El} (h : Kd.FK k78 W ok x e.cs) : Kv k24 ok W (.agg #[.bool e.b, .slice e.A e.n e.c]) x.f1 := by
 obtain ⟨h1, h2, h3, h4, h5⟩ := fk_el h;rw [h2, h3];exact ⟨_, rfl, k24_mkF W ok x.f1 h4 h5⟩
theorem row_el {ok : Nat → Prop} {W : World} {A : Option Addr} {xs : List S78} {i : Nat} (h : Kd.F k78 W ok A xs.length xs) (hi : i < xs.length) : ∃ ad e, A = some ad ∧ W.cell? (ad.add (i * 3)) = some (.int .i64 (El.v e)) ∧ W.cell? ⟨(ad.add (i * 3)).block, (ad.add (i * 3)).off + 1, none⟩ = some (.bool (El.b e)) ∧ W.cell? ⟨(ad.add (i * 3)).block, (ad.add (i * 3)).off + 2, none⟩ = some (.slice (El.A e) (El.n e) (El.c e)) ∧ Kd.FK k78 W ok xs[i] e.cs := by
 obtain ⟨ad, cs, hA, -, hK, hcc, -⟩ := Kd.F_get h z78 (i : Int) (by omega) (by omega);rw [show xs.getD (i : Int).toNat z78 = xs[i] by simp [hi]] at hK;obtain ⟨A2, c2, rfl, l2, g2⟩ := k78_openF hK;have hc : ∀ j u, ([.int .i64 xs[i].f0, .bool xs[i].f1.f0, .slice A2 xs[i].f1.f1.length c2] : List Value)[j]? = some u → W.cell? (ad.add (i * 3 + j)) = some u := hcc;exact ⟨ad, ⟨xs[i].f0, xs[i].f1.f0, A2, xs[i].f1.f1.length, c2⟩, hA, hc 0 _ rfl, by rw [← add_field _ _ 1 (by omega)]; exact hc 1 _ rfl, by rw [← add_field _ _ 2 (by omega)]; exact hc 2 _ rfl, hK⟩
end Go.Proofs.YthpgjgmaamcaoaaDoor.P.LB
namespace Go.Proofs.YthpgjgmaamcaoaaDoor.P.RB
open Go.Proofs.YthpgjgmaamcaoaaDoor.P.R (uEl)
open Go.RowKit Go.Shelf Go.Proofs.YthpgjgmaamcaoaaDoor.P Go.Proofs.YthpgjgmaamcaoaaDoorW.PrintWords Go.Proofs.YthpgjgmaamcaoaaDoorW.PrintLast Go.Proofs.YthpgjgmaamcaoaaDoorW.PrintMore Go.Proofs.YthpgjgmaamcaoaaDoor.Nm
set_option maxRecDepth 100000
set_option linter.unusedVariables false
set_option linter.unusedSimpArgs false
theorem infoP : (Tryd.prog.info? 118).map (fun i => (i.zero, i.size, i.bytes)) = some (some (.agg #[(.int .i64 0), (.bool false), (.slice none 0 0)]), 3, 40) := by kernel_rfl
theorem undP : Tryd.prog.underlying 69 = some (.slice 118) := by kernel_rfl
theorem fk_el {ok : Nat → Prop} {W : World} {x : S118} {e : El} (h : Kd.FK k118 W ok x e.cs) : e.v = x.f0 ∧ e.b = x.f1.f0 ∧ e.n = x.f1.f1.length ∧ x.f1.f1.length ≤ e.c ∧ Kd.F (Kd.int .i64) W ok e.A x.f1.f1.length x.f1.f1 := by
 obtain ⟨A, c, he, hl, hF⟩ := k118_openF h;unfold El.cs at he;simp only [List.cons.injEq, Value.int.injEq, Value.bool.injEq, Value.slice.injEq, true_and, and_true] at he;obtain ⟨h1, h2, h3, h4, h5⟩ := he;exact ⟨h1, h2, h4, h5 ▸ hl, h3 ▸ hF⟩
theorem el_fk {ok : Nat → Prop} {W : World} {x : S118} {e : El} (h1 : e.v = x.f0) (h2 : e.b = x.f1.f0) (h3 : e.n = x.f1.f1.length) (h4 : x.f1.f1.length ≤ e.c) (h5 : Kd.F (Kd.int .i64) W ok e.A x.f1.f1.length x.f1.f1) : Kd.FK k118 W ok x e.cs := by
 have := k118_mkF W ok x h4 h5;unfold El.cs;rw [h1, h2, h3];exact this
theorem ns_row {W : World} {base : Nat} {O : Nat → Prop} {pv : Value} {os : List El} {xs : List S118} (hown : W.ownsRow base 118 3 pv os.length (os.flatMap El.cs)) (hb : ∀ k, base ≤ k → O k) (hlen : os.length = xs.length) (hm : xs.length ≤ 1000000) (hrep : ∀ (i : Nat) (x : S118) (e : El), xs[i]? = some x → os[i]? = some e → Kd.FK k118 W O x e.cs) : Cv k118 O W pv xs := by
 have h0 := hown
 rcases hown.2 with ⟨rfl, h2⟩ | ⟨g, cap, cur, rfl, hg, hc, hle, hmx, hs, ht⟩
 ·obtain rfl : xs = [] := List.eq_nil_of_length_eq_zero (by omega)
  exact Cv.nil
 ·refine ⟨some ⟨g, 0, none⟩, cap, by rw [hlen], by omega, fun W' hW => ?_⟩
  have hc' := (hW g (hb g hg) (blk_lt hc)).trans hc
  have hown' : W'.ownsRow base 118 3 (.slice (some ⟨g, 0, none⟩) os.length cap) os.length (os.flatMap El.cs) := ⟨hown.1, .inr ⟨g, cap, cur, rfl, hg, hc', hle, hmx, hs, ht⟩⟩
  refine ⟨rfl, by omega, fun _ => ⟨_, rfl, fun j p hj => ?_⟩⟩;have hjl := (List.getElem?_eq_some_iff.1 hj).1
  have hjo : j < os.length := by omega
  refine ⟨os[j].cs, rfl, hrep j p _ hj (List.getElem?_eq_getElem hjo) W' hW, fun i u hu => ?_⟩
  have hi3 : i < 3 := by
   have := (List.getElem?_eq_some_iff.1 hu).1
   simpa [El.cs] using this
  rw [show (k118).sz = 3 from rfl, add_plain];exact (ownsRow_cell hown' (by rw [cs_get os j i hjo hi3]; exact hu)).1
def uBx (O : Nat → Prop) (x : S118) (v : Value) : UpP := ⟨fun W => ∃ gb e', v = .slice (some ⟨gb, 0, none⟩) 1 1 ∧ (uBlk gb (El.cs e') 118).p W ∧ Kd.FK k118 W O x e'.cs, fun W W' h hb => by
 obtain ⟨gb, e', h1, h2, h3⟩ := h
 exact ⟨gb, e', h1, (uBlk _ _ _).up _ _ h2 hb, Kd.FK_below h3 hb⟩⟩
theorem bx_news {W : World} {gb : Nat} {e : El} (h : (uBlk gb e.cs 118).p W) : ∀ j u, e.cs[j]? = some u → W.cell? ((⟨gb, 0, none⟩ : Addr).add j) = some u := fun j u hj => by
 rw [add_plain];exact Ctx.blk h j hj
theorem el_kv {ok : Nat → Prop} {W : World} {x : S118} {e : El} (h : Kd.FK k118 W ok x e.cs) : Kv k34 ok W (.agg #[.bool e.b, .slice e.A e.n e.c]) x.f1 := by
 obtain ⟨h1, h2, h3, h4, h5⟩ := fk_el h;rw [h2, h3];exact ⟨_, rfl, k34_mkF W ok x.f1 h4 h5⟩
theorem row_el {ok : Nat → Prop} {W : World} {A : Option Addr} {xs : List S118} {i : Nat} (h : Kd.F k118 W ok A xs.length xs) (hi : i < xs.length) : ∃ ad e, A = some ad ∧ W.cell? (ad.add (i * 3)) = some (.int .i64 (El.v e)) ∧ W.cell? ⟨(ad.add (i * 3)).block, (ad.add (i * 3)).off + 1, none⟩ = some (.bool (El.b e)) ∧ W.cell? ⟨(ad.add (i * 3)).block, (ad.add (i * 3)).off + 2, none⟩ = some (.slice (El.A e) (El.n e) (El.c e)) ∧ Kd.FK k118 W ok xs[i] e.cs := by
 obtain ⟨ad, cs, hA, -, hK, hcc, -⟩ := Kd.F_get h z118 (i : Int) (by omega) (by omega);rw [show xs.getD (i : Int).toNat z118 = xs[i] by simp [hi]] at hK;obtain ⟨A2, c2, rfl, l2, g2⟩ := k118_openF hK;have hc : ∀ j u, ([.int .i64 xs[i].f0, .bool xs[i].f1.f0, .slice A2 xs[i].f1.f1.length c2] : List Value)[j]? = some u → W.cell? (ad.add (i * 3 + j)) = some u := hcc;exact ⟨ad, ⟨xs[i].f0, xs[i].f1.f0, A2, xs[i].f1.f1.length, c2⟩, hA, hc 0 _ rfl, by rw [← add_field _ _ 1 (by omega)]; exact hc 1 _ rfl, by rw [← add_field _ _ 2 (by omega)]; exact hc 2 _ rfl, hK⟩
theorem law_bindings.tab7 : tabOf (opsOf Tryd.f34 7) = ([some 23, some 24, some 25, some 26, some 27, some 28, some 29, some 30, some 31, some 32, some 33, some 34, some 35, some 36, some 37, some 4], [[], [], [], [1, 2], [3], [4], [], [], [6, 7], [8], [9], [10], [5, 11], [12], [0, 13, 11], [14, 14, 0, 1, 2, 3, 4, 5, 6, 7, 8, 9, 10, 11, 12, 13, 14]]) := by kernel_rfl
def Ro (B : Nat) (pv : Value) (k : Nat) : Prop := B ≤ k ∧ some k ≠ pv.ownBlock
structure RS (W0 W : World) (pv : Value) (os : List El) (xs : List S118) : Prop where
 own : W.ownsRow W0.heap.size 118 3 pv os.length (os.flatMap El.cs)
 len : os.length = xs.length
 rep : ∀ (i : Nat) (x : S118) (e : El), xs[i]? = some x → os[i]? = some e → Kd.FK k118 W (Ro W0.heap.size pv) x e.cs
 bel : Below W0.heap.size W0 W
def uRS (W0 : World) (pv : Value) (os : List El) (xs : List S118) : UpP := ⟨fun W => RS W0 W pv os xs, fun W W' h hb => ⟨ownsRow_below h.own hb, h.len, fun i x e hx he => Kd.FK_below (h.rep i x e hx he) hb, below_step h.bel hb⟩⟩
section
variable {W0 W W' : World} {pv : Value} {os : List El} {xs : List S118}
theorem RS.start : RS W0 W0 (.slice none 0 0) [] [] := ⟨World.ownsRow_nil _ _ _ _, rfl, fun i x e hx _ => by simp at hx, Below.refl _ _⟩
theorem RS.pvf (h : RS W0 W pv os xs) : ∃ PA pc, pv = .slice PA os.length pc := by
 rcases h.own.2 with ⟨h1, h2⟩ | ⟨g', cap', cur, h1, _⟩
 ·exact ⟨none, 0, by rw [h1, h2]⟩
 ·exact ⟨_, _, h1⟩
theorem RS.fresh (h : RS W0 W pv os xs) : ∀ k, W.heap.size ≤ k → Ro W0.heap.size pv k := by
 intro k hk;have hbs := h.bel.size;refine ⟨by omega, fun e => ?_⟩
 rcases h.own.2 with ⟨h3, _⟩ | ⟨g', cap', cur, h3, hb, hc, _⟩
 ·rw [h3] at e; cases e
 ·rw [h3] at e
  simp only [Value.ownBlock, Option.some.injEq] at e;have := blk_lt hc
  omega
theorem RS.app (h : RS W0 W pv os xs) {x : S118} {e : El} (hx : Kd.FK k118 W (Ro W0.heap.size pv) x e.cs) {pv' : Value} (hg : W.grownBy W' pv.ownBlock) (hat : pv'.ownBlock = pv.ownBlock ∨ pv'.ownBlock = some W.heap.size) (hown : W'.ownsRow W0.heap.size 118 3 pv' (os.length + 1) (os.flatMap El.cs ++ e.cs)) : RS W0 W' pv' (os ++ [e]) (xs ++ [x]) := by
 have hne : ∀ k, some k ≠ pv.ownBlock → k < W.heap.size → some k ≠ pv'.ownBlock := by
  intro k hk hlt
  rcases hat with hat | hat
  ·rw [hat]; exact hk
  ·rw [hat]
   intro he
   injection he with he
   omega
 have fkm : ∀ {y : S118} {cs : List Value}, Kd.FK k118 W (Ro W0.heap.size pv) y cs → Kd.FK k118 W' (Ro W0.heap.size pv') y cs := fun hk =>
  Kd.FK_mono (Kd.FK_step (Kd.FK_bound hk) (fun k hk hlt2 => hg.block k hlt2 hk.1.2)) (fun k hk => ⟨hk.1.1, hne k hk.1.2 hk.2⟩)
 refine ⟨?_, by simp [h.len], fun i y f hy hf => ?_, ?_⟩
 ·rw [List.length_append, List.flatMap_append]
  simpa using hown
 ·by_cases hi : i < xs.length
  ·rw [List.getElem?_append_left hi] at hy
   rw [List.getElem?_append_left (by rw [h.len]; exact hi)] at hf;exact fkm (h.rep i y f hy hf)
  ·have hi2 := (List.getElem?_eq_some_iff.1 hy).1
   simp only [List.length_append, List.length_singleton] at hi2
   obtain rfl : i = xs.length := by omega
   rw [List.getElem?_append_right (Nat.le_refl _)] at hy;rw [← h.len, List.getElem?_append_right (Nat.le_refl _)] at hf;simp only [Nat.sub_self, List.getElem?_cons_zero, Option.some.injEq] at hy hf;subst hy;subst hf;exact fkm hx
 ·refine h.bel.grown hg h.bel.size (fun k hk => ?_)
  rcases h.own.2 with ⟨h2, _⟩ | ⟨g', cap', cur, h2, hb, hc, hr⟩
  ·rw [h2] at hk; cases hk
  ·rw [h2] at hk
   simp only [Value.ownBlock, Option.some.injEq] at hk
   omega
theorem RS.cv {PA : Option Addr} {no pc : Nat} (h : RS W0 W (.slice PA no pc) os xs) (hm : xs.length ≤ 1000000) : Cv k118 (fun k => W0.heap.size ≤ k) W (.slice PA no pc) xs :=
 ns_row (O := fun k => W0.heap.size ≤ k) (xs := xs) h.own (fun k hk => hk) h.len hm (fun i x e hx he => Kd.FK_mono (h.rep i x e hx he) (fun k hk => hk.1))
end
def BLite (l : List S78) : Prop := l.length ≤ 13 ∧ ∀ b ∈ l, b.f1.f1.length ≤ 4
instance (l : List S78) : Decidable (BLite l) := by unfold BLite; infer_instance
def ofB (b : S78) : S118 := ⟨b.f0, cn (bv b.f1)⟩
set_option maxHeartbeats 3200000 in
theorem law_bindings (ok : Nat → Prop) (v : Value) (l : List S78) (w0 : World) (hok : ∀ k, w0.heap.size ≤ k → ok k) (h : Cv k78 (fun _ => True) w0 v l) (hd : ∀ b ∈ l, Dg B32 b.f1.f1) :
  Calls Tryd.prog 34 #[v] w0 fun e w' => ∃ u, e = .returned (.tuple #[u, .bool (decide (BLite l))]) ∧ (BLite l → Cv k118 ok w' u (l.map ofB)) ∧ Below w0.heap.size w0 w' := by
 obtain ⟨A, d, rfl, hc, hF0⟩ := h
 obtain ⟨s, es⟩ : ∃ s, s = decide (BLite l) := ⟨_, rfl⟩
 rw [← es];have hs := Sdq.mk es
 obtain ⟨n, en⟩ : ∃ n, n = l.length := ⟨_, rfl⟩
 have hF := Sdq.mk (show Cv k78 (fun _ => True) w0 (.slice A l.length d) l from ⟨A, d, rfl, hc, hF0⟩);rw [← en];have hn := Sdq.mk en;have hdd := Sdq.mk hd;have hok := Sdq.mk hok;have hB0 := Sdq.mk (RS.start (W0 := w0));clear hc hF0 hd es en;go_enter Tryd.func34, Tryd.ntmps34
 go_wp2_with fail
 go_loopg [4, 5] n (fun gk s4 s5 wr => ∃ (i : Nat) (pv : Value) (os : List El), gk + i = n ∧ s5 = .int .i64 (i : Int) ∧ s4 = pv ∧ Sdq (RS w0 wr pv os ((l.take i).map ofB)) ∧ Sdq (i ≤ 13 ∧ ∀ b ∈ l.take i, b.f1.f1.length ≤ 4))
 case atStart => exact ⟨0, _, _, by omega, rfl, rfl, hB0, ⟨by decide, fun b hb => by cases hb⟩⟩
 case round =>
  clear hB0;obtain ⟨i, pv, os, hgi, rfl, rfl, hN, hI⟩ := hrel;obtain ⟨PA, pc, rfl⟩ := hN.out.pvf
  obtain ⟨no, eno0⟩ : ∃ no, no = os.length := ⟨_, rfl⟩
  rw [← eno0] at hN ⊢;have eno := Sdq.mk eno0;clear eno0
  cases gk with
  | zero =>
   obtain rfl : i = n := by omega
   have h13 := hI.out;rw [List.take_of_length_le (by have := hn.out; omega)] at hN h13
   obtain rfl : s = true := by rw [hs.out]; exact decide_eq_true ⟨by have := hn.out; omega, h13.2⟩
   have hkv := hN.out.cv (by rw [List.length_map]; have := hn.out; omega);have hbe := hN.out.bel;clear hI h13
   go_wp2_with fail
   exact bodyPost_ret (results_tmp2 Tryd.results34 _ _ _) rfl ⟨_, rfl, fun _ => hkv.mono (fun k hk => hok.out k hk), hbe⟩
  | succ j =>
   have hin : i < l.length := by have := hn.out; omega
   have C2 := hF.out.below hN.out.bel;obtain ⟨B', d', e1, -, hF2⟩ := C2
   injection e1 with e2 e9 e3
   subst e2;subst e3;clear e9;obtain ⟨ad, e, rfl, x0, x1, x2, hfk⟩ := LB.row_el hF2 hin;have HP := Sdq.mk (And.intro hgi hin)
   have hin2 : i < n := by omega
   have hst := Sdq.mk (show (l.take (i + 1)).map ofB = (l.take i).map ofB ++ [ofB l[i]] by rw [List.take_succ_eq_append_getElem hin, List.map_append]; rfl);have hst2 := Sdq.mk (show l.take (i + 1) = l.take i ++ [l[i]] from List.take_succ_eq_append_getElem hin);have hmem := Sdq.mk (show l[i] ∈ l from List.getElem_mem hin);have hev : e.v = l[i].f0 := (LB.fk_el hfk).1;have hqd := hdd.out l[i] (List.getElem_mem hin)
   obtain ⟨q, eq⟩ : ∃ q, q = l[i] := ⟨_, rfl⟩
   rw [← eq] at hfk hev hst hqd hst2 hmem;have HEV := Sdq.mk hev
   obtain ⟨xs, hxs⟩ : ∃ xs, xs = (l.take i).map ofB := ⟨_, rfl⟩
   rw [← hxs] at hN hst;have hxl := Sdq.mk (show xs.length ≤ 13 by rw [hxs, List.length_map, List.length_take]; have := hI.out.1; omega);clear hF2 eq hxs hgi hin hev
   have C6 : Ctx [uRS w0 (.slice PA no pc) os xs, uEl ad i e, uK k24 (fun _ => True) (.agg #[.bool e.b, .slice e.A e.n e.c]) q.f1] wr := ⟨hN.out, ⟨x0, x1, x2⟩, LB.el_kv hfk, trivial⟩
   have hsm := fun (W : World) (hC : Ctx [uRS w0 (.slice PA no pc) os xs, uEl ad i e, uK k24 (fun _ => True) (.agg #[.bool e.b, .slice e.A e.n e.c]) q.f1] W) => law_small (.agg #[.bool e.b, .slice e.A e.n e.c]) q.f1 W hC.2.2.1
   have hC6 := Sdq.mk C6
   have hne := Sdq.mk (show ¬ (i ≤ 12 ∧ q.f1.f1.length ≤ 4) → s = false from fun hh => by
    rw [hs.out]
    refine decide_eq_false (fun hb => hh ⟨by have := hb.1; have := HP.out.2; omega, hb.2 q hmem.out⟩))
   clear hfk hN C6;by_cases h12 : i ≤ 12
   ·by_cases h4 : q.f1.f1.length ≤ 4
    ·have hss := hsm wr hC6.out
     rw [decide_eq_true h4] at hss;have hL := Sdq.mk (fun (W : World) (hC : Ctx [uRS w0 (.slice PA no pc) os xs, uEl ad i e, uK k24 (fun _ => True) (.agg #[.bool e.b, .slice e.A e.n e.c]) q.f1] W) => law_num (Ro w0.heap.size (.slice PA no pc)) (.agg #[.bool e.b, .slice e.A e.n e.c]) q.f1 W hC.1.fresh hC.2.2.1 ⟨hqd, by omega⟩)
     have hI2 := Sdq.mk (show i + 1 ≤ 13 ∧ ∀ b ∈ l.take (i + 1), b.f1.f1.length ≤ 4 from ⟨by omega, fun b hb => by
      rw [hst2.out] at hb
      rcases List.mem_append.1 hb with hb | hb
      ·exact hI.out.2 b hb
      ·rw [List.mem_singleton.1 hb]; exact h4⟩)
     have h12i : ¬ (12 < (i : Int)) := by omega
     clear hsm hne hI hqd h4
     go_upto_region 7 with (go_at_call 21; refine hss.mono ?_; rintro e5 w5 ⟨rfl, hb5⟩; have C6 := Ctx.below hb5 hC6.out)
     clear x0 x1 x2 hss hb5 hC6 h12i;refine absW _ C6 ?_;clear C6;intro w6 C;refine flowS2 (m := 14) (n := 16) law_bindings.tab7 rfl (Ctx _) (Rl [uEq (.slice PA no pc), uEq (.slice (some ad) n d), uEq (.int .i64 (i : Int)), uEq (.pointer (some (Addr.add ad (i * 3)))), uEq (.pointer (some (Addr.add ad (i * 3)))), uEq (.int .i64 e.v), uEq (.slice (some ad) n d), uEq (.int .i64 (i : Int)), uEq (.pointer (some (Addr.add ad (i * 3)))), uEq (.pointer (some ⟨(Addr.add ad (i * 3)).block, (Addr.add ad (i * 3)).off + 1, none⟩)), uEq (.agg #[.bool e.b, .slice e.A e.n e.c]), uKd k34 (Ro w0.heap.size (.slice PA no pc)) (cn (bv q.f1)), uKd k118 (Ro w0.heap.size (.slice PA no pc)) (⟨q.f0, cn (bv q.f1)⟩ : S118), uBx (Ro w0.heap.size (.slice PA no pc)) (⟨q.f0, cn (bv q.f1)⟩ : S118)]) rfl (by kernel_rfl) (by kernel_rfl) (fun _ _ h hb => h.below hb) (Rl.up _) C ⟨⟨⟨⟨⟨⟨⟨⟨⟨⟨⟨⟨⟨⟨trivial, ?_⟩, ?_⟩, ?_⟩, ?_⟩, ?_⟩, ?_⟩, ?_⟩, ?_⟩, ?_⟩, ?_⟩, ?_⟩, ?_⟩, ?_⟩, ?_⟩ ?_
     ·refine At2.of _ rfl (fun e_ a w hC hd hb K hK => ?_)
      have b4 : a.tmps[4]? = some (.slice PA no pc) := hb 4 (by decide);refine value_ (w1 := w) (v := .slice PA no pc) (by rfl) rfl ?_ (hK.out _ _ (Below.refl _ _) rfl);clear hC hd hb hK hL
      first | (go_simp; done) | (go_simp; rfl)
     ·refine At2.of _ rfl (fun e_ a w hC hd hb K hK => ?_)
      have b0 : a.tmps[0]? = some (.slice (some ad) n d) := hb 0 (by decide);refine value_ (w1 := w) (v := .slice (some ad) n d) (by rfl) rfl ?_ (hK.out _ _ (Below.refl _ _) rfl);clear hC hd hb hK hL
      first | (go_simp; done) | (go_simp; rfl)
     ·refine At2.of _ rfl (fun e_ a w hC hd hb K hK => ?_)
      have b5 : a.tmps[5]? = some (.int .i64 (i : Int)) := hb 5 (by decide);refine value_ (w1 := w) (v := .int .i64 (i : Int)) (by rfl) rfl ?_ (hK.out _ _ (Below.refl _ _) rfl);clear hC hd hb hK hL
      first | (go_simp; done) | (go_simp; rfl)
     ·refine At2.of _ rfl (fun e_ a w hC hd hb K hK => ?_)
      have q24 := (hd 1 (by decide)).2 24 rfl;rw [show e_ 1 = _ from (hd 1 (by decide)).1] at q24;have q25 := (hd 2 (by decide)).2 25 rfl;rw [show e_ 2 = _ from (hd 2 (by decide)).1] at q25;refine value_ (w1 := w) (v := .pointer (some (Addr.add ad (i * 3)))) (by rfl) rfl ?_ (hK.out _ _ (Below.refl _ _) rfl);clear hC hd hb hK hL
      first | (go_simp; done) | (go_simp; rfl)
     ·refine At2.of _ rfl (fun e_ a w hC hd hb K hK => ?_)
      have q26 := (hd 3 (by decide)).2 26 rfl;rw [show e_ 3 = _ from (hd 3 (by decide)).1] at q26;refine value_ (w1 := w) (v := .pointer (some (Addr.add ad (i * 3)))) (by rfl) rfl ?_ (hK.out _ _ (Below.refl _ _) rfl);clear hC hd hb hK hL
      first | (go_simp; done) | (go_simp; rfl)
     ·refine At2.of _ rfl (fun e_ a w hC hd hb K hK => ?_)
      have q27 := (hd 4 (by decide)).2 27 rfl;rw [show e_ 4 = _ from (hd 4 (by decide)).1] at q27;obtain ⟨x0, x1, x2⟩ := hC.2.1;refine value_ (w1 := w) (v := .int .i64 e.v) (by rfl) rfl ?_ (hK.out _ _ (Below.refl _ _) rfl);clear hC hd hb hK hL
      first | (go_simp; done) | (go_simp; rfl)
     ·refine At2.of _ rfl (fun e_ a w hC hd hb K hK => ?_)
      have b0 : a.tmps[0]? = some (.slice (some ad) n d) := hb 0 (by decide);refine value_ (w1 := w) (v := .slice (some ad) n d) (by rfl) rfl ?_ (hK.out _ _ (Below.refl _ _) rfl);clear hC hd hb hK hL
      first | (go_simp; done) | (go_simp; rfl)
     ·refine At2.of _ rfl (fun e_ a w hC hd hb K hK => ?_)
      have b5 : a.tmps[5]? = some (.int .i64 (i : Int)) := hb 5 (by decide);refine value_ (w1 := w) (v := .int .i64 (i : Int)) (by rfl) rfl ?_ (hK.out _ _ (Below.refl _ _) rfl);clear hC hd hb hK hL
      first | (go_simp; done) | (go_simp; rfl)
     ·refine At2.of _ rfl (fun e_ a w hC hd hb K hK => ?_)
      have q29 := (hd 6 (by decide)).2 29 rfl;rw [show e_ 6 = _ from (hd 6 (by decide)).1] at q29;have q30 := (hd 7 (by decide)).2 30 rfl;rw [show e_ 7 = _ from (hd 7 (by decide)).1] at q30;refine value_ (w1 := w) (v := .pointer (some (Addr.add ad (i * 3)))) (by rfl) rfl ?_ (hK.out _ _ (Below.refl _ _) rfl);clear hC hd hb hK hL
      first | (go_simp; done) | (go_simp; rfl)
     ·refine At2.of _ rfl (fun e_ a w hC hd hb K hK => ?_)
      have q31 := (hd 8 (by decide)).2 31 rfl;rw [show e_ 8 = _ from (hd 8 (by decide)).1] at q31;refine value_ (w1 := w) (v := .pointer (some ⟨(Addr.add ad (i * 3)).block, (Addr.add ad (i * 3)).off + 1, none⟩)) (by rfl) rfl ?_ (hK.out _ _ (Below.refl _ _) rfl);clear hC hd hb hK hL
      first | (go_simp; done) | (go_simp; rfl)
     ·refine At2.of _ rfl (fun e_ a w hC hd hb K hK => ?_)
      have q32 := (hd 9 (by decide)).2 32 rfl;rw [show e_ 9 = _ from (hd 9 (by decide)).1] at q32;obtain ⟨x0, x1, x2⟩ := hC.2.1;refine value_ (w1 := w) (v := .agg #[.bool e.b, .slice e.A e.n e.c]) (by rfl) rfl ?_ (hK.out _ _ (Below.refl _ _) rfl);clear hC hd hb hK hL
      first | (go_simp; done) | (go_simp; rfl)
     ·refine At2.of _ rfl (fun e_ a w hC hd hb K hK => ?_)
      have q33 := (hd 10 (by decide)).2 33 rfl;rw [show e_ 10 = _ from (hd 10 (by decide)).1] at q33;refine goes_ Tryd.func26 (by kernel_rfl) rfl #[.agg #[.bool e.b, .slice e.A e.n e.c]] (by rfl) rfl rfl (by first | (simp [Act.eval, q33]; done) | (simp [Act.eval, q33]; rfl)) ?_;refine (hL.out w hC).mono ?_;rintro en w' ⟨v, rfl, hv, hb'⟩;exact ⟨v, rfl, hK.out v w' hb' hv⟩
     ·refine At2.of _ rfl (fun e_ a w hC hd hb K hK => ?_)
      have q28 := (hd 5 (by decide)).2 28 rfl;rw [show e_ 5 = _ from (hd 5 (by decide)).1] at q28;have q34 := (hd 11 (by decide)).2 34 rfl;obtain ⟨yA, yc, heN, yl, yF⟩ := Kv.openN (hd 11 (by decide)).1;rw [heN] at q34;refine value_ (w1 := w) (v := .agg #[.int .i64 e.v, .bool (cn (bv q.f1)).f0, .slice yA (cn (bv q.f1)).f1.length yc]) (by rfl) rfl ?_ (hK.out _ _ (Below.refl _ _) ⟨_, rfl, by rw [HEV.out]; exact k118_mkF w _ (⟨q.f0, cn (bv q.f1)⟩ : S118) yl yF⟩);clear hC hd hb hK hL yl yF heN
      first | (go_simp; done) | (go_simp; rfl)
     ·refine At2.of _ rfl (fun e_ a w hC hd hb K hK => ?_)
      have q35 := (hd 12 (by decide)).2 35 rfl;obtain ⟨cs8, he8, hK8⟩ := (hd 12 (by decide)).1;obtain ⟨yA, yc, rfl, yl, yF⟩ := k118_openF hK8;rw [he8] at q35;refine value_ (w1 := w.alloc (.cells (El.cs ⟨q.f0, (cn (bv q.f1)).f0, yA, (cn (bv q.f1)).f1.length, yc⟩).toArray 118)) (v := .slice (some ⟨w.heap.size, 0, none⟩) 1 1) (by rfl) rfl ?_ (hK.out _ _ (bal (Below.refl _ _) _) ⟨w.heap.size, _, rfl, blk_new w _, Kd.FK_below hK8 (bal (Below.refl _ _) _)⟩);clear hC hd hb hK hL yl yF he8 hK8;unfold El.cs
      first | (go_simp; done) | (go_simp; rfl)
     ·intro e_ w10 hC hr a ha
      obtain ⟨gb, e', he8, hbx, hK8⟩ := hr.2;have r0 : e_ 0 = .slice PA no pc := hr.1.1.1.1.1.1.1.1.1.1.1.1.1.2;simp only [fill, Act.put, r0, he8, Nat.reduceAdd, Nat.reduceLT, decide_true, decide_false, if_true, Bool.false_eq_true, if_false, List.setIfInBounds_toArray, List.set_cons_zero, List.set_cons_succ] at ha;subst ha;clear hr r0 he8 hL;obtain rfl := eno.out;obtain ⟨i0, hi, hzz⟩ := Option.map_eq_some_iff.1 infoP;simp only [Prod.mk.injEq] at hzz;obtain ⟨hz1, hz2, hz3⟩ := hzz;have hHI := Sdq.mk (And.intro hi (And.intro hz1 (And.intro hz2 hz3)));clear hi hz1 hz2 hz3;have hN := Sdq.mk (show RS w0 w10 (.slice PA os.length pc) os xs from hC.1);have hnw := Sdq.mk (bx_news hbx);have hone := Sdq.mk (cs_one1 e');have hK := Sdq.mk hK8;have hOL := Sdq.mk (show os.length ≤ 100001 by have := hN.out.len; have := hxl.out; omega);have hs6 := Sdq.mk (show w0.heap.size ≤ w10.heap.size from hN.out.bel.size);clear hC hbx hK8 C;simp only [List.drop_succ_cons, List.drop_zero]
      go_wp2_with (first
       | ((with_reducible refine gate_builtin (b := .append) (xs := #[.tmp 23, .tmp 36]) rfl ?_); at_builtin; go_loud (refine wpList_append_own_at _ rfl (.tmp 23) (.tmp 36) 69 rfl w0.heap.size 118 i0 _ 3 40 undP hHI.out.1 hHI.out.2.1 hHI.out.2.2.1 hHI.out.2.2.2 rfl (by decide) (.slice PA os.length pc) os.length (os.flatMap El.cs) rfl hN.out.own ⟨gb, 0, none⟩ 1 1 e'.cs rfl rfl hnw.out hone.out (by have := hOL.out; simp only [maxLen]; omega) (by have := hOL.out; omega) hs6.out ?_; intro v1 w11 hown1 hg1 hnil1 hat1; obtain ⟨g1, c1, hv1, -⟩ := ownsRow_slice hown1 (by omega); subst hv1; have HNS := Sdq.mk (hN.out.app hK.out hg1 hat1 hown1); clear hown1 hg1 hnil1 hat1)))
      go_roundg j
      case measure => go_light; omega
      case rel => go_light; exact ⟨i + 1, .slice (some ⟨g1, 0, none⟩) (os.length + 1) c1, os ++ [e'], by have := HP.out.1; omega, by go_num, rfl, ⟨by rw [hst.out]; exact HNS.out⟩, hI2⟩
    ·have hss := hsm wr hC6.out
     rw [decide_eq_false h4] at hss;obtain rfl := hne.out (fun hh => h4 hh.2);have hbe := hC6.out.1.bel
     have h12i : ¬ (12 < (i : Int)) := by omega
     clear hsm hne hI hqd h4;go_wp2_with (go_at_call 21; refine hss.mono ?_; rintro e5 w5 ⟨rfl, hb5⟩);exact bodyPost_ret (results_tmp2 Tryd.results34 _ _ _) rfl ⟨_, rfl, fun hb => absurd hb (by simpa using hs.out.symm), below_step hbe hb5⟩
   ·obtain rfl := hne.out (fun hh => h12 hh.1)
    have hbe := hC6.out.1.bel
    have h12i : (12 < (i : Int)) := by omega
    clear hsm hne hI hqd
    go_wp2_with fail
    exact bodyPost_ret (results_tmp2 Tryd.results34 _ _ _) rfl ⟨_, rfl, fun hb => absurd hb (by simpa using hs.out.symm), hbe⟩
end Go.Proofs.YthpgjgmaamcaoaaDoor.P.RB
end
