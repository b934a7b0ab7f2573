/- Walks and words of this session, put together by a program of this session (pack.py). Conditions: as each text says. -/
import Derived.Test.YteighppcdpaekaaC2
import Derived.Test.YteighppcdpaekaaC4
import Derived.Test.YteighppcdpaekaaC7
set_option linter.unusedVariables false
set_option linter.unusedSimpArgs false
section
namespace Go.Proofs.Yteighppcdpaekaa.Wr
open Go.RowKit Go.Proofs.YteighppcdpaekaaW.PrintWords
open Go.Proofs.Yteighppcdpaekaa Go.Proofs.Yteighppcdpaekaa.P
set_option maxRecDepth 100000 in
set_option maxHeartbeats 3200000 in
theorem parts_form {w0 w : World} {P0 : Nat → Prop} {u : Value} {v : S25} {A2 : Option Addr} {c2 : Nat} {A3 : Option Addr} {c3 : Nat} {deep : Int} (hB : Below w0.heap.size w0 w) (h0 : v.f0 = 6) (hn : ¬ v.f2.length = v.f3.length) :
  Calls Try.prog 25 #[u, .agg #[.int .i64 v.f0, .string v.f1, .slice A2 v.f2.length c2, .slice A3 v.f3.length c3], .int .i64 deep] w (WPost w0 w P0 [] 6) := by
 have hB1 : Below w0.heap.size w0 (w.alloc (.cells #[.int .i64 6, .string v.f1, .slice A2 v.f2.length c2, .slice A3 v.f3.length c3] 25 (0, 0))) := below_alloc hB _
 have hK1 : Kept w (w.alloc (.cells #[.int .i64 6, .string v.f1, .slice A2 v.f2.length c2, .slice A3 v.f3.length c3] 25 (0, 0))) P0 := (Kept.refl w P0).alloc _
 rw [h0]
 generalize v.f1 = t1 at hB1 hK1 ⊢
 generalize v.f2.length = n2 at hB1 hK1 hn ⊢
 generalize v.f3.length = n3 at hB1 hK1 hn ⊢
 have hn' : ((n2 : Int) == (n3 : Int)) = false := by
  rw [beq_eq_false_iff_ne]
  omega
 have hn2 : ¬ (n2 : Int) = (n3 : Int) := by omega
 go_enter Try.func25, Try.ntmps25
 go_wp2
 refine bodyPost_ret (v := .tuple #[.slice none 0 0, .int .i64 6]) (by simp [results, Try.results25, go_sem]) rfl ?_
 exact ⟨_, rfl, Kd.R_nil _ _ _ _ _, hB1, hK1⟩
end Go.Proofs.Yteighppcdpaekaa.Wr
end
section
namespace Go.Proofs.Yteighppcdpaekaa.Wr
open Go.RowKit Go.Proofs.YteighppcdpaekaaW.PrintWords
open Go.Proofs.Yteighppcdpaekaa Go.Proofs.Yteighppcdpaekaa.P Go.Proofs.Yteighppcdpaekaa.Rd
structure PtS (w0 w : World) (P0 : Nat → Prop) (cs : Array Value) (mb : Nat) (wc : World) (u : Value) (x : List Int) (D : DataW Unit) (m : Nat) : Prop where
 hB : Below w0.heap.size w0 wc
 hK : Kept w wc P0
 vb : wc.heap[w.heap.size]? = some (.cells cs 25 (0, 0))
 mp : wc.ownsMap Try.prog 9 (plainElem Try.prog 3) mb m D
 row : (Kd.int .u8).R 5 wc w0.heap.size (fun k => P0 k ∨ w.heap.size ≤ k) u x
section
variable {w0 w wc w2 : World} {P0 : Nat → Prop} {cs : Array Value} {mb m : Nat} {u v1 : Value} {x y : List Int} {D : DataW Unit}
theorem PtS.ne (h : PtS w0 w P0 cs mb wc u x D m) : some w.heap.size ≠ u.ownBlock ∧ some mb ≠ u.ownBlock := by
 refine ⟨Kd.R_ne h.row h.vb (by decide), fun e => ?_⟩
 obtain ⟨cells, hc⟩ := Kd.R_typed h.row mb e.symm
 exact map_ne h.mp hc rfl
theorem PtS.kept (h : PtS w0 w P0 cs mb wc u x D m) (hb : Below w0.heap.size w0 w2) (hk : Kept wc w2 (fun k => some k = u.ownBlock)) (hr : (Kd.int .u8).R 5 w2 w0.heap.size (fun k => some k = u.ownBlock ∨ wc.heap.size ≤ k) v1 y) : PtS w0 w P0 cs mb w2 v1 y D m := by
 have hlt := blk_lt h.vb
 obtain ⟨n1, n2⟩ := h.ne
 have hmb := h.mp.lt
 refine ⟨hb, h.hK.then_ hk (fun k hk => h.row.1 k hk.symm), (hk.2 _ hlt n1).trans h.vb, ?_, Kd.R_mono hr (fun k hk => ?_)⟩
 ·obtain ⟨es, cl, hm, F⟩ := h.mp
  exact ⟨es, cl, (hk.2 mb hmb n2).trans hm, F⟩
 ·rcases hk with hk | hk
  ·exact h.row.1 k hk.symm
  ·exact .inr (by omega)
theorem PtS.tight (h : PtS w0 w P0 cs mb wc u x D m) : (Kd.int .u8).R 5 wc w0.heap.size (fun k => some k = u.ownBlock) u x := Kd.R_tight rfl h.row
end
end Go.Proofs.Yteighppcdpaekaa.Wr
end
section
namespace Go.Proofs.Yteighppcdpaekaa.Wr
open Go.RowKit Go.Proofs.YteighppcdpaekaaW.PrintWords
open Go.Proofs.Yteighppcdpaekaa Go.Proofs.Yteighppcdpaekaa.P Go.Proofs.Yteighppcdpaekaa.Rd
section
variable {w0 w wc w2 : World} {P0 : Nat → Prop} {cs : Array Value} {mb m m2 : Nat} {u v1 : Value} {x y : List Int} {D D2 : DataW Unit}
theorem PtS.below (h : PtS w0 w P0 cs mb wc u x D m) (hb : Below wc.heap.size wc w2) : PtS w0 w P0 cs mb w2 u x D m :=
 ⟨below_step h.hB hb, h.hK.below hb, (hb.block _ (blk_lt h.vb)).trans h.vb, (by obtain ⟨es, cl, hm, F⟩ := h.mp; exact ⟨es, cl, (hb.block _ h.mp.lt).trans hm, F⟩), Kd.R_below h.row hb⟩
theorem PtS.alloc (h : PtS w0 w P0 cs mb wc u x D m) (o : Obj) : PtS w0 w P0 cs mb (wc.alloc o) u x D m := h.below (below_alloc (Below.refl _ _) o)
theorem PtS.drewN (h : PtS w0 w P0 cs mb wc u x D m) (n : Nat) : PtS w0 w P0 cs mb (wc.drewN n) u x D m := h.below (pw_below_drewN (Below.refl _ _) n)
theorem PtS.grown (h : PtS w0 w P0 cs mb wc u x D m) (hb : Below w0.heap.size w0 w2) (hg : wc.grownBy w2 u.ownBlock) (hr : (Kd.int .u8).R 5 w2 w0.heap.size (fun k => P0 k ∨ w.heap.size ≤ k) v1 y) : PtS w0 w P0 cs mb w2 v1 y D m :=
 ⟨hb, Kept.of_grown hg h.hK (fun k hk => h.row.1 k hk), blk_grown h.vb hg h.ne.1, h.mp.kept hg h.ne.2, hr⟩
theorem PtS.put (h : PtS w0 w P0 cs mb wc u x D m) (hmb : w.heap.size < mb) (hs : w0.heap.size ≤ w.heap.size) (hm : w2.ownsMap Try.prog 9 (plainElem Try.prog 3) mb m2 D2) (hg : wc.grownBy w2 (some mb)) : PtS w0 w P0 cs mb w2 u x D2 m2 := by
 refine ⟨h.hB.grown hg h.hB.size (fun k hk => by cases hk; omega), Kept.of_grown hg h.hK (fun k hk => by cases hk; exact .inr (by omega)), blk_grown h.vb hg (fun e => by have := Option.some.inj e; omega), hm, ?_⟩
 exact Kd.R_mono (Kd.R_grown (Kd.R_bound h.row) hg (by rintro k ⟨_, _, _, _, _, _, hc⟩ e; exact map_ne h.mp hc (Option.some.inj e))) (fun _ hk => hk.1)
end
end Go.Proofs.Yteighppcdpaekaa.Wr
end
section
namespace Go.Proofs.Yteighppcdpaekaa.Wr
open Go.RowKit Go.Proofs.YteighppcdpaekaaW.PrintWords
open Go.Proofs.Yteighppcdpaekaa Go.Proofs.Yteighppcdpaekaa.P Go.Proofs.Yteighppcdpaekaa.Rd
open Go.Maps (Keyed IsMap)
def CS (kd : Int) (t : ByteArray) (A2 : Option Addr) (n2 c2 : Nat) (A3 : Option Addr) (n3 c3 : Nat) : Array Value := #[.int .i64 kd, .string t, .slice A2 n2 c2, .slice A3 n3 c3]
section
variable {w0 w wc w2 : World} {P0 : Nat → Prop} {kd : Int} {t : ByteArray} {A2 A3 : Option Addr} {n2 c2 n3 c3 mb m : Nat} {u v1 : Value} {x y : List Int} {D : DataW Unit}
theorem PtS.cel0 (h : PtS w0 w P0 (CS kd t A2 n2 c2 A3 n3 c3) mb wc u x D m) : wc.cell? ⟨w.heap.size, 0, none⟩ = some (.int .i64 kd) := (blk_cell h.vb 0).trans rfl
theorem PtS.cel2 (h : PtS w0 w P0 (CS kd t A2 n2 c2 A3 n3 c3) mb wc u x D m) : wc.cell? ⟨w.heap.size, 2, none⟩ = some (.slice A2 n2 c2) := (blk_cell h.vb 2).trans rfl
theorem PtS.cel3 (h : PtS w0 w P0 (CS kd t A2 n2 c2 A3 n3 c3) mb wc u x D m) : wc.cell? ⟨w.heap.size, 3, none⟩ = some (.slice A3 n3 c3) := (blk_cell h.vb 3).trans rfl
theorem PtS.first {w4 : World} (hR : (Kd.int .u8).R 5 w w0.heap.size P0 u x) (ho : (Kd.int .u8).R 5 w4 w0.heap.size (fun k => P0 k ∨ w.heap.size ≤ k) v1 y) (hb : Below w0.heap.size w0 w4) (hg : (w.alloc (.cells (CS kd t A2 n2 c2 A3 n3 c3) 25 (0, 0))).grownBy w4 u.ownBlock) :
  PtS w0 w P0 (CS kd t A2 n2 c2 A3 n3 c3) w4.heap.size (w4.alloc (.map #[] 0)) v1 y (.map []) 0 := by
 have hR1 : (Kd.int .u8).R 5 (w.alloc (.cells (CS kd t A2 n2 c2 A3 n3 c3) 25 (0, 0))) w0.heap.size (fun k => P0 k ∨ w.heap.size ≤ k) u x := Kd.R_mono (Kd.R_alloc hR _) (fun k hk => .inl hk)
 have hvb : w4.heap[w.heap.size]? = some (.cells (CS kd t A2 n2 c2 A3 n3 c3) 25 (0, 0)) := blk_grown (blk_new w _) hg (Kd.R_ne hR1 (blk_new w _) (by decide))
 exact ⟨below_alloc hb _, (Kept.of_grown hg ((Kept.refl w P0).alloc _) (fun k hk => .inl (hR.1 k hk))).alloc _, blk_alloc hvb _, World.ownsMap_made _ _ _ _, Kd.R_alloc ho _⟩
end
end Go.Proofs.Yteighppcdpaekaa.Wr
end
section
namespace Go.Proofs.Yteighppcdpaekaa.Wr
open Go.RowKit Go.Proofs.YteighppcdpaekaaW.PrintWords
open Go.Proofs.Yteighppcdpaekaa Go.Proofs.Yteighppcdpaekaa.P Go.Proofs.Yteighppcdpaekaa.Rd
open Go.Maps (Keyed IsMap)
theorem pl_array {j : Nat} {y : List Int} {v : S25} {deep : Int} {i : Nat} {r : List Int} {e : Int} {uu : S25} (h0 : v.f0 = 5) (hu : v.f3[i]? = some uu) (h : pl (j + 1) y v deep i [] = some (r, e)) :
  ∃ y2 z2 e2, (if 0 < i then room y [44] else some y) = some y2 ∧ wr j y2 uu deep = some (z2, e2) ∧ ((e2 = 0 ∧ pl j z2 v deep (i + 1) [] = some (r, e)) ∨ (e2 ≠ 0 ∧ r = [] ∧ e = e2)) := by
 rw [pl, hu] at h
 simp only at h
 cases hy : (if 0 < i then room y [44] else some y) with
 | none => rw [hy] at h; cases h
 | some y2 =>
  rw [hy] at h
  have hd : head j y2 v i [] = some (y2, [], 0) := by unfold head; rw [if_neg (by rw [h0]; decide)]
  simp only [hd, if_true] at h
  cases hw : wr j y2 uu deep with
  | none => rw [hw] at h; cases h
  | some t =>
   obtain ⟨z2, e2⟩ := t
   rw [hw] at h
   simp only at h
   by_cases he : e2 = 0
   ·rw [if_pos he] at h; exact ⟨y2, z2, e2, rfl, hw, .inl ⟨he, h⟩⟩
   ·rw [if_neg he] at h; simp at h; exact ⟨y2, z2, e2, rfl, hw, .inr ⟨he, h.1, h.2.symm⟩⟩
set_option maxRecDepth 100000 in
set_option maxHeartbeats 3200000 in
theorem parts_array {k : Nat} (ih : ∀ i, i < k → OKs 16 (wr i)) {w0 w : World} {P0 : Nat → Prop} {u : Value} {x : List Int} {v : S25} {A2 : Option Addr} {c2 : Nat} {A3 : Option Addr} {c3 : Nat} {deep : Int} {r y : List Int} {e : Int} (hB : Below w0.heap.size w0 w) (h2 : Kd.string.C w0 A2 v.f2.length v.f2) (l2 : v.f2.length ≤ c2) (h3 : k25.C w0 A3 v.f3.length v.f3) (l3 : v.f3.length ≤ c3)
  (hR : (Kd.int .u8).R 5 w w0.heap.size P0 u x) (hd0 : 0 ≤ deep) (hd1 : deep ≤ 1000) (h0 : v.f0 = 5) (hn3 : v.f3.length ≤ 100000000000) (hy : room x [91] = some y) (h : pl k y v deep 0 [] = some (r, e)) :
  Calls Try.prog 25 #[u, .agg #[.int .i64 v.f0, .string v.f1, .slice A2 v.f2.length c2, .slice A3 v.f3.length c3], .int .i64 deep] w (WPost w0 w P0 r e) := by
 obtain ⟨hl, rfl⟩ := room_some hy
 have hmm := @run_makeMap Try.prog
 have hsz := hB.size
 have hB1 : Below w0.heap.size w0 (w.alloc (.cells #[.int .i64 5, .string v.f1, .slice A2 v.f2.length c2, .slice A3 v.f3.length c3] 25 (0, 0))) := below_alloc hB _
 have hR1 : (Kd.int .u8).R 5 (w.alloc (.cells #[.int .i64 5, .string v.f1, .slice A2 v.f2.length c2, .slice A3 v.f3.length c3] 25 (0, 0))) w0.heap.size (fun k => P0 k ∨ w.heap.size ≤ k) u x := Kd.R_mono (Kd.R_alloc hR _) (fun k hk => .inl hk)
 have hm4 : ∀ v1 w4, (Kd.int .u8).R 5 w4 w0.heap.size (fun k => P0 k ∨ w.heap.size ≤ k) v1 (x ++ [91]) → Below w0.heap.size w0 w4 → (w.alloc (.cells #[.int .i64 5, .string v.f1, .slice A2 v.f2.length c2, .slice A3 v.f3.length c3] 25 (0, 0))).grownBy w4 u.ownBlock → PtS w0 w P0 (CS 5 v.f1 A2 v.f2.length c2 A3 v.f3.length c3) w4.heap.size (w4.alloc (.map #[] 0)) v1 (x ++ [91]) (.map []) 0 := fun v1 w4 ho hb hg => PtS.first hR ho hb hg
 have hm4' := Lib.hid hm4
 clear hm4
 rw [h0]
 have hh := Lib.hid h
 clear h hy
 have hH3 := Lib.hid h3
 clear h3
 have hf0 := Lib.hid h0
 clear h0
 go_enter Try.func25, Try.ntmps25
 go_wp2_with ((with_reducible refine gate_builtin (b := .append) (xs := #[.tmp 26, .tmp 28]) rfl ?_); at_builtin; go_loud (refine Kd.R_append (Kd.int .u8) (w0 := w0) w0.heap.size rfl (.tmp 26) (.tmp 28) 28 5 (.int .u8 0) 1 rfl Try.underlying28 info_5 rfl (by decide) (by omega) u x 91 [.int .u8 91] (fun k => P0 k ∨ w.heap.size ≤ k) (fun _ => False) rfl (by first | rfl | (simp; rfl)) rfl (fun _ hk => hk.elim) (fun k hk => .inr (by simp at hk; omega)) hR1 hB1 (by simp; omega) (by simp at hl; omega) ?_; intro v1 w4 ho hb hg hat; have hP0 := hm4'.out v1 w4 ho hb hg; have q3 := hP0.cel3))
 clear hR1 hB1 hm4' hB h2 l2 hl ho hb hg hat q3 hmm
 generalize hmbe : w4.heap.size = mb at hP0 ⊢
 have hwm : w.heap.size < mb := by subst hmbe; have := blk_lt hP0.vb; have h4 := hP0.mp.lt; simp at this; have hne := map_ne hP0.mp hP0.vb; omega
 go_loopg [0, 34] k (fun kq uv iv wc => ∃ (i : Nat) (y : List Int), iv = .int .i64 (i : Int) ∧ i ≤ v.f3.length ∧ kq ≤ k ∧ Hid (pl kq y v deep i [] = some (r, e)) ∧ PtS w0 w P0 (CS 5 v.f1 A2 v.f2.length c2 A3 v.f3.length c3) mb wc uv y (.map []) 0)
 case atStart => exact ⟨0, _, rfl, by omega, Nat.le_refl _, hh, by subst hmbe; exact hP0⟩
 case round =>
  clear hh hP0
  obtain ⟨i, y, rfl, hin, hkk, hpl, hP⟩ := hrel
  cases gk with
  | zero => exact absurd hpl.out (by simp [pl])
  | succ j =>
   have p0 := hP.cel0
   cases hu : v.f3[i]? with
   | none =>
    have hie : i = v.f3.length := by have := List.getElem?_eq_none_iff.1 hu; omega
    have hge : ¬ i < v.f3.length := by omega
    have ⟨hr1, hr2⟩ : e = 0 ∧ room y [93] = some r := by
     have := hpl.out
     rw [pl, hu] at this
     simp only [hf0.out] at this
     rw [if_neg (by decide)] at this
     cases hrm : room y [93] with
     | none => rw [hrm] at this; cases this
     | some y2 => rw [hrm] at this; simp at this; exact ⟨this.2.symm, by rw [this.1]⟩
    obtain ⟨hl2, hr3⟩ := room_some hr2
    have HE := Lib.hid (And.intro hr1 hr3)
    clear hpl hu hr1 hr2 hr3 hie
    go_wp2_with ((with_reducible refine gate_builtin (b := .append) (xs := #[.tmp 80, .tmp 82]) rfl ?_); at_builtin; go_loud (refine Kd.R_append (Kd.int .u8) (w0 := w0) w0.heap.size rfl (.tmp 80) (.tmp 82) 28 5 (.int .u8 0) 1 rfl Try.underlying28 info_5 rfl (by decide) (by omega) u0 y 93 [.int .u8 93] (fun k => P0 k ∨ w.heap.size ≤ k) (fun _ => False) rfl (by first | rfl | (simp; rfl)) rfl (fun _ hk => hk.elim) (fun k hk => .inr (by have := hP.hK.1; omega)) hP.row hP.hB (by have := hP.hB.size; omega) (by simp at hl2; omega) ?_; intro v2 w5 ho hb hg hat))
    refine bodyPost_ret (v := .tuple #[v2, .int .i64 0]) (by simp [results, Try.results25, go_sem]) rfl ?_
    obtain ⟨rfl, rfl⟩ := HE.out
    have hP5 := hP.grown hb hg ho
    exact ⟨v2, rfl, hP5.row, hP5.hB, hP5.hK⟩
   | some uu =>
    have hlt : i < v.f3.length := (List.getElem?_eq_some_iff.1 hu).1
    obtain ⟨ad, B2, d2, B3, d3, ea, x0, x1, x2, x3, m2, C2, m3, C3⟩ := at_T25 hH3.out (i : Int) (by omega) (by omega)
    have hru : rd_T25 v.f3 (i : Int) = uu := by unfold rd_T25; rw [Int.toNat_natCast, List.getD_eq_getElem?_getD, hu]; rfl
    rw [hru] at x0 x1 x2 x3 m2 C2 m3 C3
    rw [Int.toNat_natCast] at x0 x1 x2 x3
    cases ea
    have D2 := Lib.hid C2
    have D3 := Lib.hid C3
    clear C2 C3
    replace x0 := (hP.hB.cell (World.block_lt_of_cell? w0 _ x0)).trans x0
    replace x1 := (hP.hB.cell (World.block_lt_of_cell? w0 _ x1)).trans x1
    replace x2 := (hP.hB.cell (World.block_lt_of_cell? w0 _ x2)).trans x2
    replace x3 := (hP.hB.cell (World.block_lt_of_cell? w0 _ x3)).trans x3
    have hru' := Lib.hid hru
    clear hru
    have hpl2 := hpl
    have hu' := Lib.hid hu
    clear hu
    have z0 : (0 : Int) ≤ (i : Int) := by omega
    have z1 : (i : Int) < (v.f3.length : Int) := by omega
    obtain ⟨y2, z2, e2, hy2, hw, hend⟩ := pl_array hf0.out hu'.out hpl.out
    clear hpl
    have hL0 : (wr.alloc (.cells #[.int .i64 uu.f0, .string uu.f1, .slice B2 uu.f2.length d2, .slice B3 uu.f3.length d3] 25 (0, 0))).heap[wr.heap.size]? = some (.cells #[.int .i64 uu.f0, .string uu.f1, .slice B2 uu.f2.length d2, .slice B3 uu.f3.length d3] 25 (0, 0)) := blk_new _ _
    have hPL := hP.alloc (.cells #[.int .i64 uu.f0, .string uu.f1, .slice B2 uu.f2.length d2, .slice B3 uu.f3.length d3] 25 (0, 0))
    have hxl : wr.heap.size < (wr.alloc (.cells #[.int .i64 uu.f0, .string uu.f1, .slice B2 uu.f2.length d2, .slice B3 uu.f3.length d3] 25 (0, 0))).heap.size := blk_lt hL0
    by_cases hi : 0 < i
    ·rw [if_pos hi] at hy2
     obtain ⟨hl2, hy3⟩ := room_some hy2
     have hi2 : (0 : Int) < (i : Int) := by omega
     clear hy2 hpl2
     have hcall := fun W v2 (hW : PtS w0 w P0 (CS 5 v.f1 A2 v.f2.length c2 (some ad) v.f3.length c3) mb W v2 y2 (.map []) 0) => ih j (by omega) w0 W (fun k => some k = v2.ownBlock) v2 y2 uu B2 d2 B3 d3 deep z2 e2 hW.hB D2.out m2 D3.out m3 hW.tight hd0 hd1 hw
     have hy3' := Lib.hid hy3
     clear hy3 hw
     have hne : some wr.heap.size ≠ u0.ownBlock := fun e => by have := Kd.R_lt hP.row _ e.symm; omega
     have pa := hPL.cel0
     have hap : ∀ v2 w5, (Kd.int .u8).R 5 w5 w0.heap.size (fun k => P0 k ∨ w.heap.size ≤ k) v2 (y ++ [44]) → Below w0.heap.size w0 w5 → (wr.alloc (.cells #[.int .i64 uu.f0, .string uu.f1, .slice B2 uu.f2.length d2, .slice B3 uu.f3.length d3] 25 (0, 0))).grownBy w5 u0.ownBlock → PtS w0 w P0 (CS 5 v.f1 A2 v.f2.length c2 (some ad) v.f3.length c3) mb w5 v2 y2 (.map []) 0 ∧ w5.heap[wr.heap.size]? = some (.cells #[.int .i64 uu.f0, .string uu.f1, .slice B2 uu.f2.length d2, .slice B3 uu.f3.length d3] 25 (0, 0)) :=
      fun v2 w5 ho hb hg => ⟨hPL.grown hb hg (by rw [hy3'.out]; exact ho), blk_grown hL0 hg hne⟩
     have hap' := Lib.hid hap
     clear hap
     rcases hend with ⟨he, hpl3⟩ | ⟨he, hr, hee⟩
     ·have hpl3' := Lib.hid hpl3
      clear hpl3
      subst he
      go_wp2_with (first
       | ((with_reducible refine gate_builtin (b := .append) (xs := #[.tmp 41, .tmp 42]) rfl ?_); at_builtin; go_loud (refine Kd.R_append (Kd.int .u8) (w0 := w0) w0.heap.size rfl (.tmp 41) (.tmp 42) 28 5 (.int .u8 0) 1 rfl Try.underlying28 info_5 rfl (by decide) (by omega) u0 y 44 [.int .u8 44] (fun k => P0 k ∨ w.heap.size ≤ k) (fun _ => False) rfl (by first | rfl | (simp; rfl)) rfl (fun _ hk => hk.elim) (fun k hk => .inr (by have := hPL.hK.1; omega)) hPL.row hPL.hB (by have := hPL.hB.size; omega) (by simp at hl2; omega) ?_; intro v2 w5 ho hb hg hat; obtain ⟨hP5, hL5⟩ := hap'.out v2 w5 ho hb hg; have pb := hP5.cel0; obtain ⟨b0, b1, b2, b3⟩ := blk4 hL5; clear ho hb hg hat))
       | (go_at_call 16; go_loud (refine (hcall _ _ hP5).mono ?_; rintro e9 w9 ⟨v9, rfl, hR9, hB9, hK9⟩; have hP9 := hP5.kept hB9 hK9 hR9)))
      go_roundg j
      case measure => omega
      case rel => exact ⟨i + 1, z2, by go_num, by omega, by omega, hpl3', hP9⟩
     ·have hrr := Lib.hid (And.intro hr hee)
      clear hr hee
      have he2 : (e2 != 0) = true := by simpa using he
      clear he
      go_wp2_with (first
       | ((with_reducible refine gate_builtin (b := .append) (xs := #[.tmp 41, .tmp 42]) rfl ?_); at_builtin; go_loud (refine Kd.R_append (Kd.int .u8) (w0 := w0) w0.heap.size rfl (.tmp 41) (.tmp 42) 28 5 (.int .u8 0) 1 rfl Try.underlying28 info_5 rfl (by decide) (by omega) u0 y 44 [.int .u8 44] (fun k => P0 k ∨ w.heap.size ≤ k) (fun _ => False) rfl (by first | rfl | (simp; rfl)) rfl (fun _ hk => hk.elim) (fun k hk => .inr (by have := hPL.hK.1; omega)) hPL.row hPL.hB (by have := hPL.hB.size; omega) (by simp at hl2; omega) ?_; intro v2 w5 ho hb hg hat; obtain ⟨hP5, hL5⟩ := hap'.out v2 w5 ho hb hg; have pb := hP5.cel0; obtain ⟨b0, b1, b2, b3⟩ := blk4 hL5; clear ho hb hg hat))
       | (go_at_call 16; go_loud (refine (hcall _ _ hP5).mono ?_; rintro e9 w9 ⟨v9, rfl, hR9, hB9, hK9⟩; have hP9 := hP5.kept hB9 hK9 hR9)))
      refine bodyPost_ret (v := .tuple #[.slice none 0 0, .int .i64 e2]) (by simp [results, Try.results25, go_sem]) rfl ?_
      obtain ⟨rfl, rfl⟩ := hrr.out
      exact ⟨_, rfl, Kd.R_nil _ _ _ _ _, hP9.hB, hP9.hK⟩
    ·obtain rfl : y2 = y := by rw [if_neg hi] at hy2; simpa using hy2.symm
     have hi2 : ¬ (0 : Int) < (i : Int) := by omega
     clear hy2 hpl2
     have hcall := fun W (hW : PtS w0 w P0 (CS 5 v.f1 A2 v.f2.length c2 (some ad) v.f3.length c3) mb W u0 y2 (.map []) 0) => ih j (by omega) w0 W (fun k => some k = u0.ownBlock) u0 y2 uu B2 d2 B3 d3 deep z2 e2 hW.hB D2.out m2 D3.out m3 hW.tight hd0 hd1 hw
     have pa := hPL.cel0
     clear hw
     rcases hend with ⟨he, hpl3⟩ | ⟨he, hr, hee⟩
     ·have hpl3' := Lib.hid hpl3
      clear hpl3
      subst he
      go_wp2_with (go_at_call 16; go_loud (refine (hcall _ hPL).mono ?_; rintro e9 w9 ⟨v9, rfl, hR9, hB9, hK9⟩; have hP9 := hPL.kept hB9 hK9 hR9))
      go_roundg j
      case measure => omega
      case rel => exact ⟨i + 1, z2, by go_num, by omega, by omega, hpl3', hP9⟩
     ·have hrr := Lib.hid (And.intro hr hee)
      clear hr hee
      have he2 : (e2 != 0) = true := by simpa using he
      clear he
      go_wp2_with (go_at_call 16; go_loud (refine (hcall _ hPL).mono ?_; rintro e9 w9 ⟨v9, rfl, hR9, hB9, hK9⟩; have hP9 := hPL.kept hB9 hK9 hR9))
      refine bodyPost_ret (v := .tuple #[.slice none 0 0, .int .i64 e2]) (by simp [results, Try.results25, go_sem]) rfl ?_
      obtain ⟨rfl, rfl⟩ := hrr.out
      exact ⟨_, rfl, Kd.R_nil _ _ _ _ _, hP9.hB, hP9.hK⟩
end Go.Proofs.Yteighppcdpaekaa.Wr
end
section
namespace Go.Proofs.Yteighppcdpaekaa.Wr
open Go.RowKit Go.Proofs.YteighppcdpaekaaW.PrintWords
open Go.Proofs.Yteighppcdpaekaa Go.Proofs.Yteighppcdpaekaa.P Go.Proofs.Yteighppcdpaekaa.Rd
open Go.Maps (Keyed IsMap)
theorem pl_object {j : Nat} {y : List Int} {v : S25} {deep : Int} {i : Nat} {seen : List ByteArray} {r : List Int} {e : Int} {uu : S25} (h0 : v.f0 = 6) (hu : v.f3[i]? = some uu) (h : pl (j + 1) y v deep i seen = some (r, e)) :
  ∃ y2 key, (if 0 < i then room y [44] else some y) = some y2 ∧ v.f2[i]? = some key ∧ ((json_plain.f j key = some false ∧ r = [] ∧ e = 10) ∨ (json_plain.f j key = some true ∧ (seen.any fun y => decide (y = key)) = true ∧ r = [] ∧ e = 23) ∨
   (json_plain.f j key = some true ∧ ¬ (seen.any fun y => decide (y = key)) = true ∧ ∃ z z2 z3 e2, json_quoted.f j y2 key = some z ∧ room z [58] = some z2 ∧ wr j z2 uu deep = some (z3, e2) ∧ ((e2 = 0 ∧ pl j z3 v deep (i + 1) (seen ++ [key]) = some (r, e)) ∨ (e2 ≠ 0 ∧ r = [] ∧ e = e2)))) := by
 rw [pl, hu] at h
 simp only at h
 cases hy : (if 0 < i then room y [44] else some y) with
 | none => rw [hy] at h; cases h
 | some y2 =>
  rw [hy] at h
  simp only at h
  cases hk : v.f2[i]? with
  | none =>
   have hd : head j y2 v i seen = none := by unfold head; rw [if_pos h0, hk]
   rw [hd] at h
   cases h
  | some key =>
   refine ⟨y2, key, rfl, rfl, ?_⟩
   unfold head at h
   rw [if_pos h0, hk] at h
   simp only at h
   cases hp : json_plain.f j key with
   | none => rw [hp] at h; cases h
   | some t =>
    rw [hp] at h
    cases t with
    | false => simp at h; exact .inl ⟨rfl, h.1, h.2.symm⟩
    | true =>
     simp only at h
     by_cases hs : (seen.any fun y => decide (y = key)) = true
     ·rw [if_pos hs] at h
      simp at h
      exact .inr (.inl ⟨rfl, hs, h.1, h.2.symm⟩)
     ·rw [if_neg hs] at h
      refine .inr (.inr ⟨rfl, hs, ?_⟩)
      cases hq : json_quoted.f j y2 key with
      | none => rw [hq] at h; cases h
      | some z =>
       rw [hq] at h
       simp only at h
       cases hr : room z [58] with
       | none => rw [hr] at h; cases h
       | some z2 =>
        rw [hr] at h
        simp only [if_true] at h
        cases hw : wr j z2 uu deep with
        | none => rw [hw] at h; cases h
        | some t2 =>
         obtain ⟨z3, e2⟩ := t2
         rw [hw] at h
         simp only at h
         by_cases he : e2 = 0
         ·rw [if_pos he] at h; exact ⟨z, z2, z3, e2, rfl, hr, hw, .inl ⟨he, h⟩⟩
         ·rw [if_neg he] at h; simp at h; exact ⟨z, z2, z3, e2, rfl, hr, hw, .inr ⟨he, h.1, h.2.symm⟩⟩
set_option maxRecDepth 100000 in
set_option maxHeartbeats 6400000 in
theorem parts_object {k : Nat} (ih : ∀ i, i < k → OKs 16 (wr i)) {w0 w : World} {P0 : Nat → Prop} {u : Value} {x : List Int} {v : S25} {A2 : Option Addr} {c2 : Nat} {A3 : Option Addr} {c3 : Nat} {deep : Int} {r y : List Int} {e : Int} (hB : Below w0.heap.size w0 w) (h2 : Kd.string.C w0 A2 v.f2.length v.f2) (l2 : v.f2.length ≤ c2) (h3 : k25.C w0 A3 v.f3.length v.f3) (l3 : v.f3.length ≤ c3)
  (hR : (Kd.int .u8).R 5 w w0.heap.size P0 u x) (hd0 : 0 ≤ deep) (hd1 : deep ≤ 1000) (h0 : v.f0 = 6) (hn : v.f2.length = v.f3.length) (hn3 : v.f3.length ≤ 100000000000) (hy : room x [123] = some y) (h : pl k y v deep 0 [] = some (r, e)) :
  Calls Try.prog 25 #[u, .agg #[.int .i64 v.f0, .string v.f1, .slice A2 v.f2.length c2, .slice A3 v.f3.length c3], .int .i64 deep] w (WPost w0 w P0 r e) := by
 obtain ⟨hl, rfl⟩ := room_some hy
 have hmm := @run_makeMap Try.prog
 have hsz := hB.size
 have hB1 : Below w0.heap.size w0 (w.alloc (.cells #[.int .i64 6, .string v.f1, .slice A2 v.f3.length c2, .slice A3 v.f3.length c3] 25 (0, 0))) := below_alloc hB _
 have hR1 : (Kd.int .u8).R 5 (w.alloc (.cells #[.int .i64 6, .string v.f1, .slice A2 v.f3.length c2, .slice A3 v.f3.length c3] 25 (0, 0))) w0.heap.size (fun k => P0 k ∨ w.heap.size ≤ k) u x := Kd.R_mono (Kd.R_alloc hR _) (fun k hk => .inl hk)
 have hm4 : ∀ v1 w4, (Kd.int .u8).R 5 w4 w0.heap.size (fun k => P0 k ∨ w.heap.size ≤ k) v1 (x ++ [123]) → Below w0.heap.size w0 w4 → (w.alloc (.cells #[.int .i64 6, .string v.f1, .slice A2 v.f3.length c2, .slice A3 v.f3.length c3] 25 (0, 0))).grownBy w4 u.ownBlock → PtS w0 w P0 (CS 6 v.f1 A2 v.f3.length c2 A3 v.f3.length c3) w4.heap.size (w4.alloc (.map #[] 0)) v1 (x ++ [123]) (.map []) 0 := fun v1 w4 ho hb hg => PtS.first hR ho hb hg
 have hm4' := Lib.hid hm4
 clear hm4
 rw [hn] at h2 l2 ⊢
 rw [h0]
 have hh := Lib.hid h
 clear h hy
 have hH2 := Lib.hid h2
 clear h2
 have hH3 := Lib.hid h3
 clear h3
 have hf0 := Lib.hid h0
 clear h0
 have hn' := Lib.hid hn
 clear hn
 go_enter Try.func25, Try.ntmps25
 go_wp2_with ((with_reducible refine gate_builtin (b := .append) (xs := #[.tmp 26, .tmp 28]) rfl ?_); at_builtin; go_loud (refine Kd.R_append (Kd.int .u8) (w0 := w0) w0.heap.size rfl (.tmp 26) (.tmp 28) 28 5 (.int .u8 0) 1 rfl Try.underlying28 info_5 rfl (by decide) (by omega) u x 123 [.int .u8 123] (fun k => P0 k ∨ w.heap.size ≤ k) (fun _ => False) rfl (by first | rfl | (simp; rfl)) rfl (fun _ hk => hk.elim) (fun k hk => .inr (by simp at hk; omega)) hR1 hB1 (by simp; omega) (by simp at hl; omega) ?_; intro v1 w4 ho hb hg hat; have hP0 := hm4'.out v1 w4 ho hb hg; have q3 := hP0.cel3))
 clear hR1 hB1 hm4' hB l2 hl ho hb hg hat q3 hmm
 generalize hmbe : w4.heap.size = mb at hP0 ⊢
 have hwm : w.heap.size < mb := by subst hmbe; have := blk_lt hP0.vb; have h4 := hP0.mp.lt; simp at this; have hne := map_ne hP0.mp hP0.vb; omega
 go_loopg [0, 34] k (fun kq uv iv wc => ∃ (i : Nat) (y : List Int) (D : DataW Unit) (m : Nat) (seen : List ByteArray), iv = .int .i64 (i : Int) ∧ i ≤ v.f3.length ∧ kq ≤ k ∧ Hid (pl kq y v deep i seen = some (r, e)) ∧ SeesB D seen ∧ m ≤ i ∧ PtS w0 w P0 (CS 6 v.f1 A2 v.f3.length c2 A3 v.f3.length c3) mb wc uv y D m)
 case atStart => exact ⟨0, _, _, 0, [], rfl, by omega, Nat.le_refl _, hh, SeesB.nil, Nat.le_refl _, by subst hmbe; exact hP0⟩
 case round =>
  clear hh hP0
  obtain ⟨i, y, D, m, seen, rfl, hin, hkk, hpl, hsee, hmi, hP⟩ := hrel
  cases gk with
  | zero => exact absurd hpl.out (by simp [pl])
  | succ j =>
   have p0 := hP.cel0
   cases hu : v.f3[i]? with
   | none =>
    have hie : i = v.f3.length := by have := List.getElem?_eq_none_iff.1 hu; omega
    have hge : ¬ i < v.f3.length := by omega
    have ⟨hr1, hr2⟩ : e = 0 ∧ room y [125] = some r := by
     have := hpl.out
     rw [pl, hu] at this
     simp only [hf0.out] at this
     rw [if_pos (by trivial)] at this
     cases hrm : room y [125] with
     | none => rw [hrm] at this; cases this
     | some y2 => rw [hrm] at this; simp at this; exact ⟨this.2.symm, by rw [this.1]⟩
    obtain ⟨hl2, hr3⟩ := room_some hr2
    have HE := Lib.hid (And.intro hr1 hr3)
    clear hpl hu hr1 hr2 hr3 hie
    go_wp2_with ((with_reducible refine gate_builtin (b := .append) (xs := #[.tmp 80, .tmp 82]) rfl ?_); at_builtin; go_loud (refine Kd.R_append (Kd.int .u8) (w0 := w0) w0.heap.size rfl (.tmp 80) (.tmp 82) 28 5 (.int .u8 0) 1 rfl Try.underlying28 info_5 rfl (by decide) (by omega) u0 y 125 [.int .u8 125] (fun k => P0 k ∨ w.heap.size ≤ k) (fun _ => False) rfl (by first | rfl | (simp; rfl)) rfl (fun _ hk => hk.elim) (fun k hk => .inr (by have := hP.hK.1; omega)) hP.row hP.hB (by have := hP.hB.size; omega) (by simp at hl2; omega) ?_; intro v2 w5 ho hb hg hat))
    refine bodyPost_ret (v := .tuple #[v2, .int .i64 0]) (by simp [results, Try.results25, go_sem]) rfl ?_
    obtain ⟨rfl, rfl⟩ := HE.out
    have hP5 := hP.grown hb hg ho
    exact ⟨v2, rfl, hP5.row, hP5.hB, hP5.hK⟩
   | some uu =>
    have hlt : i < v.f3.length := (List.getElem?_eq_some_iff.1 hu).1
    obtain ⟨ad, B2, d2, B3, d3, ea, x0, x1, x2, x3, m2, C2, m3, C3⟩ := at_T25 hH3.out (i : Int) (by omega) (by omega)
    have hru : rd_T25 v.f3 (i : Int) = uu := by unfold rd_T25; rw [Int.toNat_natCast, List.getD_eq_getElem?_getD, hu]; rfl
    rw [hru] at x0 x1 x2 x3 m2 C2 m3 C3
    rw [Int.toNat_natCast] at x0 x1 x2 x3
    obtain ⟨y2, key, hy2, hkey2, hend⟩ := pl_object hf0.out hu hpl.out
    obtain ⟨ak, eb, xk⟩ := Kd.at_string hH2.out (i : Int) (by omega) (by omega)
    have hrk : rdOf ByteArray.empty v.f2 (i : Int) = key := by unfold rdOf; rw [Int.toNat_natCast, List.getD_eq_getElem?_getD, hkey2]; rfl
    rw [hrk, Int.toNat_natCast] at xk
    have hklt := World.block_lt_of_cell? w0 _ xk
    clear hrk hkey2
    cases ea
    cases eb
    have E2 := Lib.hid C2
    have E3 := Lib.hid C3
    clear C2 C3
    replace x0 := (hP.hB.cell (World.block_lt_of_cell? w0 _ x0)).trans x0
    replace x1 := (hP.hB.cell (World.block_lt_of_cell? w0 _ x1)).trans x1
    replace x2 := (hP.hB.cell (World.block_lt_of_cell? w0 _ x2)).trans x2
    replace x3 := (hP.hB.cell (World.block_lt_of_cell? w0 _ x3)).trans x3
    clear hru hu hpl
    have z0 : (0 : Int) ≤ (i : Int) := by omega
    have z1 : (i : Int) < (v.f3.length : Int) := by omega
    have hL0 : (wr.alloc (.cells #[.int .i64 uu.f0, .string uu.f1, .slice B2 uu.f2.length d2, .slice B3 uu.f3.length d3] 25 (0, 0))).heap[wr.heap.size]? = some (.cells #[.int .i64 uu.f0, .string uu.f1, .slice B2 uu.f2.length d2, .slice B3 uu.f3.length d3] 25 (0, 0)) := blk_new _ _
    have hPL := hP.alloc (.cells #[.int .i64 uu.f0, .string uu.f1, .slice B2 uu.f2.length d2, .slice B3 uu.f3.length d3] 25 (0, 0))
    have hxl : wr.heap.size < (wr.alloc (.cells #[.int .i64 uu.f0, .string uu.f1, .slice B2 uu.f2.length d2, .slice B3 uu.f3.length d3] 25 (0, 0))).heap.size := blk_lt hL0
    have hmbl := hP.mp.lt
    have hks : key.size ≤ 100000000000 := by
     have hp1 : ∃ t, json_plain.f j key = some t := by rcases hend with h | h | h <;> exact ⟨_, h.1⟩
     obtain ⟨t, ht⟩ := hp1
     unfold json_plain.f at ht
     split at ht
     ·assumption
     ·cases ht
    have hkey : keyOf Try.prog 9 (.string key) = some (.string key.data.toList) := WideMaps.keyOf_string_mk Try.underlying9 (by unfold maxLen; omega)
    have hat0 := hsee.2 key
    have pa := hPL.cel0
    have pa2 := hPL.cel2
    have pk0 := (hPL.hB.cell hklt).trans xk
    by_cases hi : 0 < i
    ·rw [if_pos hi] at hy2
     obtain ⟨hl2, hy3⟩ := room_some hy2
     have hi2 : (0 : Int) < (i : Int) := by omega
     clear hy2
     have hy3' := Lib.hid hy3
     clear hy3
     have hne : some wr.heap.size ≠ u0.ownBlock := fun e => by have := Kd.R_lt hP.row _ e.symm; omega
     have hap : ∀ v2 w5, (Kd.int .u8).R 5 w5 w0.heap.size (fun k => P0 k ∨ w.heap.size ≤ k) v2 (y ++ [44]) → Below w0.heap.size w0 w5 → (wr.alloc (.cells #[.int .i64 uu.f0, .string uu.f1, .slice B2 uu.f2.length d2, .slice B3 uu.f3.length d3] 25 (0, 0))).grownBy w5 u0.ownBlock → PtS w0 w P0 (CS 6 v.f1 (some ak) v.f3.length c2 (some ad) v.f3.length c3) mb w5 v2 y2 D m ∧ w5.heap[wr.heap.size]? = some (.cells #[.int .i64 uu.f0, .string uu.f1, .slice B2 uu.f2.length d2, .slice B3 uu.f3.length d3] 25 (0, 0)) :=
      fun v2 w5 ho hb hg => ⟨hPL.grown hb hg (by rw [hy3'.out]; exact ho), blk_grown hL0 hg hne⟩
     have hap' := Lib.hid hap
     clear hap
     rcases hend with ⟨hpn, hrr⟩ | ⟨hpn, hsn, hrr⟩ | ⟨hpn, hsn, z, z2, z3, e2, hq, hz2, hw, hend⟩
     ·have hrr := Lib.hid hrr
      go_wp2_with (first
       | ((with_reducible refine gate_builtin (b := .append) (xs := #[.tmp 41, .tmp 42]) rfl ?_); at_builtin; go_loud (refine Kd.R_append (Kd.int .u8) (w0 := w0) w0.heap.size rfl (.tmp 41) (.tmp 42) 28 5 (.int .u8 0) 1 rfl Try.underlying28 info_5 rfl (by decide) (by omega) u0 y 44 [.int .u8 44] (fun k => P0 k ∨ w.heap.size ≤ k) (fun _ => False) rfl (by first | rfl | (simp; rfl)) rfl (fun _ hk => hk.elim) (fun k hk => .inr (by have := hPL.hK.1; omega)) hPL.row hPL.hB (by have := hPL.hB.size; omega) (by simp at hl2; omega) ?_; intro v2 w5 ho hb hg hat; obtain ⟨hP5, hL5⟩ := hap'.out v2 w5 ho hb hg; have pb := hP5.cel0; have pc := hP5.cel2; have pk := (hP5.hB.cell hklt).trans xk; obtain ⟨b0, b1, b2, b3⟩ := blk4 hL5; clear ho hb hg hat))
       | (go_at_call 23; go_loud (refine (json_plain.calls j key false _ hpn).mono ?_; rintro e6 w6 ⟨rfl, hB6⟩; have hP6 := hP5.below hB6; have hL6 := blk_below hL5 hB6)))
      refine bodyPost_ret (v := .tuple #[.slice none 0 0, .int .i64 10]) (by simp [results, Try.results25, go_sem]) rfl ?_
      obtain ⟨rfl, rfl⟩ := hrr.out
      exact ⟨_, rfl, Kd.R_nil _ _ _ _ _, hP6.hB, hP6.hK⟩
     ·have hrr := Lib.hid hrr
      rw [if_pos hsn] at hat0
      clear hsn
      go_wp2_with (first
       | ((with_reducible refine gate_builtin (b := .append) (xs := #[.tmp 41, .tmp 42]) rfl ?_); at_builtin; go_loud (refine Kd.R_append (Kd.int .u8) (w0 := w0) w0.heap.size rfl (.tmp 41) (.tmp 42) 28 5 (.int .u8 0) 1 rfl Try.underlying28 info_5 rfl (by decide) (by omega) u0 y 44 [.int .u8 44] (fun k => P0 k ∨ w.heap.size ≤ k) (fun _ => False) rfl (by first | rfl | (simp; rfl)) rfl (fun _ hk => hk.elim) (fun k hk => .inr (by have := hPL.hK.1; omega)) hPL.row hPL.hB (by have := hPL.hB.size; omega) (by simp at hl2; omega) ?_; intro v2 w5 ho hb hg hat; obtain ⟨hP5, hL5⟩ := hap'.out v2 w5 ho hb hg; have pb := hP5.cel0; have pc := hP5.cel2; have pk := (hP5.hB.cell hklt).trans xk; obtain ⟨b0, b1, b2, b3⟩ := blk4 hL5; clear ho hb hg hat))
       | (go_at_call 23; go_loud (refine (json_plain.calls j key true _ hpn).mono ?_; rintro e6 w6 ⟨rfl, hB6⟩; have hP6 := hP5.below hB6; have hL6 := blk_below hL5 hB6))
       | (at_lookup; go_loud (refine wpList_lookup_own_int _ rfl _ _ 65 rfl 9 3 .i64 law9 Try.underlying65 Try.underlying3 (zero3 _) mb m D rfl hP6.mp _ _ rfl hkey ?_; intro cv hat hwc; obtain rfl := lit_inj (hat0.symm.trans hat))))
      refine bodyPost_ret (v := .tuple #[.slice none 0 0, .int .i64 23]) (by simp [results, Try.results25, go_sem]) rfl ?_
      obtain ⟨rfl, rfl⟩ := hrr.out
      exact ⟨_, rfl, Kd.R_nil _ _ _ _ _, hP6.hB, hP6.hK⟩
     ·rw [if_neg hsn] at hat0
      have hsee2 := hsee.put (x := key)
      obtain ⟨hl3, rfl⟩ := room_some hz2
      have hcall := fun W v2 (D2 : DataW Unit) (m2' : Nat) (hW : PtS w0 w P0 (CS 6 v.f1 (some ak) v.f3.length c2 (some ad) v.f3.length c3) mb W v2 (z ++ [58]) D2 m2') => ih j (by omega) w0 W (fun k => some k = v2.ownBlock) v2 (z ++ [58]) uu B2 d2 B3 d3 deep z3 e2 hW.hB E2.out m2 E3.out m3 hW.tight hd0 hd1 hw
      have hcall := fun W v2 (hW : PtS w0 w P0 (CS 6 v.f1 (some ak) v.f3.length c2 (some ad) v.f3.length c3) mb W v2 (z ++ [58]) (D.put (.string key.data.toList) (.lit (.int .i64 1))) (m + 1)) => hcall W v2 _ _ hW
      clear hsn hz2 hw
      rcases hend with ⟨he, hpl3⟩ | ⟨he, hr, hee⟩
      ·have hpl3' := Lib.hid hpl3
       clear hpl3
       subst he
       go_wp2_with (first
        | ((with_reducible refine gate_builtin (b := .append) (xs := #[.tmp 41, .tmp 42]) rfl ?_); at_builtin; go_loud (refine Kd.R_append (Kd.int .u8) (w0 := w0) w0.heap.size rfl (.tmp 41) (.tmp 42) 28 5 (.int .u8 0) 1 rfl Try.underlying28 info_5 rfl (by decide) (by omega) u0 y 44 [.int .u8 44] (fun k => P0 k ∨ w.heap.size ≤ k) (fun _ => False) rfl (by first | rfl | (simp; rfl)) rfl (fun _ hk => hk.elim) (fun k hk => .inr (by have := hPL.hK.1; omega)) hPL.row hPL.hB (by have := hPL.hB.size; omega) (by simp at hl2; omega) ?_; intro v2 w5 ho hb hg hat; obtain ⟨hP5, hL5⟩ := hap'.out v2 w5 ho hb hg; have pb := hP5.cel0; have pc := hP5.cel2; have pk := (hP5.hB.cell hklt).trans xk; obtain ⟨b0, b1, b2, b3⟩ := blk4 hL5; clear ho hb hg hat))
        | (go_at_call 23; go_loud (refine (json_plain.calls j key true _ hpn).mono ?_; rintro e6 w6 ⟨rfl, hB6⟩; have hP6 := hP5.below hB6; have hL6 := blk_below hL5 hB6))
        | (at_lookup; go_loud (refine wpList_lookup_own_int _ rfl _ _ 65 rfl 9 3 .i64 law9 Try.underlying65 Try.underlying3 (zero3 _) mb m D rfl hP6.mp _ _ rfl hkey ?_; intro cv hat hwc; obtain rfl := lit_inj (hat0.symm.trans hat)))
        | (at_mapUpdate; go_loud (refine wpList_mapUpdate_own _ rfl _ _ _ 65 rfl 9 3 law9 Try.underlying65 _ mb m D rfl hP6.mp (by unfold maxLen; omega) _ _ _ rfl rfl hkey _ [] (plainElem_int Try.underlying3 (by decide)) ?_; intro w7 hm7 hg7; have hP7 := hP6.put hwm hsz hm7 hg7; have hL7 := blk_grown hL6 hg7 (fun e => by have := Option.some.inj e; omega)))
        | (go_at_call 24; go_loud (refine (json_quoted.calls j (fun k => some k = _) _ y2 key z w0 _ hP7.hB hP7.tight hq).mono ?_; rintro e8 w8 ⟨v8, rfl, hR8, hB8, hK8⟩; have hP8 := hP7.kept hB8 hK8 hR8; have hL8 := (hK8.2 _ (blk_lt hL7) (Kd.R_ne hP7.row hL7 (by decide))).trans hL7))
        | ((with_reducible refine gate_builtin (b := .append) (xs := #[.tmp 65, .tmp 66]) rfl ?_); at_builtin; go_loud (refine Kd.R_append (Kd.int .u8) (w0 := w0) w0.heap.size rfl (.tmp 65) (.tmp 66) 28 5 (.int .u8 0) 1 rfl Try.underlying28 info_5 rfl (by decide) (by omega) v8 z 58 [.int .u8 58] (fun k => P0 k ∨ w.heap.size ≤ k) (fun _ => False) rfl (by first | rfl | (simp; rfl)) rfl (fun _ hk => hk.elim) (fun k hk => .inr (by have := hP8.hK.1; omega)) hP8.row hP8.hB (by have := hP8.hB.size; omega) (by simp at hl3; omega) ?_; intro v9 w9 ho9 hb9 hg9 hat9; have hP9 := hP8.grown hb9 hg9 ho9; have hL9 := blk_grown hL8 hg9 (Kd.R_ne hP8.row hL8 (by decide)); obtain ⟨d0, d1, dd2, dd3⟩ := blk4 hL9; clear ho9 hb9 hg9 hat9))
        | (go_at_call 16; go_loud (refine (hcall _ _ hP9).mono ?_; rintro ea wa ⟨va, rfl, hRa, hBa, hKa⟩; have hPa := hP9.kept hBa hKa hRa)))
       go_roundg j
       case measure => omega
       case rel => exact ⟨i + 1, z3, _, m + 1, _, by go_num, by omega, by omega, hpl3', hsee2, by omega, hPa⟩
      ·have hrr := Lib.hid (And.intro hr hee)
       clear hr hee
       have he2 : (e2 != 0) = true := by simpa using he
       clear he
       go_wp2_with (first
        | ((with_reducible refine gate_builtin (b := .append) (xs := #[.tmp 41, .tmp 42]) rfl ?_); at_builtin; go_loud (refine Kd.R_append (Kd.int .u8) (w0 := w0) w0.heap.size rfl (.tmp 41) (.tmp 42) 28 5 (.int .u8 0) 1 rfl Try.underlying28 info_5 rfl (by decide) (by omega) u0 y 44 [.int .u8 44] (fun k => P0 k ∨ w.heap.size ≤ k) (fun _ => False) rfl (by first | rfl | (simp; rfl)) rfl (fun _ hk => hk.elim) (fun k hk => .inr (by have := hPL.hK.1; omega)) hPL.row hPL.hB (by have := hPL.hB.size; omega) (by simp at hl2; omega) ?_; intro v2 w5 ho hb hg hat; obtain ⟨hP5, hL5⟩ := hap'.out v2 w5 ho hb hg; have pb := hP5.cel0; have pc := hP5.cel2; have pk := (hP5.hB.cell hklt).trans xk; obtain ⟨b0, b1, b2, b3⟩ := blk4 hL5; clear ho hb hg hat))
        | (go_at_call 23; go_loud (refine (json_plain.calls j key true _ hpn).mono ?_; rintro e6 w6 ⟨rfl, hB6⟩; have hP6 := hP5.below hB6; have hL6 := blk_below hL5 hB6))
        | (at_lookup; go_loud (refine wpList_lookup_own_int _ rfl _ _ 65 rfl 9 3 .i64 law9 Try.underlying65 Try.underlying3 (zero3 _) mb m D rfl hP6.mp _ _ rfl hkey ?_; intro cv hat hwc; obtain rfl := lit_inj (hat0.symm.trans hat)))
        | (at_mapUpdate; go_loud (refine wpList_mapUpdate_own _ rfl _ _ _ 65 rfl 9 3 law9 Try.underlying65 _ mb m D rfl hP6.mp (by unfold maxLen; omega) _ _ _ rfl rfl hkey _ [] (plainElem_int Try.underlying3 (by decide)) ?_; intro w7 hm7 hg7; have hP7 := hP6.put hwm hsz hm7 hg7; have hL7 := blk_grown hL6 hg7 (fun e => by have := Option.some.inj e; omega)))
        | (go_at_call 24; go_loud (refine (json_quoted.calls j (fun k => some k = _) _ y2 key z w0 _ hP7.hB hP7.tight hq).mono ?_; rintro e8 w8 ⟨v8, rfl, hR8, hB8, hK8⟩; have hP8 := hP7.kept hB8 hK8 hR8; have hL8 := (hK8.2 _ (blk_lt hL7) (Kd.R_ne hP7.row hL7 (by decide))).trans hL7))
        | ((with_reducible refine gate_builtin (b := .append) (xs := #[.tmp 65, .tmp 66]) rfl ?_); at_builtin; go_loud (refine Kd.R_append (Kd.int .u8) (w0 := w0) w0.heap.size rfl (.tmp 65) (.tmp 66) 28 5 (.int .u8 0) 1 rfl Try.underlying28 info_5 rfl (by decide) (by omega) v8 z 58 [.int .u8 58] (fun k => P0 k ∨ w.heap.size ≤ k) (fun _ => False) rfl (by first | rfl | (simp; rfl)) rfl (fun _ hk => hk.elim) (fun k hk => .inr (by have := hP8.hK.1; omega)) hP8.row hP8.hB (by have := hP8.hB.size; omega) (by simp at hl3; omega) ?_; intro v9 w9 ho9 hb9 hg9 hat9; have hP9 := hP8.grown hb9 hg9 ho9; have hL9 := blk_grown hL8 hg9 (Kd.R_ne hP8.row hL8 (by decide)); obtain ⟨d0, d1, dd2, dd3⟩ := blk4 hL9; clear ho9 hb9 hg9 hat9))
        | (go_at_call 16; go_loud (refine (hcall _ _ hP9).mono ?_; rintro ea wa ⟨va, rfl, hRa, hBa, hKa⟩; have hPa := hP9.kept hBa hKa hRa)))
       refine bodyPost_ret (v := .tuple #[.slice none 0 0, .int .i64 e2]) (by simp [results, Try.results25, go_sem]) rfl ?_
       obtain ⟨rfl, rfl⟩ := hrr.out
       exact ⟨_, rfl, Kd.R_nil _ _ _ _ _, hPa.hB, hPa.hK⟩
    ·obtain rfl : y2 = y := by rw [if_neg hi] at hy2; simpa using hy2.symm
     have hi2 : ¬ (0 : Int) < (i : Int) := by omega
     clear hy2
     have hP5 := hPL
     have hL5 := hL0
     rcases hend with ⟨hpn, hrr⟩ | ⟨hpn, hsn, hrr⟩ | ⟨hpn, hsn, z, z2, z3, e2, hq, hz2, hw, hend⟩
     ·have hrr := Lib.hid hrr
      go_wp2_with (first
       | (go_at_call 23; go_loud (refine (json_plain.calls j key false _ hpn).mono ?_; rintro e6 w6 ⟨rfl, hB6⟩; have hP6 := hP5.below hB6; have hL6 := blk_below hL5 hB6)))
      refine bodyPost_ret (v := .tuple #[.slice none 0 0, .int .i64 10]) (by simp [results, Try.results25, go_sem]) rfl ?_
      obtain ⟨rfl, rfl⟩ := hrr.out
      exact ⟨_, rfl, Kd.R_nil _ _ _ _ _, hP6.hB, hP6.hK⟩
     ·have hrr := Lib.hid hrr
      rw [if_pos hsn] at hat0
      clear hsn
      go_wp2_with (first
       | (go_at_call 23; go_loud (refine (json_plain.calls j key true _ hpn).mono ?_; rintro e6 w6 ⟨rfl, hB6⟩; have hP6 := hP5.below hB6; have hL6 := blk_below hL5 hB6))
       | (at_lookup; go_loud (refine wpList_lookup_own_int _ rfl _ _ 65 rfl 9 3 .i64 law9 Try.underlying65 Try.underlying3 (zero3 _) mb m D rfl hP6.mp _ _ rfl hkey ?_; intro cv hat hwc; obtain rfl := lit_inj (hat0.symm.trans hat))))
      refine bodyPost_ret (v := .tuple #[.slice none 0 0, .int .i64 23]) (by simp [results, Try.results25, go_sem]) rfl ?_
      obtain ⟨rfl, rfl⟩ := hrr.out
      exact ⟨_, rfl, Kd.R_nil _ _ _ _ _, hP6.hB, hP6.hK⟩
     ·rw [if_neg hsn] at hat0
      have hsee2 := hsee.put (x := key)
      obtain ⟨hl3, rfl⟩ := room_some hz2
      have hcall := fun W v2 (D2 : DataW Unit) (m2' : Nat) (hW : PtS w0 w P0 (CS 6 v.f1 (some ak) v.f3.length c2 (some ad) v.f3.length c3) mb W v2 (z ++ [58]) D2 m2') => ih j (by omega) w0 W (fun k => some k = v2.ownBlock) v2 (z ++ [58]) uu B2 d2 B3 d3 deep z3 e2 hW.hB E2.out m2 E3.out m3 hW.tight hd0 hd1 hw
      have hcall := fun W v2 (hW : PtS w0 w P0 (CS 6 v.f1 (some ak) v.f3.length c2 (some ad) v.f3.length c3) mb W v2 (z ++ [58]) (D.put (.string key.data.toList) (.lit (.int .i64 1))) (m + 1)) => hcall W v2 _ _ hW
      clear hsn hz2 hw
      rcases hend with ⟨he, hpl3⟩ | ⟨he, hr, hee⟩
      ·have hpl3' := Lib.hid hpl3
       clear hpl3
       subst he
       go_wp2_with (first
        | (go_at_call 23; go_loud (refine (json_plain.calls j key true _ hpn).mono ?_; rintro e6 w6 ⟨rfl, hB6⟩; have hP6 := hP5.below hB6; have hL6 := blk_below hL5 hB6))
        | (at_lookup; go_loud (refine wpList_lookup_own_int _ rfl _ _ 65 rfl 9 3 .i64 law9 Try.underlying65 Try.underlying3 (zero3 _) mb m D rfl hP6.mp _ _ rfl hkey ?_; intro cv hat hwc; obtain rfl := lit_inj (hat0.symm.trans hat)))
        | (at_mapUpdate; go_loud (refine wpList_mapUpdate_own _ rfl _ _ _ 65 rfl 9 3 law9 Try.underlying65 _ mb m D rfl hP6.mp (by unfold maxLen; omega) _ _ _ rfl rfl hkey _ [] (plainElem_int Try.underlying3 (by decide)) ?_; intro w7 hm7 hg7; have hP7 := hP6.put hwm hsz hm7 hg7; have hL7 := blk_grown hL6 hg7 (fun e => by have := Option.some.inj e; omega)))
        | (go_at_call 24; go_loud (refine (json_quoted.calls j (fun k => some k = _) _ y2 key z w0 _ hP7.hB hP7.tight hq).mono ?_; rintro e8 w8 ⟨v8, rfl, hR8, hB8, hK8⟩; have hP8 := hP7.kept hB8 hK8 hR8; have hL8 := (hK8.2 _ (blk_lt hL7) (Kd.R_ne hP7.row hL7 (by decide))).trans hL7))
        | ((with_reducible refine gate_builtin (b := .append) (xs := #[.tmp 65, .tmp 66]) rfl ?_); at_builtin; go_loud (refine Kd.R_append (Kd.int .u8) (w0 := w0) w0.heap.size rfl (.tmp 65) (.tmp 66) 28 5 (.int .u8 0) 1 rfl Try.underlying28 info_5 rfl (by decide) (by omega) v8 z 58 [.int .u8 58] (fun k => P0 k ∨ w.heap.size ≤ k) (fun _ => False) rfl (by first | rfl | (simp; rfl)) rfl (fun _ hk => hk.elim) (fun k hk => .inr (by have := hP8.hK.1; omega)) hP8.row hP8.hB (by have := hP8.hB.size; omega) (by simp at hl3; omega) ?_; intro v9 w9 ho9 hb9 hg9 hat9; have hP9 := hP8.grown hb9 hg9 ho9; have hL9 := blk_grown hL8 hg9 (Kd.R_ne hP8.row hL8 (by decide)); obtain ⟨d0, d1, dd2, dd3⟩ := blk4 hL9; clear ho9 hb9 hg9 hat9))
        | (go_at_call 16; go_loud (refine (hcall _ _ hP9).mono ?_; rintro ea wa ⟨va, rfl, hRa, hBa, hKa⟩; have hPa := hP9.kept hBa hKa hRa)))
       go_roundg j
       case measure => omega
       case rel => exact ⟨i + 1, z3, _, m + 1, _, by go_num, by omega, by omega, hpl3', hsee2, by omega, hPa⟩
      ·have hrr := Lib.hid (And.intro hr hee)
       clear hr hee
       have he2 : (e2 != 0) = true := by simpa using he
       clear he
       go_wp2_with (first
        | (go_at_call 23; go_loud (refine (json_plain.calls j key true _ hpn).mono ?_; rintro e6 w6 ⟨rfl, hB6⟩; have hP6 := hP5.below hB6; have hL6 := blk_below hL5 hB6))
        | (at_lookup; go_loud (refine wpList_lookup_own_int _ rfl _ _ 65 rfl 9 3 .i64 law9 Try.underlying65 Try.underlying3 (zero3 _) mb m D rfl hP6.mp _ _ rfl hkey ?_; intro cv hat hwc; obtain rfl := lit_inj (hat0.symm.trans hat)))
        | (at_mapUpdate; go_loud (refine wpList_mapUpdate_own _ rfl _ _ _ 65 rfl 9 3 law9 Try.underlying65 _ mb m D rfl hP6.mp (by unfold maxLen; omega) _ _ _ rfl rfl hkey _ [] (plainElem_int Try.underlying3 (by decide)) ?_; intro w7 hm7 hg7; have hP7 := hP6.put hwm hsz hm7 hg7; have hL7 := blk_grown hL6 hg7 (fun e => by have := Option.some.inj e; omega)))
        | (go_at_call 24; go_loud (refine (json_quoted.calls j (fun k => some k = _) _ y2 key z w0 _ hP7.hB hP7.tight hq).mono ?_; rintro e8 w8 ⟨v8, rfl, hR8, hB8, hK8⟩; have hP8 := hP7.kept hB8 hK8 hR8; have hL8 := (hK8.2 _ (blk_lt hL7) (Kd.R_ne hP7.row hL7 (by decide))).trans hL7))
        | ((with_reducible refine gate_builtin (b := .append) (xs := #[.tmp 65, .tmp 66]) rfl ?_); at_builtin; go_loud (refine Kd.R_append (Kd.int .u8) (w0 := w0) w0.heap.size rfl (.tmp 65) (.tmp 66) 28 5 (.int .u8 0) 1 rfl Try.underlying28 info_5 rfl (by decide) (by omega) v8 z 58 [.int .u8 58] (fun k => P0 k ∨ w.heap.size ≤ k) (fun _ => False) rfl (by first | rfl | (simp; rfl)) rfl (fun _ hk => hk.elim) (fun k hk => .inr (by have := hP8.hK.1; omega)) hP8.row hP8.hB (by have := hP8.hB.size; omega) (by simp at hl3; omega) ?_; intro v9 w9 ho9 hb9 hg9 hat9; have hP9 := hP8.grown hb9 hg9 ho9; have hL9 := blk_grown hL8 hg9 (Kd.R_ne hP8.row hL8 (by decide)); obtain ⟨d0, d1, dd2, dd3⟩ := blk4 hL9; clear ho9 hb9 hg9 hat9))
        | (go_at_call 16; go_loud (refine (hcall _ _ hP9).mono ?_; rintro ea wa ⟨va, rfl, hRa, hBa, hKa⟩; have hPa := hP9.kept hBa hKa hRa)))
       refine bodyPost_ret (v := .tuple #[.slice none 0 0, .int .i64 e2]) (by simp [results, Try.results25, go_sem]) rfl ?_
       obtain ⟨rfl, rfl⟩ := hrr.out
       exact ⟨_, rfl, Kd.R_nil _ _ _ _ _, hPa.hB, hPa.hK⟩
end Go.Proofs.Yteighppcdpaekaa.Wr
end
section
namespace Go.Proofs.Yteighppcdpaekaa.Wr
open Go.RowKit Go.Proofs.YteighppcdpaekaaW.PrintWords
open Go.Proofs.Yteighppcdpaekaa Go.Proofs.Yteighppcdpaekaa.P Go.Proofs.Yteighppcdpaekaa.Rd
theorem parts_all {k : Nat} (ih : ∀ i, i < k → OKs 16 (wr i)) : OKs 25 (pt (k + 1)) := by
 intro w0 w P0 u x v A2 c2 A3 c3 deep r e hB h2 l2 h3 l3 hR hd0 hd1 h
 rw [pt] at h
 split at h
 ·rename_i hc
  simp at h
  obtain ⟨rfl, rfl⟩ := h
  exact parts_form hB hc.1 hc.2
 ·rename_i hc
  split at h
  ·cases h
  ·rename_i hn
   split at h
   ·cases h
   ·rename_i y hy
    have h0 : v.f0 = 5 ∨ v.f0 = 6 := Classical.byContradiction fun hne => hn (.inr hne)
    rcases h0 with h0 | h0
    ·rw [h0, if_neg (by decide)] at hy
     exact parts_array ih hB h2 l2 h3 l3 hR hd0 hd1 h0 (by omega) hy h
    ·rw [h0, if_pos rfl] at hy
     exact parts_object ih hB h2 l2 h3 l3 hR hd0 hd1 h0 (Classical.byContradiction fun hne => hc ⟨h0, hne⟩) (by omega) hy h
theorem all_written (k : Nat) : ∀ i, i ≤ k → OKs 16 (wr i) ∧ OKs 25 (pt i) := by
 induction k with
 | zero =>
  intro i hi
  obtain rfl : i = 0 := by omega
  exact ⟨fun w0 w P0 u x v A2 c2 A3 c3 deep r e hB h2 l2 h3 l3 hR hd0 hd1 h => by simp [wr] at h, fun w0 w P0 u x v A2 c2 A3 c3 deep r e hB h2 l2 h3 l3 hR hd0 hd1 h => by simp [pt] at h⟩
 | succ k ih =>
  intro i hi
  by_cases h : i ≤ k
  ·exact ih i h
  ·obtain rfl : i = k + 1 := by omega
   exact ⟨written_all (ih k (Nat.le_refl _)).2, parts_all fun j hj => (ih j (by omega)).1⟩
theorem written_calls (k : Nat) : OKs 16 (wr k) := (all_written k k (Nat.le_refl _)).1
set_option maxRecDepth 100000 in
set_option maxHeartbeats 1600000 in
theorem print_calls {k : Nat} {v : S25} {A2 : Option Addr} {c2 : Nat} {A3 : Option Addr} {c3 : Nat} {w : World} {r : List Int} {e : Int} (h2 : Kd.string.C w A2 v.f2.length v.f2) (l2 : v.f2.length ≤ c2) (h3 : k25.C w A3 v.f3.length v.f3) (l3 : v.f3.length ≤ c3) (h : wr k [] v 0 = some (r, e)) :
  Calls Try.prog 8 #[.agg #[.int .i64 v.f0, .string v.f1, .slice A2 v.f2.length c2, .slice A3 v.f3.length c3]] w fun en w' => ∃ v0 : Value, en = .returned (.tuple #[v0, .int .i64 e]) ∧ (Kd.int .u8).R 5 w' w.heap.size (fun _ => True) v0 r ∧ Below w.heap.size w w' := by
 have hc := written_calls k w (w.alloc (.cells #[.int .i64 v.f0, .string v.f1, .slice A2 v.f2.length c2, .slice A3 v.f3.length c3] 25 (0, 0))) (fun _ => False) (.slice none 0 0) [] v A2 c2 A3 c3 0 r e (below_alloc (Below.refl _ _) _) h2 l2 h3 l3 (Kd.R_nil _ _ _ _ _) (by omega) (by omega) h
 clear h h2 h3
 go_enter Try.func8, Try.ntmps8
 go_wp2_with (go_at_call 16; go_loud (refine hc.mono ?_; rintro e9 w9 ⟨v9, rfl, hR9, hB9, hK9⟩))
 refine bodyPost_ret (v := .tuple #[v9, .int .i64 e]) (by simp [results, Try.results8, go_sem]) rfl ?_
 exact ⟨v9, rfl, Kd.R_mono hR9 (fun _ _ => trivial), hB9⟩
end Go.Proofs.Yteighppcdpaekaa.Wr
end
section
namespace Go.Proofs.Yteighppcdpaekaa.P
open Go.RowKit Go.Proofs.YteighppcdpaekaaW.PrintWords Go.Proofs.YteighppcdpaekaaW.PrintLast Go.Proofs.YteighppcdpaekaaW.PrintMore
attribute [local go_sem] max2_int min2_int max_two min_two max_three min_three max_four min_four
set_option linter.unusedVariables false
set_option linter.unusedSimpArgs false
def json_Print.f (k : Nat) (a0_0 : Int) (a0_1 : ByteArray) (l0_2 : List ByteArray) (l0_3 : List S25) : Option ((List Int) × Int) := Wr.wr k [] ⟨a0_0, a0_1, l0_2, l0_3⟩ 0
theorem json_Print.calls (k : Nat) (a0_0 : Int) (a0_1 : ByteArray) (A0_2 : Option Addr) (c0_2 : Nat) (l0_2 : List ByteArray) (A0_3 : Option Addr) (c0_3 : Nat) (l0_3 : List S25) (r1 : List Int) (r2 : Int) (w : World) (hr0_2 : Kd.C Kd.string w A0_2 l0_2.length l0_2) (hc0_2 : l0_2.length ≤ c0_2) (hr0_3 : Kd.C k25 w A0_3 l0_3.length l0_3) (hc0_3 : l0_3.length ≤ c0_3) (h : json_Print.f k a0_0 a0_1 l0_2 l0_3 = some (r1, r2)) :
  Calls Try.prog 8 #[.agg #[.int .i64 a0_0, .string a0_1, .slice A0_2 l0_2.length c0_2, .slice A0_3 l0_3.length c0_3]] w fun e w' => ∃ v0_ : Value, e = .returned (.tuple #[v0_, .int .i64 r2]) ∧ Kd.R (Kd.int .u8) 5 w' w.heap.size (fun _ => True) v0_ r1 ∧ Below w.heap.size w w' :=
 Wr.print_calls (v := ⟨a0_0, a0_1, l0_2, l0_3⟩) hr0_2 hc0_2 hr0_3 hc0_3 h
end Go.Proofs.Yteighppcdpaekaa.P
end
section
namespace Go.Proofs.Yteighppcdpaekaa.Pr4
open Go.RowKit Go.Proofs.YteighppcdpaekaaW.PrintWords Go.Proofs.Yteighppcdpaekaa.P
open Go.Proofs.Yteighppcdpaekaa Go.Proofs.Yteighppcdpaekaa.Eq4
open Go.Proofs.Yteighppcdpaekaa.Js (Bytes escB hexd Term)
theorem bytes_of (s : ByteArray) : Bytes (bytesOf s) := by
 intro x hx
 obtain ⟨c, _, rfl⟩ := List.mem_map.1 hx
 have := c.toNat_lt
 omega
theorem str_bytes (s : ByteArray) : strOfNums (bytesOf s) = s := by
 have h : (strOfNums (bytesOf s)).data.toList = s.data.toList := by
  rw [strOfNums_data, bytesOf, List.map_map]
  conv => rhs; rw [← List.map_id s.data.toList]
  refine List.map_congr_left fun c _ => ?_
  simp
 exact ByteArray.ext (Array.toList_inj.1 h)
theorem bytes_str {l : List Int} (h : Bytes l) : bytesOf (strOfNums l) = l := by
 rw [bytesOf, strOfNums_data, List.map_map]
 conv => rhs; rw [← List.map_id l]
 refine List.map_congr_left fun c hc => ?_
 have := h c hc
 simp
 omega
theorem bt_bytes {s : ByteArray} {i : Nat} (h : i < s.size) : (bytesOf s)[i]? = some (bt s (i : Int)) := by
 have h1 : (bytesOf s)[i]? = some ((bytesOf s)[i]'(by rw [bytesOf_length]; exact h)) := List.getElem?_eq_getElem _
 rw [h1]
 unfold bt
 rw [Int.toNat_natCast, dif_pos h]
 simp [bytesOf]
 rfl
theorem tbl : ∀ n : Fin 16, bt (⟨#[48, 49, 50, 51, 52, 53, 54, 55, 56, 57, 97, 98, 99, 100, 101, 102]⟩ : ByteArray) (n.val : Int) = hexd (n.val : Int) := by decide +kernel
theorem tbl_at {n : Int} (h0 : 0 ≤ n) (h1 : n < 16) : bt (⟨#[48, 49, 50, 51, 52, 53, 54, 55, 56, 57, 97, 98, 99, 100, 101, 102]⟩ : ByteArray) n = hexd n := by
 have := tbl ⟨n.toNat, by omega⟩
 simpa [Int.toNat_of_nonneg h0] using this
theorem quoted_l0 (s : ByteArray) (hs : s.size ≤ 100000000000) : ∀ m i : Nat, ∀ x : List Int, s.size - i = m → i ≤ s.size → x.length + 6 * m + 8 < 140737488355328 → Ev (fun k => json_quoted.l0 k x s (s.size : Int) (i : Int)) (x ++ ((bytesOf s).drop i).flatMap escB ++ [34]) := by
 intro m
 induction m with
 | zero =>
  intro i x hm hi hx
  refine Ev.step (fun k => rfl) ?_
  simp only [json_quoted.l0]
  rw [List.drop_eq_nil_of_le (by rw [bytesOf_length]; omega)]
  simp only [List.flatMap_nil, List.append_nil]
  exact Evneg (by omega) (Evpos (by omega) (Ev.now _))
 | succ m im =>
  intro i x hm hi hx
  have hlt : i < s.size := by omega
  have hb := bt_bytes hlt
  obtain ⟨h0, h1⟩ := bytes_of s _ (List.mem_of_getElem? hb)
  have hd : (bytesOf s).drop i = bt s (i : Int) :: (bytesOf s).drop (i + 1) := Js.drop_some hb
  generalize bt s (i : Int) = c at hb h0 h1 hd
  have hw : wrap64 ((i : Int) + 1) = ((i + 1 : Nat) : Int) := by unfold wrap64; omega
  have go : ∀ l : List Int, escB c = l → l.length ≤ 6 → Ev (fun k => json_quoted.l0 k (x ++ l) s (s.size : Int) (wrap64 ((i : Int) + 1))) (x ++ ((bytesOf s).drop i).flatMap escB ++ [34]) := by
   intro l hl hll
   rw [hw, hd, List.flatMap_cons, hl]
   have := im (i + 1) (x ++ l) (by omega) (by omega) (by rw [List.length_append]; omega)
   simpa [List.append_assoc] using this
  have hj : ∀ b : Bool, (b = true ↔ c = 34 ∨ c = 92) → Ev (fun k => json_quoted.j1 k x s c (s.size : Int) (i : Int) c b) (x ++ ((bytesOf s).drop i).flatMap escB ++ [34]) := by
   intro b hbb
   refine Ev.step (fun k => rfl) ?_
   simp only [json_quoted.j1]
   by_cases e1 : c = 34 ∨ c = 92
   ·rw [hbb.2 e1]
    refine Evpos (by trivial) (Ev.bind (Ev.now _) (Evpos (by simp; omega) (go _ ?_ (by simp))))
    unfold escB; rw [if_pos e1]
   have hbf : b = false := by cases b with | false => rfl | true => exact absurd (hbb.1 rfl) e1
   rw [hbf]
   refine Evneg (by simp) ?_
   by_cases e2 : c = 8
   ·refine Evpos e2 (Ev.bind (Ev.now _) (Evpos (by simp; omega) (go _ ?_ (by simp))))
    unfold escB; rw [if_neg e1, if_pos e2]
   refine Evneg e2 ?_
   by_cases e3 : c = 9
   ·refine Evpos e3 (Ev.bind (Ev.now _) (Evpos (by simp; omega) (go _ ?_ (by simp))))
    unfold escB; rw [if_neg e1, if_neg e2, if_pos e3]
   refine Evneg e3 ?_
   by_cases e4 : c = 10
   ·refine Evpos e4 (Ev.bind (Ev.now _) (Evpos (by simp; omega) (go _ ?_ (by simp))))
    unfold escB; rw [if_neg e1, if_neg e2, if_neg e3, if_pos e4]
   refine Evneg e4 ?_
   by_cases e5 : c = 12
   ·refine Evpos e5 (Ev.bind (Ev.now _) (Evpos (by simp; omega) (go _ ?_ (by simp))))
    unfold escB; rw [if_neg e1, if_neg e2, if_neg e3, if_neg e4, if_pos e5]
   refine Evneg e5 ?_
   by_cases e6 : c = 13
   ·refine Evpos e6 (Ev.bind (Ev.now _) (Evpos (by simp; omega) (go _ ?_ (by simp))))
    unfold escB; rw [if_neg e1, if_neg e2, if_neg e3, if_neg e4, if_neg e5, if_pos e6]
   refine Evneg e6 ?_
   by_cases e7 : c < 32
   ·have ha : Go.bits .and .u8 c 15 = c % 16 := u8_and15 c h0 (by omega)
    rw [ha, tbl_at (n := c / 16) (by omega) (by omega), tbl_at (n := c % 16) (by omega) (by omega)]
    refine Evpos e7 (Evpos (by omega) (Evpos (by omega) (Evpos (by omega) (Evpos (by omega) (Ev.bind (Ev.now _) (Evpos (by simp; omega) (go _ ?_ (by simp))))))))
    unfold escB; rw [if_neg e1, if_neg e2, if_neg e3, if_neg e4, if_neg e5, if_neg e6, if_pos e7]
   ·refine Evneg e7 (Evpos (by omega) (go _ ?_ (by simp)))
    unfold escB; rw [if_neg e1, if_neg e2, if_neg e3, if_neg e4, if_neg e5, if_neg e6, if_neg e7]
  have hbt : bt s (i : Int) = c := by
   have := bt_bytes hlt
   rw [hb] at this
   exact (Option.some.inj this).symm
  refine Ev.step (fun k => rfl) ?_
  simp only [json_quoted.l0, hbt]
  refine Evpos (by omega) (Evpos (by omega) (Evpos (by omega) ?_))
  by_cases e : c = 34
  ·exact Evpos e (hj _ (by simp [e]))
  ·exact Evneg e (hj _ (by simp [e]))
theorem quoted_val (s : ByteArray) (x : List Int) (hs : s.size ≤ 100000000000) (hx : x.length + 6 * s.size + 16 < 140737488355328) : Ev (fun k => json_quoted.f k x s) (x ++ (34 :: (bytesOf s).flatMap escB ++ [34])) := by
 have := quoted_l0 s hs _ 0 (x ++ [34]) rfl (by omega) (by simp; omega)
 refine Evpos (by omega) ?_
 simpa [List.append_assoc] using this
theorem plain_val (s : ByteArray) (hs : s.size ≤ 100000000000) : ∃ b, Ev (fun k => json_plain.f k s) b ∧ (b = true ↔ Js.V (bytesOf s)) := by
 obtain ⟨x, e, h1, h2, h3, h4⟩ := Js.valid_all (bytes_of s) (by rw [bytesOf_length]; exact hs) (Nat.le_refl _)
 refine ⟨decide (e = 0), Ev.of (json_plain.mono s) (k := (bytesOf s).length + 4) ?_, by simpa using h3⟩
 unfold json_plain.f
 rw [if_pos hs, h1]
end Go.Proofs.Yteighppcdpaekaa.Pr4
end
section
namespace Go.Proofs.Yteighppcdpaekaa.Pr4
open Go.RowKit Go.Proofs.YteighppcdpaekaaW.PrintWords Go.Proofs.Yteighppcdpaekaa.P
open Go.Proofs.Yteighppcdpaekaa Go.Proofs.Yteighppcdpaekaa.Eq4
open Go.Proofs.Yteighppcdpaekaa.Js (Bytes escB hexd Term Out Val)
theorem digitLen_all {l : List Int} {i : Nat} {c : Int} (h : i < Js.digitLen l) (hc : l[i]? = some c) : c < 128 := by
 induction l generalizing i with
 | nil => simp [Js.digitLen] at h
 | cons a r ih =>
  simp only [Js.digitLen] at h
  split at h
  ·rename_i hd
   cases i with
   | zero => simp at hc; subst hc; simp [Js.isDigit] at hd; omega
   | succ i => exact ih (i := i) (by omega) (by simpa using hc)
  ·omega
def Asc (b : List Int) (p q : Nat) : Prop := ∀ i c, p ≤ i → i < q → b[i]? = some c → c < 128
theorem Asc.app {b : List Int} {p q r : Nat} (h : Asc b p q) (k : Asc b q r) : Asc b p r := fun i c h1 h2 hc => by
 by_cases hq : i < q
 ·exact h i c h1 hq hc
 ·exact k i c (by omega) h2 hc
theorem Asc.refl (b : List Int) (p : Nat) : Asc b p p := fun i c h1 h2 => by omega
theorem Asc.one {b : List Int} {p : Nat} {x : Int} (h : b[p]? = some x) (hx : x < 128) : Asc b p (p + 1) := fun i c h1 h2 hc => by
 obtain rfl : i = p := by omega
 rw [h] at hc
 cases hc
 exact hx
theorem Asc.next {b : List Int} {p : Nat} {x : Int} (h : Js.next b p x = true) (hx : x < 128) : Asc b p (p + 1) := Asc.one (by unfold Js.next at h; simpa using h) hx
theorem digits_asc {b : List Int} {p q : Nat} (h : Js.digits b p = .ok () q) : Asc b p q := by
 unfold Js.digits at h
 cases hx : b[p]? with
 | none => simp [hx] at h
 | some c =>
  simp only [hx] at h
  split at h
  ·simp at h
   intro i c2 h1 h2 hc
   refine digitLen_all (l := b.drop p) (i := i - p) (by omega) ?_
   rw [List.getElem?_drop, show p + (i - p) = i by omega]
   exact hc
  ·cases h
theorem numSign_asc {b : List Int} {p q : Nat} (h : Js.numSign b p = .ok () q) : Asc b p q := by
 unfold Js.numSign at h
 split at h
 ·rename_i hc
  have h2 := digits_asc h
  rcases Bool.or_eq_true _ _ ▸ hc with hc | hc
  ·exact (Asc.next hc (by omega)).app h2
  ·exact (Asc.next hc (by omega)).app h2
 ·exact digits_asc h
theorem numExp_asc {b : List Int} {p q : Nat} (h : Js.numExp b p = .ok () q) : Asc b p q := by
 unfold Js.numExp at h
 split at h
 ·rename_i hc
  have h2 := numSign_asc h
  rcases Bool.or_eq_true _ _ ▸ hc with hc | hc
  ·exact (Asc.next hc (by omega)).app h2
  ·exact (Asc.next hc (by omega)).app h2
 ·simp at h; subst h; exact Asc.refl _ _
theorem numFrac_asc {b : List Int} {p q : Nat} (h : Js.numFrac b p = .ok () q) : Asc b p q := by
 unfold Js.numFrac at h
 split at h
 ·rename_i hc
  cases hd : Js.digits b (p + 1) with
  | no x e => simp [hd] at h
  | ok u r =>
   simp only [hd] at h
   exact (Asc.next hc (by omega)).app ((digits_asc hd).app (numExp_asc h))
 ·exact numExp_asc h
theorem numInt_asc {b : List Int} {p q : Nat} (h : Js.numInt b p = .ok () q) : Asc b p q := by
 unfold Js.numInt at h
 cases hx : b[p]? with
 | none => simp [hx] at h
 | some c =>
  simp only [hx] at h
  split at h
  ·rename_i hc
   have hc' : c = 48 := by simpa using hc
   exact (Asc.one hx (by omega)).app (numFrac_asc h)
  ·cases hd : Js.digits b p with
   | no x e => simp [hd] at h
   | ok u r =>
    simp only [hd] at h
    exact (digits_asc hd).app (numFrac_asc h)
theorem number_asc {b : List Int} {p q : Nat} (h : Js.number b p = .ok () q) : Asc b p q := by
 unfold Js.number at h
 split at h
 ·rename_i hc
  exact (Asc.next hc (by omega)).app (numInt_asc h)
 ·exact numInt_asc h
theorem number_first {b : List Int} {p q : Nat} (h : Js.number b p = .ok () q) : ∃ c, b[p]? = some c ∧ (c = 45 ∨ (48 ≤ c ∧ c ≤ 57)) := by
 unfold Js.number at h
 split at h
 ·rename_i hc
  unfold Js.next at hc
  exact ⟨45, by simpa using hc, .inl rfl⟩
 ·unfold Js.numInt at h
  cases hx : b[p]? with
  | none => simp [hx] at h
  | some c =>
   simp only [hx] at h
   refine ⟨c, rfl, .inr ?_⟩
   split at h
   ·rename_i hc
    have hc' : c = 48 := by simpa using hc
    omega
   ·unfold Js.digits at h
    simp only [hx] at h
    cases hd : Js.isDigit c with
    | false => simp [hd] at h
    | true => simp [Js.isDigit] at hd; exact hd
theorem number_V {l : List Int} (h : Js.number l 0 = .ok () l.length) : Js.V l := Js.V.all_ascii fun x hx => by
 obtain ⟨i, hi⟩ := List.mem_iff_getElem?.1 hx
 exact number_asc h i x (Nat.zero_le _) (Js.at_lt hi) hi
theorem value_number {b : List Int} {p q d k : Nat} (h : Js.number b p = .ok () q) : Js.value b (k + 1) d p = some (.ok (.mk 3 ((b.take q).drop p) [] []) q) := by
 obtain ⟨c, hc, hcc⟩ := number_first h
 rw [Js.value_succ, hc]
 simp only
 rw [if_neg (by simp; omega), if_neg (by simp; omega), if_neg (by simp; omega), if_neg (by simp; omega), if_neg (by simp; omega), if_neg (by simp; omega), h]
 rfl
theorem items_kind (b : List Int) : ∀ k d l p v q, Js.items b k d l p = some (.ok v q) → ∃ l2, v = .mk 5 [] [] l2 := by
 intro k
 induction k with
 | zero => intro d l p v q h; simp [Js.items] at h
 | succ k ih =>
  intro d l p v q h
  rw [Js.items] at h
  cases hv : Js.value b k d p with
  | none => simp [hv] at h
  | some o =>
   rw [hv] at h
   cases o with
   | no x e => simp at h
   | ok v1 q1 =>
    simp only at h
    cases hc : Js.comma b 93 q1 with
    | no x e => simp [hc] at h
    | ok t s =>
     cases t with
     | true => simp only [hc] at h; exact ih _ _ _ _ _ h
     | false => simp [hc] at h; exact ⟨_, h.1.symm⟩
theorem pairs_kind (b : List Int) : ∀ k d ks l p v q, Js.pairs b k d ks l p = some (.ok v q) → ∃ ks2 l2, v = .mk 6 [] ks2 l2 := by
 intro k
 induction k with
 | zero => intro d ks l p v q h; simp [Js.pairs] at h
 | succ k ih =>
  intro d ks l p v q h
  rw [Js.pairs] at h
  cases ht : Js.text b k p with
  | none => simp [ht] at h
  | some ot =>
   rw [ht] at h
   cases ot with
   | no x e => simp at h
   | ok key q1 =>
    simp only at h
    split at h
    ·cases h
    cases hx : b[Js.blank b q1]? with
    | none => simp [hx] at h
    | some c =>
     simp only [hx] at h
     split at h
     ·cases hv : Js.value b k d (Js.blank b (Js.blank b q1 + 1)) with
      | none => simp [hv] at h
      | some o =>
       rw [hv] at h
       cases o with
       | no x e => simp at h
       | ok v1 q2 =>
        simp only at h
        cases hc : Js.comma b 125 q2 with
        | no x e => simp [hc] at h
        | ok t s =>
         cases t with
         | true => simp only [hc] at h; exact ih _ _ _ _ _ _ h
         | false => simp [hc] at h; exact ⟨_, _, h.1.symm⟩
     ·cases h
theorem value_kind3 {b : List Int} {k d p q : Nat} {v : Val} (h : Js.value b k d p = some (.ok v q)) (hk : (Rd.toS v).f0 = 3) : Js.number b p = .ok () q ∧ v = .mk 3 ((b.take q).drop p) [] [] := by
 cases k with
 | zero => simp [Js.value] at h
 | succ k =>
  rw [Js.value_succ] at h
  cases hx : b[p]? with
  | none => simp [hx] at h
  | some c =>
   simp only [hx] at h
   split at h
   ·unfold Js.obj at h
    cases he : Js.enter b d p with
    | no x e => simp [he] at h
    | ok u q1 =>
     simp only [he] at h
     cases hy : b[q1]? with
     | none => simp [hy] at h
     | some c2 =>
      simp only [hy] at h
      split at h
      ·simp at h; rw [← h.1] at hk; simp [Rd.toS] at hk
      ·obtain ⟨_, _, rfl⟩ := pairs_kind _ _ _ _ _ _ _ _ h
       simp [Rd.toS] at hk
   split at h
   ·unfold Js.arr at h
    cases he : Js.enter b d p with
    | no x e => simp [he] at h
    | ok u q1 =>
     simp only [he] at h
     cases hy : b[q1]? with
     | none => simp [hy] at h
     | some c2 =>
      simp only [hy] at h
      split at h
      ·simp at h; rw [← h.1] at hk; simp [Rd.toS] at hk
      ·obtain ⟨_, rfl⟩ := items_kind _ _ _ _ _ _ _ h
       simp [Rd.toS] at hk
   split at h
   ·cases ht : Js.text b k p with
    | none => simp [ht] at h
    | some ot =>
     cases ot with
     | no x e => simp [ht, Js.strV] at h
     | ok l r => simp [ht, Js.strV] at h; rw [← h.1] at hk; simp [Rd.toS] at hk
   split at h
   ·cases hw : Js.word b [116, 114, 117, 101] p with
    | no x e => simp [hw, Js.wordV] at h
    | ok u r => simp [hw, Js.wordV] at h; rw [← h.1] at hk; simp [Rd.toS] at hk
   split at h
   ·cases hw : Js.word b [102, 97, 108, 115, 101] p with
    | no x e => simp [hw, Js.wordV] at h
    | ok u r => simp [hw, Js.wordV] at h; rw [← h.1] at hk; simp [Rd.toS] at hk
   split at h
   ·cases hw : Js.word b [110, 117, 108, 108] p with
    | no x e => simp [hw, Js.wordV] at h
    | ok u r => simp [hw, Js.wordV] at h; rw [← h.1] at hk; simp [Rd.toS] at hk
   ·cases hn : Js.number b p with
    | no x e => simp [hn, Js.numV] at h
    | ok u r => simp [hn, Js.numV] at h; obtain ⟨h1, rfl⟩ := h; exact ⟨rfl, h1.symm⟩
theorem parse_ev {l : List Int} (hb : Bytes l) (hl : l.length ≤ 100000000000) (hv : Js.V l) {K : Nat} {o : Out Val} (h : Rd.parsed l K = some o) : Ev (fun k => json_Parse.f k l) (json_Parse.res o) := by
 refine Ev.of (json_Parse.mono l) (k := max K (l.length + 4)) ?_
 have hok : json_Parse.okb l = true := by
  unfold json_Parse.okb
  simp only [Bool.and_eq_true, List.all_eq_true, decide_eq_true_eq]
  exact ⟨fun x hx => hb x hx, hl⟩
 unfold json_Parse.f
 rw [if_pos hok, Js.valid_ok hb hl hv (k := max K (l.length + 4)) (Nat.le_max_right _ _)]
 simp only
 rw [if_pos (by trivial), if_pos (by trivial), at_rounds (g := fun k => Rd.parsed l k) (fun k r hr => json_Parse.parsed_mono hr) (Nat.le_max_left _ _) h]
theorem parse_utf {l : List Int} (hb : Bytes l) (hl : l.length ≤ 100000000000) (hv : ¬ Js.V l) : ∃ x, Ev (fun k => json_Parse.f k l) (0, ⟨#[]⟩, [], [], x, 10) := by
 obtain ⟨x, e, h1, h2, h3, h4⟩ := Js.valid_all hb hl (Nat.le_refl _)
 have he : e = 10 := by
  rcases h2 with h2 | h2
  ·exact absurd (h3.1 h2) hv
  ·exact h2
 subst he
 refine ⟨x, Ev.of (json_Parse.mono l) (k := l.length + 4) ?_⟩
 have hok : json_Parse.okb l = true := by
  unfold json_Parse.okb
  simp only [Bool.and_eq_true, List.all_eq_true, decide_eq_true_eq]
  exact ⟨fun x hx => hb x hx, hl⟩
 unfold json_Parse.f
 rw [if_pos hok, h1]
 simp only
 rw [if_neg (by omega)]
theorem parsed_total (l : List Int) : ∃ K o, Rd.parsed l K = some o := by
 obtain ⟨K, o, h⟩ := Js.value_total l 0 (Js.blank l 0)
 unfold Rd.parsed
 refine ⟨K, ?_⟩
 rw [h]
 cases o with
 | no x e => exact ⟨_, rfl⟩
 | ok v q =>
  simp only
  split
  ·exact ⟨_, rfl⟩
  ·exact ⟨_, rfl⟩
theorem isNumber_val (s : ByteArray) (hs : s.size ≤ 100000000000) : ∃ b, Ev (fun k => json_isNumber.f k s) b ∧ (b = true ↔ Js.number (bytesOf s) 0 = .ok () (bytesOf s).length) := by
 have hb := bytes_of s
 have hl : (bytesOf s).length ≤ 100000000000 := by rw [bytesOf_length]; exact hs
 have run : ∀ r, Ev (fun k => json_Parse.f k (bytesOf s)) r → Ev (fun k => json_isNumber.f k s) (decide (r.2.2.2.2.2 = 0) && (decide (r.1 = 3) && decide (r.2.1 = s))) := by
  rintro r ⟨K, hK⟩
  refine Ev.of (json_isNumber.mono s) (k := K) ?_
  unfold json_isNumber.f
  have hK2 := hK K (Nat.le_refl _)
  simp only at hK2
  rw [if_pos hs, hK2]
 by_cases hn : Js.number (bytesOf s) 0 = .ok () (bytesOf s).length
 ·have hv := number_V hn
  have h0 : Js.blank (bytesOf s) 0 = 0 := by
   obtain ⟨c, hc, hcc⟩ := number_first hn
   exact Js.blank_none hc (by simp [Js.isBlank]; omega)
  have hp : Rd.parsed (bytesOf s) 1 = some (.ok (.mk 3 (bytesOf s) [] []) 0) := by
   unfold Rd.parsed
   rw [h0, value_number hn]
   simp only
   rw [Js.blank_past (by simp), if_neg (by omega), List.take_length, List.drop_zero]
  have := run _ (parse_ev hb hl hv hp)
  refine ⟨_, this, ?_⟩
  simp [json_Parse.res, Rd.toS, str_bytes, hn]
 ·have key : ∀ r, Ev (fun k => json_Parse.f k (bytesOf s)) r → ¬ (r.2.2.2.2.2 = 0 ∧ r.1 = 3 ∧ r.2.1 = s) → ∃ b, Ev (fun k => json_isNumber.f k s) b ∧ (b = true ↔ Js.number (bytesOf s) 0 = .ok () (bytesOf s).length) := fun r hr hne => by
   refine ⟨_, run r hr, ?_⟩
   simp only [Bool.and_eq_true, decide_eq_true_eq]
   exact ⟨fun h => absurd h hne, fun h => absurd h hn⟩
  by_cases hv : Js.V (bytesOf s)
  ·obtain ⟨K, o, ho⟩ := parsed_total (bytesOf s)
   refine key _ (parse_ev hb hl hv ho) ?_
   rintro ⟨h1, h2, h3⟩
   unfold Rd.parsed at ho
   cases hval : Js.value (bytesOf s) K 0 (Js.blank (bytesOf s) 0) with
   | none => rw [hval] at ho; cases ho
   | some ov =>
    rw [hval] at ho
    cases ov with
    | no x e => obtain rfl := Option.some.inj ho; simp [json_Parse.res] at h2
    | ok v q =>
     simp only at ho
     split at ho
     ·obtain rfl := Option.some.inj ho; simp [json_Parse.res] at h2
     ·obtain rfl := Option.some.inj ho
      simp only [json_Parse.res] at h2 h3
      obtain ⟨hnum, rfl⟩ := value_kind3 hval h2
      simp only [Rd.toS] at h3
      have hlt := Js.number_lt hnum
      have hbt : Bytes (((bytesOf s).take q).drop (Js.blank (bytesOf s) 0)) := fun x hx => hb x (List.mem_of_mem_take (List.mem_of_mem_drop hx))
      have he := congrArg bytesOf h3
      rw [bytes_str hbt] at he
      have hlen := congrArg List.length he
      rw [List.length_drop, List.length_take] at hlen
      have hq : q = (bytesOf s).length := by omega
      have hp0 : Js.blank (bytesOf s) 0 = 0 := by omega
      rw [hp0, hq] at hnum
      exact hn hnum
  ·obtain ⟨x, hx⟩ := parse_utf hb hl hv
   exact key _ hx (by simp)
end Go.Proofs.Yteighppcdpaekaa.Pr4
end
section
namespace Go.Proofs.Yteighppcdpaekaa.Pr4
open Go.RowKit Go.Proofs.YteighppcdpaekaaW.PrintWords Go.Proofs.Yteighppcdpaekaa.P
open Go.Proofs.Yteighppcdpaekaa Go.Proofs.Yteighppcdpaekaa.Eq4
open Go.Proofs.Yteighppcdpaekaa.Js (Bytes escB hexd Term Out Val)
theorem room_ok {x y : List Int} (h : x.length + y.length < 140737488355328) : Wr.room x y = some (x ++ y) := by unfold Wr.room; rw [if_pos h]
theorem wr_mono (x : List Int) (v : S25) (d : Int) : ∀ k, LeO (Wr.wr k x v d) (Wr.wr (k + 1) x v d) := fun k r h => (Wr.all_mono k).1 _ _ _ _ h
theorem pl_mono (x : List Int) (v : S25) (d : Int) (i : Nat) (s : List ByteArray) : ∀ k, LeO (Wr.pl k x v d i s) (Wr.pl (k + 1) x v d i s) := fun k r h => (Wr.all_mono k).2.2 _ _ _ _ _ _ h
theorem Ev.at {α : Type} {g : Nat → Option α} {r : α} (h : Ev g r) : ∃ K, ∀ k, K ≤ k → g k = some r := h
theorem word_back {l : List Int} : ∀ {b : List Int} {p : Nat} {post : List Int}, b.drop p = l ++ post → Js.word b l p = .ok () (p + l.length) := by
 induction l with
 | nil => intro b p post h; rfl
 | cons c r ih =>
  intro b p post h
  obtain ⟨h1, h2⟩ := Js.at_cons (c := c) (s := r ++ post) (by simpa using h)
  rw [Js.word, h1]
  simp only
  rw [if_pos (by simp), ih h2]
  simp
  omega
def Fst (t : List Int) : Prop := ∃ c s, t = c :: s ∧ Js.isBlank c = false ∧ c ≠ 93 ∧ c ≠ 125
structure Rds (t : List Int) (v : S25) (d : Nat) : Prop where
 fst : Fst t
 utf : Js.V t
 byt : Bytes t
 rd : ∃ (v' : Val) (K : Nat), eqS v (Rd.toS v') = true ∧ ∀ b p post, b.drop p = t ++ post → Term post → Js.value b K d p = some (.ok v' (p + t.length))
theorem bytes_app {x y : List Int} (hx : Bytes x) (hy : Bytes y) : Bytes (x ++ y) := fun z hz => by
 rcases List.mem_append.1 hz with h | h
 ·exact hx z h
 ·exact hy z h
theorem bytes_cons {c : Int} {y : List Int} (h0 : 0 ≤ c) (h1 : c ≤ 255) (hy : Bytes y) : Bytes (c :: y) := fun z hz => by
 rcases List.mem_cons.1 hz with rfl | h
 ·exact ⟨h0, h1⟩
 ·exact hy z h
theorem bytes_nil : Bytes [] := fun z hz => by cases hz
theorem bytes_esc {l : List Int} (h : Bytes l) : Bytes (l.flatMap escB) := fun z hz => by
 obtain ⟨c, hc, hz⟩ := List.mem_flatMap.1 hz
 have := h c hc
 by_cases hlt : c < 128
 ·have := Js.escB_ascii this.1 hlt z hz; omega
 ·rw [Js.escB_high (by omega)] at hz; simp at hz; omega
theorem esc_len (l : List Int) : (l.flatMap escB).length ≤ 6 * l.length := by
 induction l with
 | nil => simp
 | cons c r ih =>
  rw [List.flatMap_cons, List.length_append, List.length_cons]
  have := Js.escB_len c
  omega
theorem term_of {c : Int} {s : List Int} (h : c = 44 ∨ c = 93 ∨ c = 125) : Term (c :: s) := fun x hx => by
 simp at hx
 subst hx
 refine ⟨?_, by omega, by omega, by omega⟩
 rcases h with rfl | rfl | rfl <;> rfl
theorem rds_word {l : List Int} {v : S25} {d : Nat} (kind : Int) (hv : v.f0 = kind) (hk : ¬ (kind = 3 ∨ kind = 4) ∧ ¬ (kind = 5 ∨ kind = 6)) (hf : Fst l) (ha : ∀ x ∈ l, 0 ≤ x ∧ x < 128)
  (hr : ∀ (b : List Int) (p : Nat) (c : Int) (post : List Int), b[p]? = some c → l[0]? = some c → Js.word b l p = .ok () (p + l.length) → Js.value b 1 d p = some (.ok (.mk kind [] [] []) (p + l.length))) : Rds l v d := by
 refine ⟨hf, Js.V.all_ascii fun x hx => (ha x hx).2, fun x hx => by have := ha x hx; omega, .mk kind [] [] [], 1, ?_, fun b p post h ht => ?_⟩
 ·rw [eqS_eq, if_pos (by simp [Rd.toS, hv]), if_neg (by rw [hv]; exact hk.1), if_neg (by rw [hv]; exact hk.2)]
 ·obtain ⟨c, s, hc, _⟩ := hf
  obtain ⟨h1, _⟩ := Js.at_cons (c := c) (s := s ++ post) (by rw [h, hc]; simp)
  exact hr b p c post h1 (by rw [hc]; rfl) (word_back h)
theorem rds_null {v : S25} {d : Nat} (hv : v.f0 = 0) : Rds [110, 117, 108, 108] v d :=
 rds_word 0 hv (by omega) ⟨110, _, rfl, by decide, by decide, by decide⟩ (by decide) fun b p c post h1 h2 hw => by
  simp at h2; subst h2
  rw [Js.value_succ, h1]
  simp [hw, Js.wordV]
theorem rds_false {v : S25} {d : Nat} (hv : v.f0 = 1) : Rds [102, 97, 108, 115, 101] v d :=
 rds_word 1 hv (by omega) ⟨102, _, rfl, by decide, by decide, by decide⟩ (by decide) fun b p c post h1 h2 hw => by
  simp at h2; subst h2
  rw [Js.value_succ, h1]
  simp [hw, Js.wordV]
theorem rds_true {v : S25} {d : Nat} (hv : v.f0 = 2) : Rds [116, 114, 117, 101] v d :=
 rds_word 2 hv (by omega) ⟨116, _, rfl, by decide, by decide, by decide⟩ (by decide) fun b p c post h1 h2 hw => by
  simp at h2; subst h2
  rw [Js.value_succ, h1]
  simp [hw, Js.wordV]
theorem drop_take {b t post : List Int} {p : Nat} (h : b.drop p = t ++ post) (hp : p ≤ b.length) : (b.take (p + t.length)).drop p = t := by
 have h1 : b.take (p + t.length) = b.take p ++ t := by
  have h2 : b = b.take p ++ (t ++ post) := by rw [← h, List.take_append_drop]
  have hl : (b.take p).length = p := by rw [List.length_take]; omega
  conv => lhs; rw [h2]
  rw [List.take_append, hl, List.take_of_length_le (by rw [hl]; omega), Nat.add_sub_cancel_left, List.take_append_of_le_length (Nat.le_refl _), List.take_length]
 rw [h1, List.drop_append_of_le_length (by rw [List.length_take]; omega), List.drop_eq_nil_of_le (by rw [List.length_take]; omega), List.nil_append]
theorem rds_number {v : S25} {d : Nat} (hv : v.f0 = 3) (hn : Js.number (bytesOf v.f1) 0 = .ok () (bytesOf v.f1).length) : Rds (bytesOf v.f1) v d := by
 obtain ⟨c, hc, hcc⟩ := number_first hn
 have hd := Js.drop_some hc
 rw [List.drop_zero] at hd
 refine ⟨⟨c, _, hd, by simp [Js.isBlank]; omega, by omega, by omega⟩, number_V hn, bytes_of _, .mk 3 (bytesOf v.f1) [] [], 1, ?_, fun b p post h ht => ?_⟩
 ·rw [eqS_eq, if_pos (by simp [Rd.toS, hv]), if_pos (.inl hv)]
  simp [Rd.toS, str_bytes]
 ·have h1 := Js.number_ext h ht hn
  have hp : p ≤ b.length := by have := Js.number_lt h1; omega
  rw [value_number h1, drop_take h hp]
theorem rds_string {v : S25} {d : Nat} (hv : v.f0 = 4) (hu : Js.V (bytesOf v.f1)) : Rds (34 :: (bytesOf v.f1).flatMap escB ++ [34]) v d := by
 have hb := bytes_of v.f1
 refine ⟨⟨34, _, rfl, by decide, by decide, by decide⟩, ?_, ?_, .mk 4 (bytesOf v.f1) [] [], (bytesOf v.f1).length + 2, ?_, fun b p post h ht => ?_⟩
 ·exact Js.V.ascii (by decide) ((hu.esc hb).app (Js.V.ascii (by decide) .nil))
 ·exact bytes_cons (by decide) (by decide) (bytes_app (bytes_esc hb) (bytes_cons (by decide) (by decide) bytes_nil))
 ·rw [eqS_eq, if_pos (by simp [Rd.toS, hv]), if_pos (.inr hv)]
  simp [Rd.toS, str_bytes]
 ·have h' : b.drop p = 34 :: (bytesOf v.f1).flatMap escB ++ 34 :: post := by rw [h]; simp
  have ht2 := Js.text_back (fun x hx => (hb x hx).1) h' (k := (bytesOf v.f1).length + 1) (by omega)
  obtain ⟨h1, _⟩ := Js.at_cons (c := 34) (s := (bytesOf v.f1).flatMap escB ++ 34 :: post) (by simpa using h')
  rw [show (bytesOf v.f1).length + 2 = ((bytesOf v.f1).length + 1) + 1 by omega, Js.value_succ, h1]
  simp only
  rw [if_neg (by decide), if_neg (by decide), if_pos (by decide), ht2]
  simp only [Option.map_some, Js.strV]
  simp
  omega
def contI (b : List Int) (K D : Nat) (l : List Val) (p : Nat) : Option (Out Val) := match Js.comma b 93 p with
 | .no x e => some (.no x e)
 | .ok true q => Js.items b K D l q
 | .ok false q => some (.ok (.mk 5 [] [] l) q)
def contP (b : List Int) (K D : Nat) (ks : List (List Int)) (l : List Val) (p : Nat) : Option (Out Val) := match Js.comma b 125 p with
 | .no x e => some (.no x e)
 | .ok true q => Js.pairs b K D ks l q
 | .ok false q => some (.ok (.mk 6 [] ks l) q)
theorem items_succ (b : List Int) (K D : Nat) (l : List Val) (p : Nat) {v : Val} {q : Nat} (h : Js.value b K D p = some (.ok v q)) : Js.items b (K + 1) D l p = contI b K D (l ++ [v]) q := by
 rw [Js.items, h]
 unfold contI
 simp only
 cases Js.comma b 93 q with
 | no x e => rfl
 | ok t s => cases t <;> rfl
theorem contI_more {b : List Int} {K D : Nat} {l : List Val} {p : Nat} {o : Out Val} (h : contI b K D l p = some o) {m : Nat} (hm : K ≤ m) : contI b m D l p = some o := by
 unfold contI at h ⊢
 cases hc : Js.comma b 93 p with
 | no x e => rw [hc] at h; exact h
 | ok t s =>
  rw [hc] at h
  cases t with
  | true => exact Js.items_more h hm
  | false => exact h
theorem contP_more {b : List Int} {K D : Nat} {ks : List (List Int)} {l : List Val} {p : Nat} {o : Out Val} (h : contP b K D ks l p = some o) {m : Nat} (hm : K ≤ m) : contP b m D ks l p = some o := by
 unfold contP at h ⊢
 cases hc : Js.comma b 125 p with
 | no x e => rw [hc] at h; exact h
 | ok t s =>
  rw [hc] at h
  cases t with
  | true => exact Js.pairs_more h hm
  | false => exact h
theorem comma_next {b s : List Int} {p : Nat} {cl c : Int} (hcl : cl ≠ 44) (h : b.drop p = 44 :: c :: s) (hc : Js.isBlank c = false) : Js.comma b cl p = .ok true (p + 1) := by
 obtain ⟨h1, h2⟩ := Js.at_cons h
 obtain ⟨h3, _⟩ := Js.at_cons h2
 unfold Js.comma
 rw [Js.blank_none h1 (by decide)]
 simp only [h1]
 rw [if_neg (by simp; omega), if_pos (by decide), Js.blank_none h3 hc]
theorem comma_last {b s : List Int} {p : Nat} {cl : Int} (hb : Js.isBlank cl = false) (h : b.drop p = cl :: s) : Js.comma b cl p = .ok false (p + 1) := by
 obtain ⟨h1, _⟩ := Js.at_cons h
 unfold Js.comma
 rw [Js.blank_none h1 hb]
 simp only [h1]
 rw [if_pos (by simp)]
end Go.Proofs.Yteighppcdpaekaa.Pr4
end
section
namespace Go.Proofs.Yteighppcdpaekaa.Pr4
open Go.RowKit Go.Proofs.YteighppcdpaekaaW.PrintWords Go.Proofs.Yteighppcdpaekaa.P
open Go.Proofs.Yteighppcdpaekaa Go.Proofs.Yteighppcdpaekaa.Eq4
open Go.Proofs.Yteighppcdpaekaa.Js (Bytes escB hexd Term Out Val)
set_option linter.unusedVariables false
def WrOk (v : S25) (d : Nat) (x : List Int) (r : List Int) (e : Int) : Prop := e = 0 → ∃ t, r = x ++ t ∧ Rds t v d ∧ t.length + 18100 ≤ 40000 * szS v
theorem szL_drop {l : List S25} {i : Nat} (h : i < l.length) : szL (l.drop i) = szS l[i] + szL (l.drop (i + 1)) := by
 rw [List.drop_eq_getElem_cons h, szL]
theorem toSs_cons (v : Val) (l : List Val) : Rd.toSs (v :: l) = Rd.toS v :: Rd.toSs l := by simp [Rd.toSs]
theorem wr_end {k : Nat} {x y : List Int} {v : S25} {deep : Int} {i : Nat} {seen : List ByteArray} (h : v.f3[i]? = none) (hr : Wr.room x [if v.f0 = 6 then 125 else 93] = some y) : Wr.pl (k + 1) x v deep i seen = some (y, 0) := by
 rw [Wr.pl, h]
 simp only
 rw [hr]
 rfl
def ArrOk (v : S25) (D i : Nat) (y r : List Int) (e : Int) : Prop := e = 0 → ∃ t vs, r = y ++ t ∧ Js.V t ∧ Bytes t ∧ (∃ c s, t = c :: s ∧ (c = 44 ∨ c = 93 ∨ c = 125)) ∧ eqL (v.f3.drop i) (Rd.toSs vs) = true ∧ vs.length = (v.f3.drop i).length ∧ t.length ≤ 40000 * szL (v.f3.drop i) + 1 ∧
 ∃ K, ∀ b p post l, b.drop p = t ++ post → contI b K D l p = some (.ok (.mk 5 [] [] (l ++ vs)) (p + t.length))
theorem arr_loop {n D : Nat} (hD : 1 ≤ D ∧ D ≤ 64) (ih : ∀ v x, szS v ≤ n → Light v → x.length + 40000 * szS v ≤ 10000000000000 → ∃ r e, Ev (fun k => Wr.wr k x v (D : Int)) (r, e) ∧ WrOk v D x r e) {v : S25} (h5 : v.f0 = 5) (hn : szL v.f3 ≤ n) (hL : Light v) :
  ∀ m i : Nat, ∀ y : List Int, v.f3.length - i = m → 1 ≤ i → i ≤ v.f3.length → y.length + 40000 * szL (v.f3.drop i) + 10 ≤ 10000000000000 → ∃ r e, Ev (fun k => Wr.pl k y v (D : Int) i []) (r, e) ∧ ArrOk v D i y r e := by
 obtain ⟨h3, h2, _, _, hl⟩ := hL.out
 intro m
 induction m with
 | zero =>
  intro i y hm h1 hi hy
  have hnone : v.f3[i]? = none := by simp; omega
  have hd : v.f3.drop i = [] := List.drop_eq_nil_of_le (by omega)
  refine ⟨y ++ [93], 0, Ev.of (pl_mono y v D i []) (k := 1) (wr_end hnone (by rw [h5, if_neg (by decide)]; exact room_ok (by simp; omega))), fun _ => ?_⟩
  refine ⟨[93], [], rfl, Js.V.ascii (by decide) .nil, bytes_cons (by decide) (by decide) bytes_nil, ⟨93, [], rfl, by omega⟩, by rw [hd]; simp [eqL], by rw [hd]; rfl, by simp, 1, fun b p post l h => ?_⟩
  unfold contI
  rw [comma_last (cl := 93) (by decide) (by simpa using h)]
  simp
 | succ m im =>
  intro i y hm h1 hi hy
  have hlt : i < v.f3.length := by omega
  have hsome : v.f3[i]? = some v.f3[i] := List.getElem?_eq_getElem hlt
  have hsz := szL_drop hlt
  have hle : szS v.f3[i] ≤ n := Nat.le_trans (szL_mem (List.getElem_mem hlt)) hn
  obtain ⟨r1, e1, hE1, hW1⟩ := ih v.f3[i] (y ++ [44]) hle (hl _ (List.getElem_mem hlt)) (by simp; omega)
  obtain ⟨K1, hK1⟩ := Ev.at hE1
  have step : ∀ k, K1 ≤ k → Wr.pl (k + 1) y v (D : Int) i [] = if e1 = 0 then Wr.pl k r1 v (D : Int) (i + 1) [] else some ([], e1) := by
   intro k hk
   have hw := hK1 k hk
   rw [Wr.pl, hsome]
   simp only
   rw [if_pos (by omega), room_ok (by simp; omega)]
   have hh : Wr.head k (y ++ [44]) v i [] = some (y ++ [44], [], 0) := by unfold Wr.head; rw [if_neg (by omega)]
   simp only [hh, if_true, hw]
  by_cases he : e1 = 0
  ·obtain ⟨t1, hr1, hRd, hlen1⟩ := hW1 he
   obtain ⟨r, e, hE, hA⟩ := im (i + 1) r1 (by omega) (by omega) (by omega) (by rw [hr1]; simp; omega)
   obtain ⟨K2, hK2⟩ := Ev.at hE
   refine ⟨r, e, Ev.of (pl_mono y v D i []) (k := max K1 K2 + 1) (by rw [step _ (Nat.le_max_left _ _), if_pos he]; exact hK2 _ (Nat.le_max_right _ _)), fun h0 => ?_⟩
   obtain ⟨t2, vs, hr2, hV2, hB2, ⟨c2, s2, ht2, hc2⟩, hq2, hvl2, hlen2, K3, hK3⟩ := hA h0
   obtain ⟨c1, s1, ht1, hb1, _, _⟩ := hRd.fst
   obtain ⟨v', K4, hq1, hK4⟩ := hRd.rd
   refine ⟨44 :: t1 ++ t2, v' :: vs, by rw [hr2, hr1]; simp, Js.V.ascii (by decide) (hRd.utf.app hV2), bytes_cons (by decide) (by decide) (bytes_app hRd.byt hB2), ⟨44, t1 ++ t2, by simp, by omega⟩, ?_, ?_, ?_, max K3 K4 + 1, fun b p post l h => ?_⟩
   ·rw [List.drop_eq_getElem_cons hlt, toSs_cons]
    simp only [eqL, hq1, hq2, Bool.and_true]
   ·rw [List.length_cons, hvl2, List.drop_eq_getElem_cons hlt, List.length_cons]
   ·simp only [List.length_append, List.length_cons]
    omega
   ·have hd1 : b.drop (p + 1) = t1 ++ (t2 ++ post) := (Js.at_cons (c := 44) (s := t1 ++ (t2 ++ post)) (by rw [h]; simp)).2
    have hval := hK4 b (p + 1) (t2 ++ post) hd1 (by rw [ht2]; exact term_of hc2)
    have hd2 : b.drop (p + 1 + t1.length) = t2 ++ post := by rw [← List.drop_drop, hd1, List.drop_left]
    have hI := hK3 b (p + 1 + t1.length) post (l ++ [v']) hd2
    unfold contI
    rw [comma_next (cl := 93) (c := c1) (s := s1 ++ (t2 ++ post)) (by decide) (by rw [h, ht1]; simp) hb1]
    simp only
    rw [items_succ b (max K3 K4) D l (p + 1) (Js.value_more hval (Nat.le_max_right _ _)), contI_more hI (Nat.le_max_left _ _)]
    simp
    omega
  ·exact ⟨[], e1, Ev.of (pl_mono y v D i []) (k := K1 + 1) (by rw [step _ (Nat.le_refl _), if_neg he]), fun h0 => absurd h0 he⟩
def ObjOk (v : S25) (D i : Nat) (y r : List Int) (e : Int) : Prop := e = 0 → ∃ t vs, r = y ++ t ∧ Js.V t ∧ Bytes t ∧ (∃ c s, t = c :: s ∧ (c = 44 ∨ c = 93 ∨ c = 125)) ∧ eqL (v.f3.drop i) (Rd.toSs vs) = true ∧ vs.length = (v.f3.drop i).length ∧ t.length ≤ 40000 * szL (v.f3.drop i) + 1 ∧
 ∃ K, ∀ b p post l, b.drop p = t ++ post → contP b K D ((v.f2.take i).map bytesOf) l p = some (.ok (.mk 6 [] (v.f2.map bytesOf) (l ++ vs)) (p + t.length))
theorem bytes_inj {x y : ByteArray} (h : bytesOf x = bytesOf y) : x = y := by rw [← str_bytes x, ← str_bytes y, h]
theorem obj_part {n D : Nat} (hD : 1 ≤ D ∧ D ≤ 64) (ih : ∀ v x, szS v ≤ n → Light v → x.length + 40000 * szS v ≤ 10000000000000 → ∃ r e, Ev (fun k => Wr.wr k x v (D : Int)) (r, e) ∧ WrOk v D x r e) {v : S25} (h6 : v.f0 = 6) (hlen : v.f2.length = v.f3.length) (hn : szL v.f3 ≤ n) (hL : Light v) {i : Nat} (hlt : i < v.f3.length) (y : List Int) (hy : y.length + 40000 * szS v.f3[i] + 20000 ≤ 10000000000000) :
  (∃ e, e ≠ 0 ∧ ∃ K, ∀ k, K ≤ k → ∀ y0, (if 0 < i then Wr.room y0 [44] else some y0) = some y → Wr.pl (k + 1) y0 v (D : Int) i (v.f2.take i) = some ([], e)) ∨
  ∃ t r1, r1 = y ++ t ∧ Js.V t ∧ Bytes t ∧ (∃ c s, t = c :: s ∧ Js.isBlank c = false ∧ c ≠ 125) ∧ t.length ≤ 40000 * szS v.f3[i] - 10 ∧ (∃ K, ∀ k, K ≤ k → ∀ y0, (if 0 < i then Wr.room y0 [44] else some y0) = some y → Wr.pl (k + 1) y0 v (D : Int) i (v.f2.take i) = Wr.pl k r1 v (D : Int) (i + 1) (v.f2.take (i + 1))) ∧
   ∃ v', eqS v.f3[i] (Rd.toS v') = true ∧ ∃ K, ∀ K', K ≤ K' → ∀ b p post l, b.drop p = t ++ post → Term post → Js.pairs b (K' + 1) D ((v.f2.take i).map bytesOf) l p = contP b K' D ((v.f2.take (i + 1)).map bytesOf) (l ++ [v']) (p + t.length) := by
 obtain ⟨h3, h2, _, hks, hl⟩ := hL.out
 have hlt2 : i < v.f2.length := by omega
 have hsome : v.f3[i]? = some v.f3[i] := List.getElem?_eq_getElem hlt
 have hkey : v.f2[i]? = some v.f2[i] := List.getElem?_eq_getElem hlt2
 have hks1 := hks i hlt2
 generalize v.f2[i] = key at hkey hks1
 have hkb : (bytesOf key).length = key.size := bytesOf_length key
 have hel := esc_len (bytesOf key)
 have hle : szS v.f3[i] ≤ n := Nat.le_trans (szL_mem (List.getElem_mem hlt)) hn
 have hsz1 : 1 ≤ szS v.f3[i] := by rw [szS_eq]; omega
 obtain ⟨bp, hEp, hbp⟩ := plain_val key (by omega)
 obtain ⟨Kp, hKp⟩ := Ev.at hEp
 cases bp with
 | false =>
  refine .inl ⟨10, by decide, Kp, fun k hk y0 hy0 => ?_⟩
  have hw := hKp k hk
  rw [Wr.pl, hsome]
  simp only
  rw [hy0]
  have hh : Wr.head k y v i (v.f2.take i) = some ([], [], 10) := by unfold Wr.head; rw [if_pos h6, hkey]; simp only; rw [hw]
  simp only [hh]
  rfl
 | true =>
  have hVk := hbp.1 rfl
  by_cases hsn : ((v.f2.take i).any fun z => decide (z = key)) = true
  ·refine .inl ⟨23, by decide, Kp, fun k hk y0 hy0 => ?_⟩
   have hw := hKp k hk
   rw [Wr.pl, hsome]
   simp only
   rw [hy0]
   have hh : Wr.head k y v i (v.f2.take i) = some ([], [], 23) := by unfold Wr.head; rw [if_pos h6, hkey]; simp only; rw [hw]; simp only; rw [if_pos hsn]
   simp only [hh]
   rfl
  ·obtain ⟨Kq, hKq⟩ := Ev.at (quoted_val key y (by omega) (by omega))
   obtain ⟨r1, e1, hE1, hW1⟩ := ih v.f3[i] (y ++ (34 :: (bytesOf key).flatMap escB ++ [34]) ++ [58]) hle (hl _ (List.getElem_mem hlt)) (by simp [-List.length_flatMap]; omega)
   obtain ⟨K1, hK1⟩ := Ev.at hE1
   have hsnoc : v.f2.take (i + 1) = v.f2.take i ++ [key] := by rw [List.take_succ_eq_append_getElem hlt2]; congr 1; rw [List.getElem?_eq_getElem hlt2] at hkey; rw [Option.some.inj hkey]
   have step : ∀ k, max Kp (max Kq K1) ≤ k → ∀ y0, (if 0 < i then Wr.room y0 [44] else some y0) = some y → Wr.pl (k + 1) y0 v (D : Int) i (v.f2.take i) = if e1 = 0 then Wr.pl k r1 v (D : Int) (i + 1) (v.f2.take (i + 1)) else some ([], e1) := by
    intro k hk y0 hy0
    have hw1 := hKp k (by omega)
    have hw2 := hKq k (by omega)
    have hw3 := hK1 k (by omega)
    rw [Wr.pl, hsome]
    simp only
    rw [hy0]
    have hh : Wr.head k y v i (v.f2.take i) = some (y ++ (34 :: (bytesOf key).flatMap escB ++ [34]) ++ [58], v.f2.take (i + 1), 0) := by
     unfold Wr.head
     rw [if_pos h6, hkey]
     simp only
     rw [hw1]
     simp only
     rw [if_neg hsn, hw2]
     simp only
     rw [room_ok (by simp [-List.length_flatMap]; omega), hsnoc]
    simp only [hh, if_true, hw3]
   by_cases he : e1 = 0
   ·obtain ⟨t1, hr1, hRd, hlen1⟩ := hW1 he
    obtain ⟨v', K4, hq1, hK4⟩ := hRd.rd
    obtain ⟨c1, s1, ht1, hb1, _, _⟩ := hRd.fst
    have hbk := bytes_of key
    refine .inr ⟨34 :: (bytesOf key).flatMap escB ++ 34 :: 58 :: t1, r1, by rw [hr1]; simp, ?_, ?_, ⟨34, _, by simp; rfl, by decide, by decide⟩, by simp [-List.length_flatMap]; omega, ⟨_, fun k hk y0 hy0 => by rw [step k hk y0 hy0, if_pos he]⟩, v', hq1, max K4 ((bytesOf key).length + 1), fun K' hK' b p post l h ht => ?_⟩
    ·exact Js.V.ascii (by decide) ((hVk.esc hbk).app (Js.V.ascii (by decide) (Js.V.ascii (by decide) hRd.utf)))
    ·exact bytes_cons (by decide) (by decide) (bytes_app (bytes_esc hbk) (bytes_cons (by decide) (by decide) (bytes_cons (by decide) (by decide) hRd.byt)))
    ·have hb' : b.drop p = 34 :: (bytesOf key).flatMap escB ++ 34 :: (58 :: t1 ++ post) := by rw [h]; simp
     have htx := Js.text_back (fun x hx => (hbk x hx).1) hb' (k := K') (by omega)
     have hdq : b.drop (p + ((bytesOf key).flatMap escB).length + 2) = 58 :: t1 ++ post := by
      rw [show p + ((bytesOf key).flatMap escB).length + 2 = p + (34 :: (bytesOf key).flatMap escB ++ [34]).length by simp [-List.length_flatMap]; omega, ← List.drop_drop, hb']
      rw [show 34 :: (bytesOf key).flatMap escB ++ 34 :: (58 :: t1 ++ post) = (34 :: (bytesOf key).flatMap escB ++ [34]) ++ (58 :: t1 ++ post) by simp, List.drop_left]
     have hdq2 : b.drop (p + ((bytesOf key).flatMap escB).length + 2) = 58 :: (t1 ++ post) := hdq
     obtain ⟨a58, hd58⟩ := Js.at_cons hdq2
     obtain ⟨ac, _⟩ := Js.at_cons (c := c1) (s := s1 ++ post) (by rw [hd58, ht1]; simp)
     have hnot : ((v.f2.take i).map bytesOf).contains (bytesOf key) = false := by
      rw [List.contains_eq_any_beq]
      rw [Bool.eq_false_iff]
      intro hany
      apply hsn
      obtain ⟨z, hz, hzz⟩ := List.any_eq_true.1 hany
      obtain ⟨u, hu, rfl⟩ := List.mem_map.1 hz
      have : u = key := (bytes_inj (by simpa using hzz)).symm
      exact List.any_eq_true.2 ⟨u, hu, by simpa using this⟩
     have hval := Js.value_more (hK4 b _ post hd58 ht) (m := K') (by omega)
     rw [Js.pairs, htx]
     simp only
     rw [if_neg (by rw [hnot]; decide), Js.blank_none a58 (by decide)]
     simp only [a58]
     rw [if_pos (by decide), Js.blank_none ac hb1, hval]
     simp only
     rw [hsnoc, List.map_append]
     unfold contP
     rw [show p + (34 :: (bytesOf key).flatMap escB ++ 34 :: 58 :: t1).length = p + ((bytesOf key).flatMap escB).length + 2 + 1 + t1.length by simp [-List.length_flatMap]; omega]
     cases Js.comma b 125 (p + ((bytesOf key).flatMap escB).length + 2 + 1 + t1.length) with
     | no x e => rfl
     | ok t s => cases t <;> rfl
   ·exact .inl ⟨e1, he, max Kp (max Kq K1), fun k hk y0 hy0 => by rw [step k hk y0 hy0, if_neg he]⟩
theorem obj_loop {n D : Nat} (hD : 1 ≤ D ∧ D ≤ 64) (ih : ∀ v x, szS v ≤ n → Light v → x.length + 40000 * szS v ≤ 10000000000000 → ∃ r e, Ev (fun k => Wr.wr k x v (D : Int)) (r, e) ∧ WrOk v D x r e) {v : S25} (h6 : v.f0 = 6) (hlen : v.f2.length = v.f3.length) (hn : szL v.f3 ≤ n) (hL : Light v) :
  ∀ m i : Nat, ∀ y : List Int, v.f3.length - i = m → 1 ≤ i → i ≤ v.f3.length → y.length + 40000 * szL (v.f3.drop i) + 20010 ≤ 10000000000000 → ∃ r e, Ev (fun k => Wr.pl k y v (D : Int) i (v.f2.take i)) (r, e) ∧ ObjOk v D i y r e := by
 intro m
 induction m with
 | zero =>
  intro i y hm h1 hi hy
  have hnone : v.f3[i]? = none := by simp; omega
  have hd : v.f3.drop i = [] := List.drop_eq_nil_of_le (by omega)
  refine ⟨y ++ [125], 0, Ev.of (pl_mono y v D i _) (k := 1) (wr_end hnone (by rw [h6, if_pos rfl]; exact room_ok (by simp; omega))), fun _ => ?_⟩
  refine ⟨[125], [], rfl, Js.V.ascii (by decide) .nil, bytes_cons (by decide) (by decide) bytes_nil, ⟨125, [], rfl, by omega⟩, by rw [hd]; simp [eqL], by rw [hd]; rfl, by simp, 1, fun b p post l h => ?_⟩
  unfold contP
  rw [comma_last (cl := 125) (by decide) (by simpa using h), List.take_of_length_le (by omega)]
  simp
 | succ m im =>
  intro i y hm h1 hi hy
  have hlt : i < v.f3.length := by omega
  have hsz := szL_drop hlt
  have hroom : (if 0 < i then Wr.room y [44] else some y) = some (y ++ [44]) := by rw [if_pos (by omega)]; exact room_ok (by simp; omega)
  rcases obj_part hD ih h6 hlen hn hL hlt (y ++ [44]) (by simp; omega) with ⟨e, he, K, hK⟩ | ⟨t1, r1, hr1, hV1, hB1, ⟨c1, s1, ht1, hb1, _⟩, hlen1, ⟨K, hK⟩, v', hq1, K4, hK4⟩
  ·exact ⟨[], e, Ev.of (pl_mono y v D i _) (k := K + 1) (hK K (Nat.le_refl _) y hroom), fun h0 => absurd h0 he⟩
  ·have hz1 : 1 ≤ szS v.f3[i] := by rw [szS_eq]; omega
   obtain ⟨r, e, hE, hA⟩ := im (i + 1) r1 (by omega) (by omega) (by omega) (by rw [hr1]; simp; omega)
   obtain ⟨K2, hK2⟩ := Ev.at hE
   refine ⟨r, e, Ev.of (pl_mono y v D i _) (k := max K K2 + 1) (by rw [hK _ (Nat.le_max_left _ _) y hroom]; exact hK2 _ (Nat.le_max_right _ _)), fun h0 => ?_⟩
   obtain ⟨t2, vs, hr2, hV2, hB2, ⟨c2, s2, ht2, hc2⟩, hq2, hvl2, hlen2, K3, hK3⟩ := hA h0
   refine ⟨44 :: t1 ++ t2, v' :: vs, by rw [hr2, hr1]; simp, Js.V.ascii (by decide) (hV1.app hV2), bytes_cons (by decide) (by decide) (bytes_app hB1 hB2), ⟨44, t1 ++ t2, by simp, by omega⟩, ?_, ?_, ?_, max K3 K4 + 1, fun b p post l h => ?_⟩
   ·rw [List.drop_eq_getElem_cons hlt, toSs_cons]
    simp only [eqL, hq1, hq2, Bool.and_true]
   ·rw [List.length_cons, hvl2, List.drop_eq_getElem_cons hlt, List.length_cons]
   ·simp only [List.length_append, List.length_cons]
    omega
   ·have hd1 : b.drop (p + 1) = t1 ++ (t2 ++ post) := (Js.at_cons (c := 44) (s := t1 ++ (t2 ++ post)) (by rw [h]; simp)).2
    have hval := hK4 (max K3 K4) (Nat.le_max_right _ _) b (p + 1) (t2 ++ post) l hd1 (by rw [ht2]; exact term_of hc2)
    have hd2 : b.drop (p + 1 + t1.length) = t2 ++ post := by rw [← List.drop_drop, hd1, List.drop_left]
    have hI := hK3 b (p + 1 + t1.length) post (l ++ [v']) hd2
    unfold contP
    rw [comma_next (cl := 125) (c := c1) (s := s1 ++ (t2 ++ post)) (by decide) (by rw [h, ht1]; simp) hb1]
    simp only
    rw [hval, contP_more hI (Nat.le_max_left _ _)]
    simp
    omega
end Go.Proofs.Yteighppcdpaekaa.Pr4
end
section
namespace Go.Proofs.Yteighppcdpaekaa.Pr4
open Go.RowKit Go.Proofs.YteighppcdpaekaaW.PrintWords Go.Proofs.Yteighppcdpaekaa.P
open Go.Proofs.Yteighppcdpaekaa Go.Proofs.Yteighppcdpaekaa.Eq4
open Go.Proofs.Yteighppcdpaekaa.Js (Bytes escB hexd Term Out Val)
set_option linter.unusedVariables false
theorem toSs_length (l : List Val) : (Rd.toSs l).length = l.length := by
 induction l with
 | nil => simp [Rd.toSs]
 | cons a r ih => simp [Rd.toSs, ih]
theorem value_arr {b : List Int} {k d p : Nat} {c : Int} {s : List Int} (hd : d < 64) (h : b.drop p = 91 :: c :: s) (hb : Js.isBlank c = false) : Js.value b (k + 1) d p = if c == 93 then some (.ok (.mk 5 [] [] []) (p + 2)) else Js.items b k (d + 1) [] (p + 1) := by
 obtain ⟨h1, h2⟩ := Js.at_cons h
 obtain ⟨h3, _⟩ := Js.at_cons h2
 rw [Js.value_succ, h1]
 simp only
 rw [if_neg (by decide), if_pos (by decide)]
 unfold Js.arr Js.enter
 rw [if_neg (by omega)]
 simp only
 rw [Js.blank_none h3 hb, h3]
theorem value_obj {b : List Int} {k d p : Nat} {c : Int} {s : List Int} (hd : d < 64) (h : b.drop p = 123 :: c :: s) (hb : Js.isBlank c = false) : Js.value b (k + 1) d p = if c == 125 then some (.ok (.mk 6 [] [] []) (p + 2)) else Js.pairs b k (d + 1) [] [] (p + 1) := by
 obtain ⟨h1, h2⟩ := Js.at_cons h
 obtain ⟨h3, _⟩ := Js.at_cons h2
 rw [Js.value_succ, h1]
 simp only
 rw [if_pos (by decide)]
 unfold Js.obj Js.enter
 rw [if_neg (by omega)]
 simp only
 rw [Js.blank_none h3 hb, h3]
theorem pt_step {k : Nat} {x : List Int} {v : S25} {D : Int} (h56 : v.f0 = 5 ∨ (v.f0 = 6 ∧ v.f2.length = v.f3.length)) (h3 : v.f3.length ≤ 3000) (hx : x.length + 1 < 140737488355328) : Wr.pt (k + 1) x v D = Wr.pl k (x ++ [if v.f0 = 6 then 123 else 91]) v D 0 [] := by
 rw [Wr.pt, if_neg (by omega), if_neg (by omega), room_ok (by simpa using hx)]
theorem wr_parts {k : Nat} {x : List Int} {v : S25} {d : Int} (h56 : v.f0 = 5 ∨ v.f0 = 6) (hd : ¬ 64 ≤ d) : Wr.wr (k + 1) x v d = Wr.pt k x v (d + 1) := by
 rw [Wr.wr, if_neg (by omega), if_neg (by omega), if_neg (by omega), if_neg (by omega), if_neg (by omega), if_pos h56, if_neg hd]
theorem wr_of_pl {x : List Int} {v : S25} {d : Nat} {r : List Int} {e : Int} (h56 : v.f0 = 5 ∨ (v.f0 = 6 ∧ v.f2.length = v.f3.length)) (hd : d < 64) (h3 : v.f3.length ≤ 3000) (hx : x.length + 1 < 140737488355328) {k : Nat} (h : Wr.pl k (x ++ [if v.f0 = 6 then 123 else 91]) v ((d + 1 : Nat) : Int) 0 [] = some (r, e)) : Ev (fun k => Wr.wr k x v (d : Int)) (r, e) := by
 refine Ev.of (wr_mono x v d) (k := k + 2) ?_
 rw [show k + 2 = (k + 1) + 1 by omega, wr_parts (by omega) (by omega), show ((d : Int) + 1) = ((d + 1 : Nat) : Int) by omega, pt_step h56 h3 hx]
 exact h
theorem wr_array {n d : Nat} (hd : d < 64) (ih : ∀ v x, szS v ≤ n → Light v → x.length + 40000 * szS v ≤ 10000000000000 → ∃ r e, Ev (fun k => Wr.wr k x v ((d + 1 : Nat) : Int)) (r, e) ∧ WrOk v (d + 1) x r e) {v : S25} (h5 : v.f0 = 5) (hn : szL v.f3 ≤ n) (hL : Light v) (x : List Int) (hx : x.length + 40000 * szS v ≤ 10000000000000) :
  ∃ r e, Ev (fun k => Wr.wr k x v (d : Int)) (r, e) ∧ WrOk v d x r e := by
 obtain ⟨h3, h2, _, _, hl⟩ := hL.out
 have hsz := szS_eq v
 have hopen : (x ++ [if v.f0 = 6 then (123 : Int) else 91]) = x ++ [91] := by rw [h5, if_neg (by decide)]
 have fin : ∀ {r e k}, Wr.pl k (x ++ [91]) v ((d + 1 : Nat) : Int) 0 [] = some (r, e) → Ev (fun k => Wr.wr k x v (d : Int)) (r, e) := fun {r e k} h => wr_of_pl (.inl h5) hd h3 (by omega) (k := k) (by rw [hopen]; exact h)
 by_cases h0 : v.f3.length = 0
 ·have hnone : v.f3[0]? = none := List.getElem?_eq_none (by omega)
  have hnil : v.f3 = [] := List.length_eq_zero_iff.1 h0
  refine ⟨x ++ [91] ++ [93], 0, fin (k := 1) (wr_end hnone (by rw [h5, if_neg (by decide)]; exact room_ok (by simp; omega))), fun _ => ⟨[91, 93], by simp, ?_, by simp; omega⟩⟩
  refine ⟨⟨91, _, rfl, by decide, by decide, by decide⟩, Js.V.all_ascii (by decide), by intro z hz; simp at hz; omega, .mk 5 [] [] [], 1, ?_, fun b p post h ht => ?_⟩
  ·rw [eqS_eq, if_pos (by simp [Rd.toS, h5]), if_neg (by omega), if_pos (.inl h5), if_neg (by omega), hnil]
   simp [Rd.toS, Rd.toSs, eqL]
  ·rw [value_arr hd (c := 93) (s := post) (by rw [h]; rfl) (by decide)]
   rfl
 ·have hlt : 0 < v.f3.length := by omega
  have hsome : v.f3[0]? = some v.f3[0] := List.getElem?_eq_getElem hlt
  have hszd := szL_drop hlt
  rw [List.drop_zero] at hszd
  replace hszd : szL v.f3 = szS v.f3[0] + szL (v.f3.drop 1) := hszd
  obtain ⟨r1, e1, hE1, hW1⟩ := ih v.f3[0] (x ++ [91]) (Nat.le_trans (szL_mem (List.getElem_mem hlt)) hn) (hl _ (List.getElem_mem hlt)) (by simp; omega)
  obtain ⟨K1, hK1⟩ := Ev.at hE1
  have step : ∀ k, K1 ≤ k → Wr.pl (k + 1) (x ++ [91]) v ((d + 1 : Nat) : Int) 0 [] = if e1 = 0 then Wr.pl k r1 v ((d + 1 : Nat) : Int) (0 + 1) [] else some ([], e1) := by
   intro k hk
   have hw := hK1 k hk
   rw [Wr.pl, hsome]
   simp only
   rw [if_neg (by omega)]
   have hh : Wr.head k (x ++ [91]) v 0 [] = some (x ++ [91], [], 0) := by unfold Wr.head; rw [if_neg (by omega)]
   simp only [hh, if_true, hw]
  by_cases he : e1 = 0
  ·obtain ⟨t1, hr1, hRd, hlen1⟩ := hW1 he
   obtain ⟨r, e, hE, hA⟩ := arr_loop (D := d + 1) (by omega) ih h5 hn hL _ 1 r1 rfl (by omega) (by omega) (by rw [hr1]; simp only [List.length_append, List.length_cons, List.length_nil]; omega)
   obtain ⟨K2, hK2⟩ := Ev.at hE
   refine ⟨r, e, fin (k := max K1 K2 + 1) (by rw [step _ (Nat.le_max_left _ _), if_pos he]; exact hK2 _ (Nat.le_max_right _ _)), fun h0 => ?_⟩
   obtain ⟨t2, vs, hr2, hV2, hB2, ⟨c2, s2, ht2, hc2⟩, hq2, hvl2, hlen2, K3, hK3⟩ := hA h0
   obtain ⟨c1, s1, ht1, hb1, hc93, _⟩ := hRd.fst
   obtain ⟨v', K4, hq1, hK4⟩ := hRd.rd
   refine ⟨91 :: t1 ++ t2, by rw [hr2, hr1]; simp, ⟨⟨91, _, by simp; rfl, by decide, by decide, by decide⟩, Js.V.ascii (by decide) (hRd.utf.app hV2), bytes_cons (by decide) (by decide) (bytes_app hRd.byt hB2), .mk 5 [] [] (v' :: vs), max K3 K4 + 2, ?_, fun b p post h ht => ?_⟩, by simp only [List.length_append, List.length_cons]; omega⟩
   ·have hll : v.f3.length = (v' :: vs).length := by rw [List.length_cons, hvl2, List.length_drop]; omega
    rw [eqS_eq, if_pos (by simp [Rd.toS, h5]), if_neg (by omega), if_pos (.inl h5), if_neg (by omega)]
    simp only [Rd.toS, toSs_length, hll, decide_true, Bool.true_and]
    rw [← List.drop_zero (l := v.f3), List.drop_eq_getElem_cons hlt, toSs_cons]
    simp only [eqL, hq1, hq2, Bool.and_true]
   ·have hd1 : b.drop (p + 1) = t1 ++ (t2 ++ post) := (Js.at_cons (c := 91) (s := t1 ++ (t2 ++ post)) (by rw [h]; simp)).2
    have hval := hK4 b (p + 1) (t2 ++ post) hd1 (by rw [ht2]; exact term_of hc2)
    have hd2 : b.drop (p + 1 + t1.length) = t2 ++ post := by rw [← List.drop_drop, hd1, List.drop_left]
    have hI := hK3 b (p + 1 + t1.length) post ([] ++ [v']) hd2
    rw [show max K3 K4 + 2 = (max K3 K4 + 1) + 1 by omega, value_arr hd (c := c1) (s := s1 ++ (t2 ++ post)) (by rw [h, ht1]; simp) hb1, if_neg (by simpa using hc93),
     items_succ b (max K3 K4) (d + 1) [] (p + 1) (Js.value_more hval (Nat.le_max_right _ _)), contI_more hI (Nat.le_max_left _ _)]
    simp
    omega
  ·exact ⟨[], e1, fin (k := K1 + 1) (by rw [step _ (Nat.le_refl _), if_neg he]), fun h0 => absurd h0 he⟩
theorem wr_object {n d : Nat} (hd : d < 64) (ih : ∀ v x, szS v ≤ n → Light v → x.length + 40000 * szS v ≤ 10000000000000 → ∃ r e, Ev (fun k => Wr.wr k x v ((d + 1 : Nat) : Int)) (r, e) ∧ WrOk v (d + 1) x r e) {v : S25} (h6 : v.f0 = 6) (hlen : v.f2.length = v.f3.length) (hn : szL v.f3 ≤ n) (hL : Light v) (x : List Int) (hx : x.length + 40000 * szS v ≤ 10000000000000) :
  ∃ r e, Ev (fun k => Wr.wr k x v (d : Int)) (r, e) ∧ WrOk v d x r e := by
 obtain ⟨h3, h2, _, _, hl⟩ := hL.out
 have hsz := szS_eq v
 have hopen : (x ++ [if v.f0 = 6 then (123 : Int) else 91]) = x ++ [123] := by rw [h6, if_pos rfl]
 have fin : ∀ {r e k}, Wr.pl k (x ++ [123]) v ((d + 1 : Nat) : Int) 0 [] = some (r, e) → Ev (fun k => Wr.wr k x v (d : Int)) (r, e) := fun {r e k} h => wr_of_pl (.inr ⟨h6, hlen⟩) hd h3 (by omega) (k := k) (by rw [hopen]; exact h)
 by_cases h0 : v.f3.length = 0
 ·have hnone : v.f3[0]? = none := List.getElem?_eq_none (by omega)
  have hnil : v.f3 = [] := List.length_eq_zero_iff.1 h0
  have hnil2 : v.f2 = [] := List.length_eq_zero_iff.1 (by omega)
  refine ⟨x ++ [123] ++ [125], 0, fin (k := 1) (wr_end hnone (by rw [h6, if_pos rfl]; exact room_ok (by simp; omega))), fun _ => ⟨[123, 125], by simp, ?_, by simp; omega⟩⟩
  refine ⟨⟨123, _, rfl, by decide, by decide, by decide⟩, Js.V.all_ascii (by decide), by intro z hz; simp at hz; omega, .mk 6 [] [] [], 1, ?_, fun b p post h ht => ?_⟩
  ·rw [eqS_eq, if_pos (by simp [Rd.toS, h6]), if_neg (by omega), if_pos (.inr h6), if_pos h6, hnil, hnil2]
   simp [Rd.toS, Rd.toSs, eqL, eqK]
  ·rw [value_obj hd (c := 125) (s := post) (by rw [h]; rfl) (by decide)]
   rfl
 ·have hlt : 0 < v.f3.length := by omega
  have hszd := szL_drop hlt
  rw [List.drop_zero] at hszd
  replace hszd : szL v.f3 = szS v.f3[0] + szL (v.f3.drop 1) := hszd
  have hroom : (if 0 < 0 then Wr.room (x ++ [123]) [44] else some (x ++ [123])) = some (x ++ [123]) := by rw [if_neg (by omega)]
  rcases obj_part (D := d + 1) (by omega) ih h6 hlen hn hL hlt (x ++ [123]) (by simp; omega) with ⟨e, he, K, hK⟩ | ⟨t1, r1, hr1, hV1, hB1, ⟨c1, s1, ht1, hb1, hc125⟩, hlen1, ⟨K, hK⟩, v', hq1, K4, hK4⟩
  ·exact ⟨[], e, fin (k := K + 1) (hK K (Nat.le_refl _) (x ++ [123]) hroom), fun h0 => absurd h0 he⟩
  ·have hz1 : 1 ≤ szS v.f3[0] := by rw [szS_eq]; omega
   obtain ⟨r, e, hE, hA⟩ := obj_loop (D := d + 1) (by omega) ih h6 hlen hn hL _ 1 r1 rfl (by omega) (by omega) (by rw [hr1]; simp only [List.length_append, List.length_cons, List.length_nil]; omega)
   obtain ⟨K2, hK2⟩ := Ev.at hE
   refine ⟨r, e, fin (k := max K K2 + 1) (by have := hK (max K K2) (Nat.le_max_left _ _) (x ++ [123]) hroom; rw [List.take_zero] at this; rw [this]; exact hK2 _ (Nat.le_max_right _ _)), fun h0 => ?_⟩
   obtain ⟨t2, vs, hr2, hV2, hB2, ⟨c2, s2, ht2, hc2⟩, hq2, hvl2, hlen2, K3, hK3⟩ := hA h0
   refine ⟨123 :: t1 ++ t2, by rw [hr2, hr1]; simp, ⟨⟨123, _, by simp; rfl, by decide, by decide, by decide⟩, Js.V.ascii (by decide) (hV1.app hV2), bytes_cons (by decide) (by decide) (bytes_app hB1 hB2), .mk 6 [] (v.f2.map bytesOf) (v' :: vs), max K3 K4 + 2, ?_, fun b p post h ht => ?_⟩, by simp only [List.length_append, List.length_cons]; omega⟩
   ·have hll : v.f3.length = (v' :: vs).length := by rw [List.length_cons, hvl2, List.length_drop]; omega
    have hkk : (v.f2.map bytesOf).map strOfNums = v.f2 := by
     rw [List.map_map]
     conv => rhs; rw [← List.map_id v.f2]
     exact List.map_congr_left fun c _ => str_bytes c
    rw [eqS_eq, if_pos (by simp [Rd.toS, h6]), if_neg (by omega), if_pos (.inr h6), if_pos h6]
    simp only [Rd.toS, hkk, toSs_length, hll, decide_true, Bool.true_and, eqK_refl]
    rw [← List.drop_zero (l := v.f3), List.drop_eq_getElem_cons hlt, toSs_cons]
    simp only [eqL, hq1, hq2, Bool.and_true]
   ·have hd1 : b.drop (p + 1) = t1 ++ (t2 ++ post) := (Js.at_cons (c := 123) (s := t1 ++ (t2 ++ post)) (by rw [h]; simp)).2
    have hval := hK4 (max K3 K4) (Nat.le_max_right _ _) b (p + 1) (t2 ++ post) [] hd1 (by rw [ht2]; exact term_of hc2)
    have hd2 : b.drop (p + 1 + t1.length) = t2 ++ post := by rw [← List.drop_drop, hd1, List.drop_left]
    have hI := hK3 b (p + 1 + t1.length) post ([] ++ [v']) hd2
    rw [List.take_zero, List.map_nil] at hval
    rw [show max K3 K4 + 2 = (max K3 K4 + 1) + 1 by omega, value_obj hd (c := c1) (s := s1 ++ (t2 ++ post)) (by rw [h, ht1]; simp) hb1, if_neg (by simpa using hc125), hval, contP_more hI (Nat.le_max_left _ _)]
    simp
    omega
theorem wr_val : ∀ n v x (d : Nat), szS v ≤ n → Light v → x.length + 40000 * szS v ≤ 10000000000000 → d ≤ 64 → ∃ r e, Ev (fun k => Wr.wr k x v (d : Int)) (r, e) ∧ WrOk v d x r e := by
 intro n
 induction n with
 | zero => intro v x d h; rw [szS_eq] at h; omega
 | succ n ih =>
  intro v x d h hL hx hd
  have hsz := szS_eq v
  obtain ⟨h3, h2, h1, _, _⟩ := hL.out
  by_cases e0 : v.f0 = 0
  ·refine ⟨_, 0, Ev.of (wr_mono x v d) (k := 1) (by rw [Wr.wr, if_pos e0, room_ok (by simp; omega)]; rfl), fun _ => ⟨_, rfl, rds_null e0, by simp; omega⟩⟩
  by_cases e1 : v.f0 = 1
  ·refine ⟨_, 0, Ev.of (wr_mono x v d) (k := 1) (by rw [Wr.wr, if_neg e0, if_pos e1, room_ok (by simp; omega)]; rfl), fun _ => ⟨_, rfl, rds_false e1, by simp; omega⟩⟩
  by_cases e2 : v.f0 = 2
  ·refine ⟨_, 0, Ev.of (wr_mono x v d) (k := 1) (by rw [Wr.wr, if_neg e0, if_neg e1, if_pos e2, room_ok (by simp; omega)]; rfl), fun _ => ⟨_, rfl, rds_true e2, by simp; omega⟩⟩
  by_cases e3 : v.f0 = 3
  ·obtain ⟨b, hE, hb⟩ := isNumber_val v.f1 (by omega)
   obtain ⟨K, hK⟩ := Ev.at hE
   have hbl := bytesOf_length v.f1
   cases b with
   | true => exact ⟨_, 0, Ev.of (wr_mono x v d) (k := K + 1) (by rw [Wr.wr, if_neg e0, if_neg e1, if_neg e2, if_pos e3, hK K (Nat.le_refl _)]; simp only; rw [room_ok (by omega)]; rfl), fun _ => ⟨_, rfl, rds_number e3 (hb.1 rfl), by omega⟩⟩
   | false => exact ⟨[], 6, Ev.of (wr_mono x v d) (k := K + 1) (by rw [Wr.wr, if_neg e0, if_neg e1, if_neg e2, if_pos e3, hK K (Nat.le_refl _)]), fun h => absurd h (by decide)⟩
  by_cases e4 : v.f0 = 4
  ·obtain ⟨b, hE, hb⟩ := plain_val v.f1 (by omega)
   obtain ⟨K, hK⟩ := Ev.at hE
   have hbl := bytesOf_length v.f1
   have hel := esc_len (bytesOf v.f1)
   cases b with
   | true =>
    obtain ⟨K2, hK2⟩ := Ev.at (quoted_val v.f1 x (by omega) (by omega))
    exact ⟨_, 0, Ev.of (wr_mono x v d) (k := max K K2 + 1) (by rw [Wr.wr, if_neg e0, if_neg e1, if_neg e2, if_neg e3, if_pos e4, hK _ (Nat.le_max_left _ _)]; simp only; rw [hK2 _ (Nat.le_max_right _ _)]; rfl), fun _ => ⟨_, rfl, rds_string e4 (hb.1 rfl), by simp [-List.length_flatMap]; omega⟩⟩
   | false => exact ⟨[], 10, Ev.of (wr_mono x v d) (k := K + 1) (by rw [Wr.wr, if_neg e0, if_neg e1, if_neg e2, if_neg e3, if_pos e4, hK K (Nat.le_refl _)]), fun h => absurd h (by decide)⟩
  by_cases e56 : v.f0 = 5 ∨ v.f0 = 6
  ·by_cases hdd : d < 64
   ·have ih' : ∀ v x, szS v ≤ n → Light v → x.length + 40000 * szS v ≤ 10000000000000 → ∃ r e, Ev (fun k => Wr.wr k x v ((d + 1 : Nat) : Int)) (r, e) ∧ WrOk v (d + 1) x r e := fun v x h1 h2 h3 => ih v x (d + 1) h1 h2 h3 (by omega)
    by_cases e5 : v.f0 = 5
    ·exact wr_array hdd ih' e5 (by omega) hL x hx
    ·have e6 : v.f0 = 6 := by omega
     by_cases hlen : v.f2.length = v.f3.length
     ·exact wr_object hdd ih' e6 hlen (by omega) hL x hx
     ·refine ⟨[], 6, Ev.of (wr_mono x v d) (k := 2) ?_, fun h => absurd h (by decide)⟩
      rw [show 2 = (0 + 1) + 1 by omega, wr_parts e56 (by omega), Wr.pt, if_pos ⟨e6, hlen⟩]
   ·refine ⟨[], 13, Ev.of (wr_mono x v d) (k := 1) ?_, fun h => absurd h (by decide)⟩
    rw [Wr.wr, if_neg e0, if_neg e1, if_neg e2, if_neg e3, if_neg e4, if_pos e56, if_pos (by omega)]
  ·refine ⟨[], 6, Ev.of (wr_mono x v d) (k := 1) ?_, fun h => absurd h (by decide)⟩
   rw [Wr.wr, if_neg e0, if_neg e1, if_neg e2, if_neg e3, if_neg e4, if_neg e56]
end Go.Proofs.Yteighppcdpaekaa.Pr4
end
section
namespace Go.Proofs.Yteighppcdpaekaa.Js
set_option linter.unusedVariables false
section
variable {b : List Int} {c : Nat}
theorem take_at {p : Nat} (h : p < c) : (b.take c)[p]? = b[p]? := List.getElem?_take_of_lt h
theorem take_past {p : Nat} (h : c ≤ p) : (b.take c)[p]? = none := List.getElem?_eq_none (by rw [List.length_take]; omega)
theorem next_take {p : Nat} (h : p < c) (x : Int) : next (b.take c) p x = next b p x := by unfold next; rw [take_at h]
theorem next_past {p : Nat} (h : c ≤ p) (x : Int) : next (b.take c) p x = false := by unfold next; rw [take_past h]; rfl
theorem digitLen_take (l : List Int) (n : Nat) : digitLen (l.take n) = min (digitLen l) n := by
 induction l generalizing n with
 | nil => simp [digitLen]
 | cons a r ih =>
  cases n with
  | zero => simp [digitLen]
  | succ n =>
   simp only [List.take_succ_cons, digitLen]
   split
   ·rw [ih]; omega
   ·omega
theorem blankLen_take (l : List Int) (n : Nat) : blankLen (l.take n) = min (blankLen l) n := by
 induction l generalizing n with
 | nil => simp [blankLen]
 | cons a r ih =>
  cases n with
  | zero => simp [blankLen]
  | succ n =>
   simp only [List.take_succ_cons, blankLen]
   split
   ·rw [ih]; omega
   ·omega
theorem blank_take {p : Nat} (hp : p ≤ c) : blank (b.take c) p = min (blank b p) c := by
 unfold blank
 rw [List.drop_take, blankLen_take]
 omega
def Cut1 (b : List Int) (c : Nat) (o : Out Unit) (q : Nat) : Prop := (q < c → o = .ok () q) ∧ (c ≤ q → (∃ x, o = .no x 11) ∨ o = .ok () c)
theorem digits_take {p q : Nat} (hp : p ≤ c) (h : digits b p = .ok () q) : Cut1 b c (digits (b.take c) p) q := by
 have hl := digits_le h
 unfold digits at h ⊢
 by_cases hpc : p < c
 ·rw [take_at hpc]
  cases hx : b[p]? with
  | none => simp [hx] at h
  | some x =>
   simp only [hx] at h ⊢
   split at h
   ·rename_i hd
    rw [if_pos hd, List.drop_take, digitLen_take]
    simp at h
    exact ⟨fun h1 => by congr 1; omega, fun h1 => .inr (by congr 1; omega)⟩
   ·cases h
 ·rw [take_past (by omega)]
  exact ⟨fun h1 => by omega, fun h1 => .inl ⟨_, rfl⟩⟩
theorem numSign_take {p q : Nat} (hp : p ≤ c) (h : numSign b p = .ok () q) : Cut1 b c (numSign (b.take c) p) q := by
 have hl := numSign_le h
 unfold numSign at h ⊢
 by_cases hpc : p < c
 ·rw [next_take hpc, next_take hpc]
  split at h
  ·rename_i hc; rw [if_pos hc]; exact digits_take (by omega) h
  ·rename_i hc; rw [if_neg hc]; exact digits_take hp h
 ·rw [next_past (by omega), next_past (by omega)]
  unfold digits
  simp only [Bool.or_self, Bool.false_eq_true, if_false]
  rw [take_past (by omega)]
  exact ⟨fun h1 => by omega, fun h1 => .inl ⟨_, rfl⟩⟩
theorem numExp_take {p q : Nat} (hp : p ≤ c) (hpl : p ≤ b.length) (h : numExp b p = .ok () q) : Cut1 b c (numExp (b.take c) p) q := by
 have hl := numExp_le hpl h
 unfold numExp at h ⊢
 by_cases hpc : p < c
 ·rw [next_take hpc, next_take hpc]
  split at h
  ·rename_i hc; rw [if_pos hc]; exact numSign_take (by omega) h
  ·rename_i hc; rw [if_neg hc]; simp at h; subst h; exact ⟨fun _ => rfl, fun h1 => by omega⟩
 ·rw [next_past (by omega), next_past (by omega)]
  simp only [Bool.or_self, Bool.false_eq_true, if_false]
  exact ⟨fun h1 => by omega, fun h1 => .inr (by congr 1; omega)⟩
theorem numExp_end : numExp (b.take c) c = .ok () c := by
 unfold numExp
 rw [next_past (Nat.le_refl _), next_past (Nat.le_refl _)]
 rfl
theorem numFrac_end : numFrac (b.take c) c = .ok () c := by
 unfold numFrac
 rw [next_past (Nat.le_refl _)]
 exact numExp_end
theorem numFrac_take {p q : Nat} (hp : p ≤ c) (hpl : p ≤ b.length) (h : numFrac b p = .ok () q) : Cut1 b c (numFrac (b.take c) p) q := by
 have hl := numFrac_le hpl h
 by_cases hpc : p < c
 ·unfold numFrac at h ⊢
  rw [next_take hpc]
  split at h
  ·rename_i hc
   rw [if_pos hc]
   cases hd : digits b (p + 1) with
   | no x e => simp [hd] at h
   | ok u r =>
    simp only [hd] at h
    have h1 := digits_le hd
    have h2 := numExp_le h1.2 h
    obtain ⟨a1, a2⟩ := digits_take (c := c) (by omega) hd
    by_cases hr : r < c
    ·rw [a1 hr]
     exact numExp_take (by omega) h1.2 h
    ·rcases a2 (by omega) with ⟨x, hx⟩ | hx
     ·rw [hx]; exact ⟨fun h3 => by omega, fun _ => .inl ⟨_, rfl⟩⟩
     ·rw [hx]
      simp only
      rw [numExp_end]
      exact ⟨fun h3 => by omega, fun _ => .inr rfl⟩
  ·rename_i hc
   rw [if_neg hc]
   exact numExp_take hp hpl h
 ·obtain rfl : p = c := by omega
  rw [numFrac_end]
  exact ⟨fun h1 => by omega, fun h1 => .inr rfl⟩
theorem numInt_take {p q : Nat} (hp : p ≤ c) (h : numInt b p = .ok () q) : Cut1 b c (numInt (b.take c) p) q := by
 have hl := numInt_le h
 unfold numInt at h ⊢
 by_cases hpc : p < c
 ·rw [take_at hpc]
  cases hx : b[p]? with
  | none => simp [hx] at h
  | some x =>
   have hpl := at_lt hx
   simp only [hx] at h ⊢
   split at h
   ·rename_i hc; rw [if_pos hc]; exact numFrac_take (by omega) (by omega) h
   ·rename_i hc
    rw [if_neg hc]
    cases hd : digits b p with
    | no x e => simp [hd] at h
    | ok u r =>
     simp only [hd] at h
     have h1 := digits_le hd
     have h2 := numFrac_le h1.2 h
     obtain ⟨a1, a2⟩ := digits_take (c := c) hp hd
     by_cases hr : r < c
     ·rw [a1 hr]
      exact numFrac_take (by omega) h1.2 h
     ·rcases a2 (by omega) with ⟨x, hx⟩ | hx
      ·rw [hx]; exact ⟨fun h3 => by omega, fun _ => .inl ⟨_, rfl⟩⟩
      ·rw [hx]
       simp only
       rw [numFrac_end]
       exact ⟨fun h3 => by omega, fun _ => .inr rfl⟩
 ·rw [take_past (by omega)]
  exact ⟨fun h1 => by omega, fun h1 => .inl ⟨_, rfl⟩⟩
theorem number_take {p q : Nat} (hp : p ≤ c) (h : number b p = .ok () q) : Cut1 b c (number (b.take c) p) q := by
 unfold number at h ⊢
 by_cases hpc : p < c
 ·rw [next_take hpc]
  split at h
  ·rename_i hc; rw [if_pos hc]; exact numInt_take (by omega) h
  ·rename_i hc; rw [if_neg hc]; exact numInt_take hp h
 ·rw [next_past (by omega)]
  have hl : p ≤ q := by split at h <;> have := numInt_le h <;> omega
  unfold numInt
  simp only [Bool.false_eq_true, if_false]
  rw [take_past (by omega)]
  exact ⟨fun h1 => by omega, fun h1 => .inl ⟨_, rfl⟩⟩
def Cut2 {α : Type} (c : Nat) (o o' : Out α) (q : Nat) : Prop := (q ≤ c → o' = o) ∧ (c < q → ∃ x e, o' = .no x e ∧ (e = 11 ∨ e = 6))
theorem Cut2.past {α : Type} {o : Out α} {q x : Nat} (h : c < q) : Cut2 c o (.no x 11) q := ⟨fun h1 => by omega, fun _ => ⟨x, 11, rfl, .inl rfl⟩⟩
theorem word_take {l : List Int} : ∀ {p q : Nat}, p ≤ c → word b l p = .ok () q → Cut2 c (word b l p) (word (b.take c) l p) q := by
 induction l with
 | nil => intro p q hp h; exact ⟨fun _ => rfl, fun h1 => by simp [word] at h; omega⟩
 | cons a r ih =>
  intro p q hp h
  have hl := word_le h
  by_cases hpc : p < c
  ·simp only [word] at h ⊢
   rw [take_at hpc]
   cases hx : b[p]? with
   | none => simp [hx] at h
   | some x =>
    simp only [hx] at h ⊢
    split at h
    ·rename_i hc; simp only [hc, if_true]; exact ih (by omega) h
    ·cases h
  ·simp only [word]
   rw [take_past (by omega)]
   exact Cut2.past (by simp at hl; omega)
theorem hexTo_take {k : Nat} : ∀ {p q : Nat} {n v : Int}, p ≤ c → hexTo b k n p = .ok v q → Cut2 c (hexTo b k n p) (hexTo (b.take c) k n p) q := by
 induction k with
 | zero => intro p q n v hp h; exact ⟨fun _ => rfl, fun h1 => by simp [hexTo] at h; omega⟩
 | succ k ih =>
  intro p q n v hp h
  have hl := hexTo_le h
  by_cases hpc : p < c
  ·simp only [hexTo] at h ⊢
   rw [take_at hpc]
   cases hx : b[p]? with
   | none => simp [hx] at h
   | some x =>
    simp only [hx] at h ⊢
    cases hd : hexDigit x with
    | none => simp [hd] at h
    | some d => simp only [hd] at h ⊢; exact ih (by omega) h
  ·simp only [hexTo]
   rw [take_past (by omega)]
   exact Cut2.past (by omega)
theorem hex_take {p q : Nat} {v : Int} (hp : p ≤ c) (h : hex b p = .ok v q) : Cut2 c (hex b p) (hex (b.take c) p) q := hexTo_take hp h
theorem unit_take {p q : Nat} {l : List Int} (hp : p ≤ c) (h : unit b p = .ok l q) : Cut2 c (.ok l q) (unit (b.take c) p) q := by
 have hq := unit_le h
 unfold unit at h ⊢
 cases he : hex b p with
 | no x e => simp [he] at h
 | ok n r =>
  have h1 := hex_le he
  obtain ⟨a1, a2⟩ := hex_take hp he
  simp only [he] at h
  by_cases hr : r ≤ c
  ·rw [a1 hr, he]
   simp only
   by_cases hs : 55296 ≤ n ∧ n ≤ 56319
   ·rw [if_pos hs] at h
    rw [if_pos hs]
    cases hn : next b r 92 with
    | false => rw [hn] at h; simp at h
    | true =>
     rw [hn] at h
     simp only [if_true] at h
     cases hx : b[r + 1]? with
     | none => simp [hx] at h
     | some c1 =>
      simp only [hx] at h
      split at h
      ·rename_i hc1
       cases he2 : hex b (r + 2) with
       | no x e => simp [he2] at h
       | ok low s =>
        have h2 := hex_le he2
        simp only [he2] at h
        have hqs : q = s := by
         split at h
         ·cases h
         ·split at h
          ·simp at h; exact h.2.symm
          ·cases h
        by_cases hr0 : r < c
        ·rw [next_take hr0, hn]
         simp only [if_true]
         by_cases hr1 : r + 1 < c
         ·rw [take_at hr1, hx]
          simp only
          rw [if_pos hc1]
          obtain ⟨b1, b2⟩ := hex_take (c := c) (by omega) he2
          by_cases hs2 : s ≤ c
          ·rw [b1 hs2, he2]
           simp only
           exact ⟨fun _ => h, fun h3 => by omega⟩
          ·obtain ⟨x, e, hx2, hee⟩ := b2 (by omega)
           rw [hx2]
           exact ⟨fun h3 => by omega, fun _ => ⟨x, e, rfl, hee⟩⟩
         ·rw [take_past (by omega)]
          exact Cut2.past (by omega)
        ·rw [next_past (by omega)]
         exact ⟨fun h3 => by omega, fun _ => ⟨_, 6, rfl, .inr rfl⟩⟩
      ·cases h
   ·rw [if_neg hs] at h
    rw [if_neg hs]
    have hqr : q = r := by
     split at h
     ·simp at h; exact h.2.symm
     ·cases h
    exact ⟨fun _ => h, fun h3 => by omega⟩
  ·obtain ⟨x, e, hx2, hee⟩ := a2 (by omega)
   have hle : c < q := by
    have hrq : r ≤ q := by
     split at h
     ·split at h
      ·cases hx : b[r + 1]? with
       | none => simp [hx] at h
       | some c1 =>
        simp only [hx] at h
        split at h
        ·cases he2 : hex b (r + 2) with
         | no x e => simp [he2] at h
         | ok low s =>
          have h2 := hex_le he2
          simp only [he2] at h
          split at h
          ·cases h
          ·split at h
           ·simp at h; omega
           ·cases h
        ·cases h
      ·cases h
     ·split at h
      ·simp at h; omega
      ·cases h
    omega
   rw [hx2]
   exact ⟨fun h3 => by omega, fun _ => ⟨x, e, rfl, hee⟩⟩
theorem escape_take {p q : Nat} {l : List Int} (hp : p ≤ c) (h : escape b p = .ok l q) : Cut2 c (.ok l q) (escape (b.take c) p) q := by
 have hq := escape_le h
 by_cases hpc : p < c
 ·by_cases hu : ∃ x, b[p]? = some x ∧ x = 117
  ·obtain ⟨x, hx, rfl⟩ := hu
   have h' : unit b (p + 1) = .ok l q := by
    unfold escape at h
    simp only [hx] at h
    simpa using h
   have := unit_take (c := c) (by omega) h'
   unfold escape
   rw [take_at hpc, hx]
   simpa using this
  ·have hs : escape (b.take c) p = escape b p ∧ q = p + 1 := by
    unfold escape at h ⊢
    rw [take_at hpc]
    cases hx : b[p]? with
    | none => simp [hx] at h
    | some x =>
     simp only [hx] at h ⊢
     have hne : (x == 117) = false := by
      cases hb : x == 117 with
      | false => rfl
      | true => exact absurd ⟨x, hx, by simpa using hb⟩ hu
     rw [hne] at h ⊢
     refine ⟨rfl, ?_⟩
     repeat' split at h
     all_goals first
      | (simp at h; omega)
      | cases h
      | contradiction
   rw [hs.1, h]
   exact ⟨fun _ => rfl, fun h3 => by omega⟩
 ·unfold escape
  rw [take_past (by omega)]
  exact Cut2.past (by omega)
theorem textTo_take {k : Nat} : ∀ {p q : Nat} {out l : List Int}, p ≤ c → textTo b k out p = some (.ok l q) → ∃ o, textTo (b.take c) k out p = some o ∧ Cut2 c (.ok l q) o q := by
 induction k with
 | zero => intro p q out l hp h; simp [textTo] at h
 | succ k ih =>
  intro p q out l hp h
  rw [textTo] at h
  cases hx : b[p]? with
  | none => simp [hx] at h
  | some x =>
   have hpl := at_lt hx
   simp only [hx] at h
   have hq : p < q := by
    have : textTo b (k + 1) out p = some (.ok l q) := by rw [textTo, hx]; exact h
    exact (textTo_le (by omega) this).1
   rw [textTo]
   by_cases hpc : p < c
   ·rw [take_at hpc, hx]
    simp only
    split at h
    ·rename_i hc
     rw [if_pos hc]
     simp at h
     exact ⟨_, rfl, fun _ => by rw [h.1, h.2], fun h3 => by omega⟩
    ·rename_i hc
     rw [if_neg hc]
     split at h
     ·rename_i hc2
      rw [if_pos hc2]
      cases he : escape b (p + 1) with
      | no y e => simp [he] at h
      | ok l2 r =>
       simp only [he] at h
       have hr := escape_le he
       have hrq := textTo_le hr.2 h
       obtain ⟨a1, a2⟩ := escape_take (c := c) (by omega) he
       by_cases hrc : r ≤ c
       ·rw [a1 hrc]
        exact ih hrc h
       ·obtain ⟨y, e, hy, hee⟩ := a2 (by omega)
        rw [hy]
        exact ⟨_, rfl, fun h3 => by omega, fun _ => ⟨y, e, rfl, hee⟩⟩
     ·rename_i hc2
      rw [if_neg hc2]
      split at h
      ·cases h
      ·rename_i hc3
       rw [if_neg hc3]
       exact ih (by omega) h
   ·rw [take_past (by omega)]
    exact ⟨_, rfl, Cut2.past (by omega)⟩
theorem text_take {k p q : Nat} {l : List Int} (hp : p ≤ c) (h : text b k p = some (.ok l q)) : ∃ o, text (b.take c) k p = some o ∧ Cut2 c (.ok l q) o q := by
 have hq := text_le h
 unfold text at h ⊢
 by_cases hpc : p < c
 ·rw [take_at hpc]
  cases hx : b[p]? with
  | none => simp [hx] at h
  | some x =>
   simp only [hx] at h ⊢
   split at h
   ·rename_i hc; rw [if_pos hc]; exact textTo_take (by omega) h
   ·cases h
 ·rw [take_past (by omega)]
  exact ⟨_, rfl, Cut2.past (by omega)⟩
theorem comma_take {p q : Nat} {cl : Int} {t : Bool} (hp : p ≤ c) (hpl : p ≤ b.length) (h : comma b cl p = .ok t q) : (∃ x, comma (b.take c) cl p = .no x 11 ∧ c < q) ∨ (comma (b.take c) cl p = .ok t (min q c) ∧ (t = false → q ≤ c)) := by
 unfold comma at h ⊢
 simp only at h ⊢
 have hb1 := blank_le hpl
 rw [blank_take hp]
 cases hx : b[blank b p]? with
 | none => simp [hx] at h
 | some x =>
  have hbl := at_lt hx
  simp only [hx] at h
  have hb2 := blank_le (b := b) (p := blank b p + 1) (by omega)
  by_cases hlt : blank b p < c
  ·rw [show min (blank b p) c = blank b p by omega, take_at hlt, hx]
   simp only
   right
   split at h
   ·rename_i hc
    rw [if_pos hc]
    simp at h
    obtain ⟨rfl, rfl⟩ := h
    exact ⟨by congr 1; omega, fun _ => by omega⟩
   ·rename_i hc
    rw [if_neg hc]
    split at h
    ·rename_i hc2
     rw [if_pos hc2, blank_take (by omega)]
     simp at h
     obtain ⟨rfl, rfl⟩ := h
     exact ⟨rfl, fun h => by cases h⟩
    ·cases h
  ·left
   rw [show min (blank b p) c = c by omega, take_past (Nat.le_refl _)]
   refine ⟨_, rfl, ?_⟩
   split at h
   ·simp at h; omega
   ·split at h
    ·simp at h; omega
    ·cases h
theorem blank_past' {p : Nat} (h : c ≤ p) : blank (b.take c) p = p := by
 unfold blank
 rw [blank_end (take_past h)]
 rfl
theorem value_past {k d : Nat} : value (b.take c) (k + 1) d c = some (.no c 11) := by rw [value_succ, take_past (Nat.le_refl _)]
end
end Go.Proofs.Yteighppcdpaekaa.Js
end
