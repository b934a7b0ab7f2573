/- Walks and words of this session, put together by a program of this session (pack.py). Conditions: as each text says. -/
import Derived.Lib.SlBytesConst
import Derived.Test.YteighppcdpaekaaDoorG2
import Derived.Test.YteighppcdpaekaaDoorG9
import Derived.Test.YteighppcdpaekaaDoorG10
set_option linter.unusedVariables false
set_option linter.unusedSimpArgs false
section
namespace Go.Proofs.YteighppcdpaekaaDoor.Wr
open Go.RowKit Go.Proofs.YteighppcdpaekaaDoorW.PrintWords
open Go.Proofs.YteighppcdpaekaaDoor Go.Proofs.YteighppcdpaekaaDoor.P Go.Proofs.YteighppcdpaekaaDoor.Rd
open Go.Maps (Keyed IsMap)
def CS (kd : Int) (t : ByteArray) (A2 : Option Addr) (n2 c2 : Nat) (A3 : Option Addr) (n3 c3 : Nat) : Array Value := #[.int .i64 kd, .string t, .slice A2 n2 c2, .slice A3 n3 c3]
section
variable {w0 w wc w2 : World} {P0 : Nat → Prop} {kd : Int} {t : ByteArray} {A2 A3 : Option Addr} {n2 c2 n3 c3 mb m : Nat} {u v1 : Value} {x y : List Int} {D : DataW Unit}
theorem PtS.cel0 (h : PtS w0 w P0 (CS kd t A2 n2 c2 A3 n3 c3) mb wc u x D m) : wc.cell? ⟨w.heap.size, 0, none⟩ = some (.int .i64 kd) := (blk_cell h.vb 0).trans rfl
theorem PtS.cel2 (h : PtS w0 w P0 (CS kd t A2 n2 c2 A3 n3 c3) mb wc u x D m) : wc.cell? ⟨w.heap.size, 2, none⟩ = some (.slice A2 n2 c2) := (blk_cell h.vb 2).trans rfl
theorem PtS.cel3 (h : PtS w0 w P0 (CS kd t A2 n2 c2 A3 n3 c3) mb wc u x D m) : wc.cell? ⟨w.heap.size, 3, none⟩ = some (.slice A3 n3 c3) := (blk_cell h.vb 3).trans rfl
theorem PtS.first {w4 : World} (hR : (Kd.int .u8).R 5 w w0.heap.size P0 u x) (ho : (Kd.int .u8).R 5 w4 w0.heap.size (fun k => P0 k ∨ w.heap.size ≤ k) v1 y) (hb : Below w0.heap.size w0 w4) (hg : (w.alloc (.cells (CS kd t A2 n2 c2 A3 n3 c3) 27 (0, 0))).grownBy w4 u.ownBlock) :
  PtS w0 w P0 (CS kd t A2 n2 c2 A3 n3 c3) w4.heap.size (w4.alloc (.map #[] 0)) v1 y (.map []) 0 := by
 have hR1 : (Kd.int .u8).R 5 (w.alloc (.cells (CS kd t A2 n2 c2 A3 n3 c3) 27 (0, 0))) w0.heap.size (fun k => P0 k ∨ w.heap.size ≤ k) u x := Kd.R_mono (Kd.R_alloc hR _) (fun k hk => .inl hk)
 have hvb : w4.heap[w.heap.size]? = some (.cells (CS kd t A2 n2 c2 A3 n3 c3) 27 (0, 0)) := blk_grown (blk_new w _) hg (Kd.R_ne hR1 (blk_new w _) (by decide))
 exact ⟨below_alloc hb _, (Kept.of_grown hg ((Kept.refl w P0).alloc _) (fun k hk => .inl (hR.1 k hk))).alloc _, blk_alloc hvb _, World.ownsMap_made _ _ _ _, Kd.R_alloc ho _⟩
end
end Go.Proofs.YteighppcdpaekaaDoor.Wr
end
section
namespace Go.Proofs.YteighppcdpaekaaDoor.Wr
open Go.RowKit Go.Proofs.YteighppcdpaekaaDoorW.PrintWords
open Go.Proofs.YteighppcdpaekaaDoor Go.Proofs.YteighppcdpaekaaDoor.P Go.Proofs.YteighppcdpaekaaDoor.Rd
open Go.Maps (Keyed IsMap)
theorem pl_array {j : Nat} {y : List Int} {v : S27} {deep : Int} {i : Nat} {r : List Int} {e : Int} {uu : S27} (h0 : v.f0 = 5) (hu : v.f3[i]? = some uu) (h : pl (j + 1) y v deep i [] = some (r, e)) :
  ∃ y2 z2 e2, (if 0 < i then room y [44] else some y) = some y2 ∧ wr j y2 uu deep = some (z2, e2) ∧ ((e2 = 0 ∧ pl j z2 v deep (i + 1) [] = some (r, e)) ∨ (e2 ≠ 0 ∧ r = [] ∧ e = e2)) := by
 rw [pl, hu] at h
 simp only at h
 cases hy : (if 0 < i then room y [44] else some y) with
 | none => rw [hy] at h; cases h
 | some y2 =>
  rw [hy] at h
  have hd : head j y2 v i [] = some (y2, [], 0) := by unfold head; rw [if_neg (by rw [h0]; decide)]
  simp only [hd, if_true] at h
  cases hw : wr j y2 uu deep with
  | none => rw [hw] at h; cases h
  | some t =>
   obtain ⟨z2, e2⟩ := t
   rw [hw] at h
   simp only at h
   by_cases he : e2 = 0
   ·rw [if_pos he] at h; exact ⟨y2, z2, e2, rfl, hw, .inl ⟨he, h⟩⟩
   ·rw [if_neg he] at h; simp at h; exact ⟨y2, z2, e2, rfl, hw, .inr ⟨he, h.1, h.2.symm⟩⟩
set_option maxRecDepth 100000 in
set_option maxHeartbeats 3200000 in
theorem parts_array {k : Nat} (ih : ∀ i, i < k → OKs 61 (wr i)) {w0 w : World} {P0 : Nat → Prop} {u : Value} {x : List Int} {v : S27} {A2 : Option Addr} {c2 : Nat} {A3 : Option Addr} {c3 : Nat} {deep : Int} {r y : List Int} {e : Int} (hB : Below w0.heap.size w0 w) (h2 : Kd.string.C w0 A2 v.f2.length v.f2) (l2 : v.f2.length ≤ c2) (h3 : k27.C w0 A3 v.f3.length v.f3) (l3 : v.f3.length ≤ c3)
  (hR : (Kd.int .u8).R 5 w w0.heap.size P0 u x) (hd0 : 0 ≤ deep) (hd1 : deep ≤ 1000) (h0 : v.f0 = 5) (hn3 : v.f3.length ≤ 100000000000) (hy : room x [91] = some y) (h : pl k y v deep 0 [] = some (r, e)) :
  Calls Tryd.prog 83 #[u, .agg #[.int .i64 v.f0, .string v.f1, .slice A2 v.f2.length c2, .slice A3 v.f3.length c3], .int .i64 deep] w (WPost w0 w P0 r e) := by
 obtain ⟨hl, rfl⟩ := room_some hy
 have hmm := @run_makeMap Tryd.prog
 have hsz := hB.size
 have hB1 : Below w0.heap.size w0 (w.alloc (.cells #[.int .i64 5, .string v.f1, .slice A2 v.f2.length c2, .slice A3 v.f3.length c3] 27 (0, 0))) := below_alloc hB _
 have hR1 : (Kd.int .u8).R 5 (w.alloc (.cells #[.int .i64 5, .string v.f1, .slice A2 v.f2.length c2, .slice A3 v.f3.length c3] 27 (0, 0))) w0.heap.size (fun k => P0 k ∨ w.heap.size ≤ k) u x := Kd.R_mono (Kd.R_alloc hR _) (fun k hk => .inl hk)
 have hm4 : ∀ v1 w4, (Kd.int .u8).R 5 w4 w0.heap.size (fun k => P0 k ∨ w.heap.size ≤ k) v1 (x ++ [91]) → Below w0.heap.size w0 w4 → (w.alloc (.cells #[.int .i64 5, .string v.f1, .slice A2 v.f2.length c2, .slice A3 v.f3.length c3] 27 (0, 0))).grownBy w4 u.ownBlock → PtS w0 w P0 (CS 5 v.f1 A2 v.f2.length c2 A3 v.f3.length c3) w4.heap.size (w4.alloc (.map #[] 0)) v1 (x ++ [91]) (.map []) 0 := fun v1 w4 ho hb hg => PtS.first hR ho hb hg
 have hm4' := Lib.hid hm4
 clear hm4
 rw [h0]
 have hh := Lib.hid h
 clear h hy
 have hH3 := Lib.hid h3
 clear h3
 have hf0 := Lib.hid h0
 clear h0
 go_enter Tryd.func83, Tryd.ntmps83
 go_wp2_with ((with_reducible refine gate_builtin (b := .append) (xs := #[.tmp 26, .tmp 28]) rfl ?_); at_builtin; go_loud (refine Kd.R_append (Kd.int .u8) (w0 := w0) w0.heap.size rfl (.tmp 26) (.tmp 28) 35 5 (.int .u8 0) 1 rfl Tryd.underlying35 info_5 rfl (by decide) (by omega) u x 91 [.int .u8 91] (fun k => P0 k ∨ w.heap.size ≤ k) (fun _ => False) rfl (by first | rfl | (simp; rfl)) rfl (fun _ hk => hk.elim) (fun k hk => .inr (by simp at hk; omega)) hR1 hB1 (by simp; omega) (by simp at hl; omega) ?_; intro v1 w4 ho hb hg hat; have hP0 := hm4'.out v1 w4 ho hb hg; have q3 := hP0.cel3))
 clear hR1 hB1 hm4' hB h2 l2 hl ho hb hg hat q3 hmm
 generalize hmbe : w4.heap.size = mb at hP0 ⊢
 have hwm : w.heap.size < mb := by subst hmbe; have := blk_lt hP0.vb; have h4 := hP0.mp.lt; simp at this; have hne := map_ne hP0.mp hP0.vb; omega
 go_loopg [0, 34] k (fun kq uv iv wc => ∃ (i : Nat) (y : List Int), iv = .int .i64 (i : Int) ∧ i ≤ v.f3.length ∧ kq ≤ k ∧ Hid (pl kq y v deep i [] = some (r, e)) ∧ PtS w0 w P0 (CS 5 v.f1 A2 v.f2.length c2 A3 v.f3.length c3) mb wc uv y (.map []) 0)
 case atStart => exact ⟨0, _, rfl, by omega, Nat.le_refl _, hh, by subst hmbe; exact hP0⟩
 case round =>
  clear hh hP0
  obtain ⟨i, y, rfl, hin, hkk, hpl, hP⟩ := hrel
  cases gk with
  | zero => exact absurd hpl.out (by simp [pl])
  | succ j =>
   have p0 := hP.cel0
   cases hu : v.f3[i]? with
   | none =>
    have hie : i = v.f3.length := by have := List.getElem?_eq_none_iff.1 hu; omega
    have hge : ¬ i < v.f3.length := by omega
    have ⟨hr1, hr2⟩ : e = 0 ∧ room y [93] = some r := by
     have := hpl.out
     rw [pl, hu] at this
     simp only [hf0.out] at this
     rw [if_neg (by decide)] at this
     cases hrm : room y [93] with
     | none => rw [hrm] at this; cases this
     | some y2 => rw [hrm] at this; simp at this; exact ⟨this.2.symm, by rw [this.1]⟩
    obtain ⟨hl2, hr3⟩ := room_some hr2
    have HE := Lib.hid (And.intro hr1 hr3)
    clear hpl hu hr1 hr2 hr3 hie
    go_wp2_with ((with_reducible refine gate_builtin (b := .append) (xs := #[.tmp 80, .tmp 82]) rfl ?_); at_builtin; go_loud (refine Kd.R_append (Kd.int .u8) (w0 := w0) w0.heap.size rfl (.tmp 80) (.tmp 82) 35 5 (.int .u8 0) 1 rfl Tryd.underlying35 info_5 rfl (by decide) (by omega) u0 y 93 [.int .u8 93] (fun k => P0 k ∨ w.heap.size ≤ k) (fun _ => False) rfl (by first | rfl | (simp; rfl)) rfl (fun _ hk => hk.elim) (fun k hk => .inr (by have := hP.hK.1; omega)) hP.row hP.hB (by have := hP.hB.size; omega) (by simp at hl2; omega) ?_; intro v2 w5 ho hb hg hat))
    refine bodyPost_ret (v := .tuple #[v2, .int .i64 0]) (by simp [results, Tryd.results83, go_sem]) rfl ?_
    obtain ⟨rfl, rfl⟩ := HE.out
    have hP5 := hP.grown hb hg ho
    exact ⟨v2, rfl, hP5.row, hP5.hB, hP5.hK⟩
   | some uu =>
    have hlt : i < v.f3.length := (List.getElem?_eq_some_iff.1 hu).1
    obtain ⟨ad, B2, d2, B3, d3, ea, x0, x1, x2, x3, m2, C2, m3, C3⟩ := at_T27 hH3.out (i : Int) (by omega) (by omega)
    have hru : rd_T27 v.f3 (i : Int) = uu := by unfold rd_T27; rw [Int.toNat_natCast, List.getD_eq_getElem?_getD, hu]; rfl
    rw [hru] at x0 x1 x2 x3 m2 C2 m3 C3
    rw [Int.toNat_natCast] at x0 x1 x2 x3
    cases ea
    have D2 := Lib.hid C2
    have D3 := Lib.hid C3
    clear C2 C3
    replace x0 := (hP.hB.cell (World.block_lt_of_cell? w0 _ x0)).trans x0
    replace x1 := (hP.hB.cell (World.block_lt_of_cell? w0 _ x1)).trans x1
    replace x2 := (hP.hB.cell (World.block_lt_of_cell? w0 _ x2)).trans x2
    replace x3 := (hP.hB.cell (World.block_lt_of_cell? w0 _ x3)).trans x3
    have hru' := Lib.hid hru
    clear hru
    have hpl2 := hpl
    have hu' := Lib.hid hu
    clear hu
    have z0 : (0 : Int) ≤ (i : Int) := by omega
    have z1 : (i : Int) < (v.f3.length : Int) := by omega
    obtain ⟨y2, z2, e2, hy2, hw, hend⟩ := pl_array hf0.out hu'.out hpl.out
    clear hpl
    have hL0 : (wr.alloc (.cells #[.int .i64 uu.f0, .string uu.f1, .slice B2 uu.f2.length d2, .slice B3 uu.f3.length d3] 27 (0, 0))).heap[wr.heap.size]? = some (.cells #[.int .i64 uu.f0, .string uu.f1, .slice B2 uu.f2.length d2, .slice B3 uu.f3.length d3] 27 (0, 0)) := blk_new _ _
    have hPL := hP.alloc (.cells #[.int .i64 uu.f0, .string uu.f1, .slice B2 uu.f2.length d2, .slice B3 uu.f3.length d3] 27 (0, 0))
    have hxl : wr.heap.size < (wr.alloc (.cells #[.int .i64 uu.f0, .string uu.f1, .slice B2 uu.f2.length d2, .slice B3 uu.f3.length d3] 27 (0, 0))).heap.size := blk_lt hL0
    by_cases hi : 0 < i
    ·rw [if_pos hi] at hy2
     obtain ⟨hl2, hy3⟩ := room_some hy2
     have hi2 : (0 : Int) < (i : Int) := by omega
     clear hy2 hpl2
     have hcall := fun W v2 (hW : PtS w0 w P0 (CS 5 v.f1 A2 v.f2.length c2 (some ad) v.f3.length c3) mb W v2 y2 (.map []) 0) => ih j (by omega) w0 W (fun k => some k = v2.ownBlock) v2 y2 uu B2 d2 B3 d3 deep z2 e2 hW.hB D2.out m2 D3.out m3 hW.tight hd0 hd1 hw
     have hy3' := Lib.hid hy3
     clear hy3 hw
     have hne : some wr.heap.size ≠ u0.ownBlock := fun e => by have := Kd.R_lt hP.row _ e.symm; omega
     have pa := hPL.cel0
     have hap : ∀ v2 w5, (Kd.int .u8).R 5 w5 w0.heap.size (fun k => P0 k ∨ w.heap.size ≤ k) v2 (y ++ [44]) → Below w0.heap.size w0 w5 → (wr.alloc (.cells #[.int .i64 uu.f0, .string uu.f1, .slice B2 uu.f2.length d2, .slice B3 uu.f3.length d3] 27 (0, 0))).grownBy w5 u0.ownBlock → PtS w0 w P0 (CS 5 v.f1 A2 v.f2.length c2 (some ad) v.f3.length c3) mb w5 v2 y2 (.map []) 0 ∧ w5.heap[wr.heap.size]? = some (.cells #[.int .i64 uu.f0, .string uu.f1, .slice B2 uu.f2.length d2, .slice B3 uu.f3.length d3] 27 (0, 0)) :=
      fun v2 w5 ho hb hg => ⟨hPL.grown hb hg (by rw [hy3'.out]; exact ho), blk_grown hL0 hg hne⟩
     have hap' := Lib.hid hap
     clear hap
     rcases hend with ⟨he, hpl3⟩ | ⟨he, hr, hee⟩
     ·have hpl3' := Lib.hid hpl3
      clear hpl3
      subst he
      go_wp2_with (first
       | ((with_reducible refine gate_builtin (b := .append) (xs := #[.tmp 41, .tmp 42]) rfl ?_); at_builtin; go_loud (refine Kd.R_append (Kd.int .u8) (w0 := w0) w0.heap.size rfl (.tmp 41) (.tmp 42) 35 5 (.int .u8 0) 1 rfl Tryd.underlying35 info_5 rfl (by decide) (by omega) u0 y 44 [.int .u8 44] (fun k => P0 k ∨ w.heap.size ≤ k) (fun _ => False) rfl (by first | rfl | (simp; rfl)) rfl (fun _ hk => hk.elim) (fun k hk => .inr (by have := hPL.hK.1; omega)) hPL.row hPL.hB (by have := hPL.hB.size; omega) (by simp at hl2; omega) ?_; intro v2 w5 ho hb hg hat; obtain ⟨hP5, hL5⟩ := hap'.out v2 w5 ho hb hg; have pb := hP5.cel0; obtain ⟨b0, b1, b2, b3⟩ := blk4 hL5; clear ho hb hg hat))
       | (go_at_call 61; go_loud (refine (hcall _ _ hP5).mono ?_; rintro e9 w9 ⟨v9, rfl, hR9, hB9, hK9⟩; have hP9 := hP5.kept hB9 hK9 hR9)))
      go_roundg j
      case measure => omega
      case rel => exact ⟨i + 1, z2, by go_num, by omega, by omega, hpl3', hP9⟩
     ·have hrr := Lib.hid (And.intro hr hee)
      clear hr hee
      have he2 : (e2 != 0) = true := by simpa using he
      clear he
      go_wp2_with (first
       | ((with_reducible refine gate_builtin (b := .append) (xs := #[.tmp 41, .tmp 42]) rfl ?_); at_builtin; go_loud (refine Kd.R_append (Kd.int .u8) (w0 := w0) w0.heap.size rfl (.tmp 41) (.tmp 42) 35 5 (.int .u8 0) 1 rfl Tryd.underlying35 info_5 rfl (by decide) (by omega) u0 y 44 [.int .u8 44] (fun k => P0 k ∨ w.heap.size ≤ k) (fun _ => False) rfl (by first | rfl | (simp; rfl)) rfl (fun _ hk => hk.elim) (fun k hk => .inr (by have := hPL.hK.1; omega)) hPL.row hPL.hB (by have := hPL.hB.size; omega) (by simp at hl2; omega) ?_; intro v2 w5 ho hb hg hat; obtain ⟨hP5, hL5⟩ := hap'.out v2 w5 ho hb hg; have pb := hP5.cel0; obtain ⟨b0, b1, b2, b3⟩ := blk4 hL5; clear ho hb hg hat))
       | (go_at_call 61; go_loud (refine (hcall _ _ hP5).mono ?_; rintro e9 w9 ⟨v9, rfl, hR9, hB9, hK9⟩; have hP9 := hP5.kept hB9 hK9 hR9)))
      refine bodyPost_ret (v := .tuple #[.slice none 0 0, .int .i64 e2]) (by simp [results, Tryd.results83, go_sem]) rfl ?_
      obtain ⟨rfl, rfl⟩ := hrr.out
      exact ⟨_, rfl, Kd.R_nil _ _ _ _ _, hP9.hB, hP9.hK⟩
    ·obtain rfl : y2 = y := by rw [if_neg hi] at hy2; simpa using hy2.symm
     have hi2 : ¬ (0 : Int) < (i : Int) := by omega
     clear hy2 hpl2
     have hcall := fun W (hW : PtS w0 w P0 (CS 5 v.f1 A2 v.f2.length c2 (some ad) v.f3.length c3) mb W u0 y2 (.map []) 0) => ih j (by omega) w0 W (fun k => some k = u0.ownBlock) u0 y2 uu B2 d2 B3 d3 deep z2 e2 hW.hB D2.out m2 D3.out m3 hW.tight hd0 hd1 hw
     have pa := hPL.cel0
     clear hw
     rcases hend with ⟨he, hpl3⟩ | ⟨he, hr, hee⟩
     ·have hpl3' := Lib.hid hpl3
      clear hpl3
      subst he
      go_wp2_with (go_at_call 61; go_loud (refine (hcall _ hPL).mono ?_; rintro e9 w9 ⟨v9, rfl, hR9, hB9, hK9⟩; have hP9 := hPL.kept hB9 hK9 hR9))
      go_roundg j
      case measure => omega
      case rel => exact ⟨i + 1, z2, by go_num, by omega, by omega, hpl3', hP9⟩
     ·have hrr := Lib.hid (And.intro hr hee)
      clear hr hee
      have he2 : (e2 != 0) = true := by simpa using he
      clear he
      go_wp2_with (go_at_call 61; go_loud (refine (hcall _ hPL).mono ?_; rintro e9 w9 ⟨v9, rfl, hR9, hB9, hK9⟩; have hP9 := hPL.kept hB9 hK9 hR9))
      refine bodyPost_ret (v := .tuple #[.slice none 0 0, .int .i64 e2]) (by simp [results, Tryd.results83, go_sem]) rfl ?_
      obtain ⟨rfl, rfl⟩ := hrr.out
      exact ⟨_, rfl, Kd.R_nil _ _ _ _ _, hP9.hB, hP9.hK⟩
end Go.Proofs.YteighppcdpaekaaDoor.Wr
end
section
namespace Go.Proofs.YteighppcdpaekaaDoor.Wr
open Go.RowKit Go.Proofs.YteighppcdpaekaaDoorW.PrintWords
open Go.Proofs.YteighppcdpaekaaDoor Go.Proofs.YteighppcdpaekaaDoor.P Go.Proofs.YteighppcdpaekaaDoor.Rd
open Go.Maps (Keyed IsMap)
theorem pl_object {j : Nat} {y : List Int} {v : S27} {deep : Int} {i : Nat} {seen : List ByteArray} {r : List Int} {e : Int} {uu : S27} (h0 : v.f0 = 6) (hu : v.f3[i]? = some uu) (h : pl (j + 1) y v deep i seen = some (r, e)) :
  ∃ y2 key, (if 0 < i then room y [44] else some y) = some y2 ∧ v.f2[i]? = some key ∧ ((json_plain.f j key = some false ∧ r = [] ∧ e = 10) ∨ (json_plain.f j key = some true ∧ (seen.any fun y => decide (y = key)) = true ∧ r = [] ∧ e = 23) ∨
   (json_plain.f j key = some true ∧ ¬ (seen.any fun y => decide (y = key)) = true ∧ ∃ z z2 z3 e2, json_quoted.f j y2 key = some z ∧ room z [58] = some z2 ∧ wr j z2 uu deep = some (z3, e2) ∧ ((e2 = 0 ∧ pl j z3 v deep (i + 1) (seen ++ [key]) = some (r, e)) ∨ (e2 ≠ 0 ∧ r = [] ∧ e = e2)))) := by
 rw [pl, hu] at h
 simp only at h
 cases hy : (if 0 < i then room y [44] else some y) with
 | none => rw [hy] at h; cases h
 | some y2 =>
  rw [hy] at h
  simp only at h
  cases hk : v.f2[i]? with
  | none =>
   have hd : head j y2 v i seen = none := by unfold head; rw [if_pos h0, hk]
   rw [hd] at h
   cases h
  | some key =>
   refine ⟨y2, key, rfl, rfl, ?_⟩
   unfold head at h
   rw [if_pos h0, hk] at h
   simp only at h
   cases hp : json_plain.f j key with
   | none => rw [hp] at h; cases h
   | some t =>
    rw [hp] at h
    cases t with
    | false => simp at h; exact .inl ⟨rfl, h.1, h.2.symm⟩
    | true =>
     simp only at h
     by_cases hs : (seen.any fun y => decide (y = key)) = true
     ·rw [if_pos hs] at h
      simp at h
      exact .inr (.inl ⟨rfl, hs, h.1, h.2.symm⟩)
     ·rw [if_neg hs] at h
      refine .inr (.inr ⟨rfl, hs, ?_⟩)
      cases hq : json_quoted.f j y2 key with
      | none => rw [hq] at h; cases h
      | some z =>
       rw [hq] at h
       simp only at h
       cases hr : room z [58] with
       | none => rw [hr] at h; cases h
       | some z2 =>
        rw [hr] at h
        simp only [if_true] at h
        cases hw : wr j z2 uu deep with
        | none => rw [hw] at h; cases h
        | some t2 =>
         obtain ⟨z3, e2⟩ := t2
         rw [hw] at h
         simp only at h
         by_cases he : e2 = 0
         ·rw [if_pos he] at h; exact ⟨z, z2, z3, e2, rfl, hr, hw, .inl ⟨he, h⟩⟩
         ·rw [if_neg he] at h; simp at h; exact ⟨z, z2, z3, e2, rfl, hr, hw, .inr ⟨he, h.1, h.2.symm⟩⟩
set_option maxRecDepth 100000 in
set_option maxHeartbeats 6400000 in
theorem parts_object {k : Nat} (ih : ∀ i, i < k → OKs 61 (wr i)) {w0 w : World} {P0 : Nat → Prop} {u : Value} {x : List Int} {v : S27} {A2 : Option Addr} {c2 : Nat} {A3 : Option Addr} {c3 : Nat} {deep : Int} {r y : List Int} {e : Int} (hB : Below w0.heap.size w0 w) (h2 : Kd.string.C w0 A2 v.f2.length v.f2) (l2 : v.f2.length ≤ c2) (h3 : k27.C w0 A3 v.f3.length v.f3) (l3 : v.f3.length ≤ c3)
  (hR : (Kd.int .u8).R 5 w w0.heap.size P0 u x) (hd0 : 0 ≤ deep) (hd1 : deep ≤ 1000) (h0 : v.f0 = 6) (hn : v.f2.length = v.f3.length) (hn3 : v.f3.length ≤ 100000000000) (hy : room x [123] = some y) (h : pl k y v deep 0 [] = some (r, e)) :
  Calls Tryd.prog 83 #[u, .agg #[.int .i64 v.f0, .string v.f1, .slice A2 v.f2.length c2, .slice A3 v.f3.length c3], .int .i64 deep] w (WPost w0 w P0 r e) := by
 obtain ⟨hl, rfl⟩ := room_some hy
 have hmm := @run_makeMap Tryd.prog
 have hsz := hB.size
 have hB1 : Below w0.heap.size w0 (w.alloc (.cells #[.int .i64 6, .string v.f1, .slice A2 v.f3.length c2, .slice A3 v.f3.length c3] 27 (0, 0))) := below_alloc hB _
 have hR1 : (Kd.int .u8).R 5 (w.alloc (.cells #[.int .i64 6, .string v.f1, .slice A2 v.f3.length c2, .slice A3 v.f3.length c3] 27 (0, 0))) w0.heap.size (fun k => P0 k ∨ w.heap.size ≤ k) u x := Kd.R_mono (Kd.R_alloc hR _) (fun k hk => .inl hk)
 have hm4 : ∀ v1 w4, (Kd.int .u8).R 5 w4 w0.heap.size (fun k => P0 k ∨ w.heap.size ≤ k) v1 (x ++ [123]) → Below w0.heap.size w0 w4 → (w.alloc (.cells #[.int .i64 6, .string v.f1, .slice A2 v.f3.length c2, .slice A3 v.f3.length c3] 27 (0, 0))).grownBy w4 u.ownBlock → PtS w0 w P0 (CS 6 v.f1 A2 v.f3.length c2 A3 v.f3.length c3) w4.heap.size (w4.alloc (.map #[] 0)) v1 (x ++ [123]) (.map []) 0 := fun v1 w4 ho hb hg => PtS.first hR ho hb hg
 have hm4' := Lib.hid hm4
 clear hm4
 rw [hn] at h2 l2 ⊢
 rw [h0]
 have hh := Lib.hid h
 clear h hy
 have hH2 := Lib.hid h2
 clear h2
 have hH3 := Lib.hid h3
 clear h3
 have hf0 := Lib.hid h0
 clear h0
 have hn' := Lib.hid hn
 clear hn
 go_enter Tryd.func83, Tryd.ntmps83
 go_wp2_with ((with_reducible refine gate_builtin (b := .append) (xs := #[.tmp 26, .tmp 28]) rfl ?_); at_builtin; go_loud (refine Kd.R_append (Kd.int .u8) (w0 := w0) w0.heap.size rfl (.tmp 26) (.tmp 28) 35 5 (.int .u8 0) 1 rfl Tryd.underlying35 info_5 rfl (by decide) (by omega) u x 123 [.int .u8 123] (fun k => P0 k ∨ w.heap.size ≤ k) (fun _ => False) rfl (by first | rfl | (simp; rfl)) rfl (fun _ hk => hk.elim) (fun k hk => .inr (by simp at hk; omega)) hR1 hB1 (by simp; omega) (by simp at hl; omega) ?_; intro v1 w4 ho hb hg hat; have hP0 := hm4'.out v1 w4 ho hb hg; have q3 := hP0.cel3))
 clear hR1 hB1 hm4' hB l2 hl ho hb hg hat q3 hmm
 generalize hmbe : w4.heap.size = mb at hP0 ⊢
 have hwm : w.heap.size < mb := by subst hmbe; have := blk_lt hP0.vb; have h4 := hP0.mp.lt; simp at this; have hne := map_ne hP0.mp hP0.vb; omega
 go_loopg [0, 34] k (fun kq uv iv wc => ∃ (i : Nat) (y : List Int) (D : DataW Unit) (m : Nat) (seen : List ByteArray), iv = .int .i64 (i : Int) ∧ i ≤ v.f3.length ∧ kq ≤ k ∧ Hid (pl kq y v deep i seen = some (r, e)) ∧ SeesB D seen ∧ m ≤ i ∧ PtS w0 w P0 (CS 6 v.f1 A2 v.f3.length c2 A3 v.f3.length c3) mb wc uv y D m)
 case atStart => exact ⟨0, _, _, 0, [], rfl, by omega, Nat.le_refl _, hh, SeesB.nil, Nat.le_refl _, by subst hmbe; exact hP0⟩
 case round =>
  clear hh hP0
  obtain ⟨i, y, D, m, seen, rfl, hin, hkk, hpl, hsee, hmi, hP⟩ := hrel
  cases gk with
  | zero => exact absurd hpl.out (by simp [pl])
  | succ j =>
   have p0 := hP.cel0
   cases hu : v.f3[i]? with
   | none =>
    have hie : i = v.f3.length := by have := List.getElem?_eq_none_iff.1 hu; omega
    have hge : ¬ i < v.f3.length := by omega
    have ⟨hr1, hr2⟩ : e = 0 ∧ room y [125] = some r := by
     have := hpl.out
     rw [pl, hu] at this
     simp only [hf0.out] at this
     rw [if_pos (by trivial)] at this
     cases hrm : room y [125] with
     | none => rw [hrm] at this; cases this
     | some y2 => rw [hrm] at this; simp at this; exact ⟨this.2.symm, by rw [this.1]⟩
    obtain ⟨hl2, hr3⟩ := room_some hr2
    have HE := Lib.hid (And.intro hr1 hr3)
    clear hpl hu hr1 hr2 hr3 hie
    go_wp2_with ((with_reducible refine gate_builtin (b := .append) (xs := #[.tmp 80, .tmp 82]) rfl ?_); at_builtin; go_loud (refine Kd.R_append (Kd.int .u8) (w0 := w0) w0.heap.size rfl (.tmp 80) (.tmp 82) 35 5 (.int .u8 0) 1 rfl Tryd.underlying35 info_5 rfl (by decide) (by omega) u0 y 125 [.int .u8 125] (fun k => P0 k ∨ w.heap.size ≤ k) (fun _ => False) rfl (by first | rfl | (simp; rfl)) rfl (fun _ hk => hk.elim) (fun k hk => .inr (by have := hP.hK.1; omega)) hP.row hP.hB (by have := hP.hB.size; omega) (by simp at hl2; omega) ?_; intro v2 w5 ho hb hg hat))
    refine bodyPost_ret (v := .tuple #[v2, .int .i64 0]) (by simp [results, Tryd.results83, go_sem]) rfl ?_
    obtain ⟨rfl, rfl⟩ := HE.out
    have hP5 := hP.grown hb hg ho
    exact ⟨v2, rfl, hP5.row, hP5.hB, hP5.hK⟩
   | some uu =>
    have hlt : i < v.f3.length := (List.getElem?_eq_some_iff.1 hu).1
    obtain ⟨ad, B2, d2, B3, d3, ea, x0, x1, x2, x3, m2, C2, m3, C3⟩ := at_T27 hH3.out (i : Int) (by omega) (by omega)
    have hru : rd_T27 v.f3 (i : Int) = uu := by unfold rd_T27; rw [Int.toNat_natCast, List.getD_eq_getElem?_getD, hu]; rfl
    rw [hru] at x0 x1 x2 x3 m2 C2 m3 C3
    rw [Int.toNat_natCast] at x0 x1 x2 x3
    obtain ⟨y2, key, hy2, hkey2, hend⟩ := pl_object hf0.out hu hpl.out
    obtain ⟨ak, eb, xk⟩ := Kd.at_string hH2.out (i : Int) (by omega) (by omega)
    have hrk : rdOf ByteArray.empty v.f2 (i : Int) = key := by unfold rdOf; rw [Int.toNat_natCast, List.getD_eq_getElem?_getD, hkey2]; rfl
    rw [hrk, Int.toNat_natCast] at xk
    have hklt := World.block_lt_of_cell? w0 _ xk
    clear hrk hkey2
    cases ea
    cases eb
    have E2 := Lib.hid C2
    have E3 := Lib.hid C3
    clear C2 C3
    replace x0 := (hP.hB.cell (World.block_lt_of_cell? w0 _ x0)).trans x0
    replace x1 := (hP.hB.cell (World.block_lt_of_cell? w0 _ x1)).trans x1
    replace x2 := (hP.hB.cell (World.block_lt_of_cell? w0 _ x2)).trans x2
    replace x3 := (hP.hB.cell (World.block_lt_of_cell? w0 _ x3)).trans x3
    clear hru hu hpl
    have z0 : (0 : Int) ≤ (i : Int) := by omega
    have z1 : (i : Int) < (v.f3.length : Int) := by omega
    have hL0 : (wr.alloc (.cells #[.int .i64 uu.f0, .string uu.f1, .slice B2 uu.f2.length d2, .slice B3 uu.f3.length d3] 27 (0, 0))).heap[wr.heap.size]? = some (.cells #[.int .i64 uu.f0, .string uu.f1, .slice B2 uu.f2.length d2, .slice B3 uu.f3.length d3] 27 (0, 0)) := blk_new _ _
    have hPL := hP.alloc (.cells #[.int .i64 uu.f0, .string uu.f1, .slice B2 uu.f2.length d2, .slice B3 uu.f3.length d3] 27 (0, 0))
    have hxl : wr.heap.size < (wr.alloc (.cells #[.int .i64 uu.f0, .string uu.f1, .slice B2 uu.f2.length d2, .slice B3 uu.f3.length d3] 27 (0, 0))).heap.size := blk_lt hL0
    have hmbl := hP.mp.lt
    have hks : key.size ≤ 100000000000 := by
     have hp1 : ∃ t, json_plain.f j key = some t := by rcases hend with h | h | h <;> exact ⟨_, h.1⟩
     obtain ⟨t, ht⟩ := hp1
     unfold json_plain.f at ht
     split at ht
     ·assumption
     ·cases ht
    have hkey : keyOf Tryd.prog 9 (.string key) = some (.string key.data.toList) := WideMaps.keyOf_string_mk Tryd.underlying9 (by unfold maxLen; omega)
    have hat0 := hsee.2 key
    have pa := hPL.cel0
    have pa2 := hPL.cel2
    have pk0 := (hPL.hB.cell hklt).trans xk
    by_cases hi : 0 < i
    ·rw [if_pos hi] at hy2
     obtain ⟨hl2, hy3⟩ := room_some hy2
     have hi2 : (0 : Int) < (i : Int) := by omega
     clear hy2
     have hy3' := Lib.hid hy3
     clear hy3
     have hne : some wr.heap.size ≠ u0.ownBlock := fun e => by have := Kd.R_lt hP.row _ e.symm; omega
     have hap : ∀ v2 w5, (Kd.int .u8).R 5 w5 w0.heap.size (fun k => P0 k ∨ w.heap.size ≤ k) v2 (y ++ [44]) → Below w0.heap.size w0 w5 → (wr.alloc (.cells #[.int .i64 uu.f0, .string uu.f1, .slice B2 uu.f2.length d2, .slice B3 uu.f3.length d3] 27 (0, 0))).grownBy w5 u0.ownBlock → PtS w0 w P0 (CS 6 v.f1 (some ak) v.f3.length c2 (some ad) v.f3.length c3) mb w5 v2 y2 D m ∧ w5.heap[wr.heap.size]? = some (.cells #[.int .i64 uu.f0, .string uu.f1, .slice B2 uu.f2.length d2, .slice B3 uu.f3.length d3] 27 (0, 0)) :=
      fun v2 w5 ho hb hg => ⟨hPL.grown hb hg (by rw [hy3'.out]; exact ho), blk_grown hL0 hg hne⟩
     have hap' := Lib.hid hap
     clear hap
     rcases hend with ⟨hpn, hrr⟩ | ⟨hpn, hsn, hrr⟩ | ⟨hpn, hsn, z, z2, z3, e2, hq, hz2, hw, hend⟩
     ·have hrr := Lib.hid hrr
      go_wp2_with (first
       | ((with_reducible refine gate_builtin (b := .append) (xs := #[.tmp 41, .tmp 42]) rfl ?_); at_builtin; go_loud (refine Kd.R_append (Kd.int .u8) (w0 := w0) w0.heap.size rfl (.tmp 41) (.tmp 42) 35 5 (.int .u8 0) 1 rfl Tryd.underlying35 info_5 rfl (by decide) (by omega) u0 y 44 [.int .u8 44] (fun k => P0 k ∨ w.heap.size ≤ k) (fun _ => False) rfl (by first | rfl | (simp; rfl)) rfl (fun _ hk => hk.elim) (fun k hk => .inr (by have := hPL.hK.1; omega)) hPL.row hPL.hB (by have := hPL.hB.size; omega) (by simp at hl2; omega) ?_; intro v2 w5 ho hb hg hat; obtain ⟨hP5, hL5⟩ := hap'.out v2 w5 ho hb hg; have pb := hP5.cel0; have pc := hP5.cel2; have pk := (hP5.hB.cell hklt).trans xk; obtain ⟨b0, b1, b2, b3⟩ := blk4 hL5; clear ho hb hg hat))
       | (go_at_call 81; go_loud (refine (json_plain.calls j key false _ hpn).mono ?_; rintro e6 w6 ⟨rfl, hB6⟩; have hP6 := hP5.below hB6; have hL6 := blk_below hL5 hB6)))
      refine bodyPost_ret (v := .tuple #[.slice none 0 0, .int .i64 10]) (by simp [results, Tryd.results83, go_sem]) rfl ?_
      obtain ⟨rfl, rfl⟩ := hrr.out
      exact ⟨_, rfl, Kd.R_nil _ _ _ _ _, hP6.hB, hP6.hK⟩
     ·have hrr := Lib.hid hrr
      rw [if_pos hsn] at hat0
      clear hsn
      go_wp2_with (first
       | ((with_reducible refine gate_builtin (b := .append) (xs := #[.tmp 41, .tmp 42]) rfl ?_); at_builtin; go_loud (refine Kd.R_append (Kd.int .u8) (w0 := w0) w0.heap.size rfl (.tmp 41) (.tmp 42) 35 5 (.int .u8 0) 1 rfl Tryd.underlying35 info_5 rfl (by decide) (by omega) u0 y 44 [.int .u8 44] (fun k => P0 k ∨ w.heap.size ≤ k) (fun _ => False) rfl (by first | rfl | (simp; rfl)) rfl (fun _ hk => hk.elim) (fun k hk => .inr (by have := hPL.hK.1; omega)) hPL.row hPL.hB (by have := hPL.hB.size; omega) (by simp at hl2; omega) ?_; intro v2 w5 ho hb hg hat; obtain ⟨hP5, hL5⟩ := hap'.out v2 w5 ho hb hg; have pb := hP5.cel0; have pc := hP5.cel2; have pk := (hP5.hB.cell hklt).trans xk; obtain ⟨b0, b1, b2, b3⟩ := blk4 hL5; clear ho hb hg hat))
       | (go_at_call 81; go_loud (refine (json_plain.calls j key true _ hpn).mono ?_; rintro e6 w6 ⟨rfl, hB6⟩; have hP6 := hP5.below hB6; have hL6 := blk_below hL5 hB6))
       | (at_lookup; go_loud (refine wpList_lookup_own_int _ rfl _ _ 147 rfl 9 3 .i64 law9 Tryd.underlying147 Tryd.underlying3 (zero3 _) mb m D rfl hP6.mp _ _ rfl hkey ?_; intro cv hat hwc; obtain rfl := lit_inj (hat0.symm.trans hat))))
      refine bodyPost_ret (v := .tuple #[.slice none 0 0, .int .i64 23]) (by simp [results, Tryd.results83, go_sem]) rfl ?_
      obtain ⟨rfl, rfl⟩ := hrr.out
      exact ⟨_, rfl, Kd.R_nil _ _ _ _ _, hP6.hB, hP6.hK⟩
     ·rw [if_neg hsn] at hat0
      have hsee2 := hsee.put (x := key)
      obtain ⟨hl3, rfl⟩ := room_some hz2
      have hcall := fun W v2 (D2 : DataW Unit) (m2' : Nat) (hW : PtS w0 w P0 (CS 6 v.f1 (some ak) v.f3.length c2 (some ad) v.f3.length c3) mb W v2 (z ++ [58]) D2 m2') => ih j (by omega) w0 W (fun k => some k = v2.ownBlock) v2 (z ++ [58]) uu B2 d2 B3 d3 deep z3 e2 hW.hB E2.out m2 E3.out m3 hW.tight hd0 hd1 hw
      have hcall := fun W v2 (hW : PtS w0 w P0 (CS 6 v.f1 (some ak) v.f3.length c2 (some ad) v.f3.length c3) mb W v2 (z ++ [58]) (D.put (.string key.data.toList) (.lit (.int .i64 1))) (m + 1)) => hcall W v2 _ _ hW
      clear hsn hz2 hw
      rcases hend with ⟨he, hpl3⟩ | ⟨he, hr, hee⟩
      ·have hpl3' := Lib.hid hpl3
       clear hpl3
       subst he
       go_wp2_with (first
        | ((with_reducible refine gate_builtin (b := .append) (xs := #[.tmp 41, .tmp 42]) rfl ?_); at_builtin; go_loud (refine Kd.R_append (Kd.int .u8) (w0 := w0) w0.heap.size rfl (.tmp 41) (.tmp 42) 35 5 (.int .u8 0) 1 rfl Tryd.underlying35 info_5 rfl (by decide) (by omega) u0 y 44 [.int .u8 44] (fun k => P0 k ∨ w.heap.size ≤ k) (fun _ => False) rfl (by first | rfl | (simp; rfl)) rfl (fun _ hk => hk.elim) (fun k hk => .inr (by have := hPL.hK.1; omega)) hPL.row hPL.hB (by have := hPL.hB.size; omega) (by simp at hl2; omega) ?_; intro v2 w5 ho hb hg hat; obtain ⟨hP5, hL5⟩ := hap'.out v2 w5 ho hb hg; have pb := hP5.cel0; have pc := hP5.cel2; have pk := (hP5.hB.cell hklt).trans xk; obtain ⟨b0, b1, b2, b3⟩ := blk4 hL5; clear ho hb hg hat))
        | (go_at_call 81; go_loud (refine (json_plain.calls j key true _ hpn).mono ?_; rintro e6 w6 ⟨rfl, hB6⟩; have hP6 := hP5.below hB6; have hL6 := blk_below hL5 hB6))
        | (at_lookup; go_loud (refine wpList_lookup_own_int _ rfl _ _ 147 rfl 9 3 .i64 law9 Tryd.underlying147 Tryd.underlying3 (zero3 _) mb m D rfl hP6.mp _ _ rfl hkey ?_; intro cv hat hwc; obtain rfl := lit_inj (hat0.symm.trans hat)))
        | (at_mapUpdate; go_loud (refine wpList_mapUpdate_own _ rfl _ _ _ 147 rfl 9 3 law9 Tryd.underlying147 _ mb m D rfl hP6.mp (by unfold maxLen; omega) _ _ _ rfl rfl hkey _ [] (plainElem_int Tryd.underlying3 (by decide)) ?_; intro w7 hm7 hg7; have hP7 := hP6.put hwm hsz hm7 hg7; have hL7 := blk_grown hL6 hg7 (fun e => by have := Option.some.inj e; omega)))
        | (go_at_call 82; go_loud (refine (json_quoted.calls j (fun k => some k = _) _ y2 key z w0 _ hP7.hB hP7.tight hq).mono ?_; rintro e8 w8 ⟨v8, rfl, hR8, hB8, hK8⟩; have hP8 := hP7.kept hB8 hK8 hR8; have hL8 := (hK8.2 _ (blk_lt hL7) (Kd.R_ne hP7.row hL7 (by decide))).trans hL7))
        | ((with_reducible refine gate_builtin (b := .append) (xs := #[.tmp 65, .tmp 66]) rfl ?_); at_builtin; go_loud (refine Kd.R_append (Kd.int .u8) (w0 := w0) w0.heap.size rfl (.tmp 65) (.tmp 66) 35 5 (.int .u8 0) 1 rfl Tryd.underlying35 info_5 rfl (by decide) (by omega) v8 z 58 [.int .u8 58] (fun k => P0 k ∨ w.heap.size ≤ k) (fun _ => False) rfl (by first | rfl | (simp; rfl)) rfl (fun _ hk => hk.elim) (fun k hk => .inr (by have := hP8.hK.1; omega)) hP8.row hP8.hB (by have := hP8.hB.size; omega) (by simp at hl3; omega) ?_; intro v9 w9 ho9 hb9 hg9 hat9; have hP9 := hP8.grown hb9 hg9 ho9; have hL9 := blk_grown hL8 hg9 (Kd.R_ne hP8.row hL8 (by decide)); obtain ⟨d0, d1, dd2, dd3⟩ := blk4 hL9; clear ho9 hb9 hg9 hat9))
        | (go_at_call 61; go_loud (refine (hcall _ _ hP9).mono ?_; rintro ea wa ⟨va, rfl, hRa, hBa, hKa⟩; have hPa := hP9.kept hBa hKa hRa)))
       go_roundg j
       case measure => omega
       case rel => exact ⟨i + 1, z3, _, m + 1, _, by go_num, by omega, by omega, hpl3', hsee2, by omega, hPa⟩
      ·have hrr := Lib.hid (And.intro hr hee)
       clear hr hee
       have he2 : (e2 != 0) = true := by simpa using he
       clear he
       go_wp2_with (first
        | ((with_reducible refine gate_builtin (b := .append) (xs := #[.tmp 41, .tmp 42]) rfl ?_); at_builtin; go_loud (refine Kd.R_append (Kd.int .u8) (w0 := w0) w0.heap.size rfl (.tmp 41) (.tmp 42) 35 5 (.int .u8 0) 1 rfl Tryd.underlying35 info_5 rfl (by decide) (by omega) u0 y 44 [.int .u8 44] (fun k => P0 k ∨ w.heap.size ≤ k) (fun _ => False) rfl (by first | rfl | (simp; rfl)) rfl (fun _ hk => hk.elim) (fun k hk => .inr (by have := hPL.hK.1; omega)) hPL.row hPL.hB (by have := hPL.hB.size; omega) (by simp at hl2; omega) ?_; intro v2 w5 ho hb hg hat; obtain ⟨hP5, hL5⟩ := hap'.out v2 w5 ho hb hg; have pb := hP5.cel0; have pc := hP5.cel2; have pk := (hP5.hB.cell hklt).trans xk; obtain ⟨b0, b1, b2, b3⟩ := blk4 hL5; clear ho hb hg hat))
        | (go_at_call 81; go_loud (refine (json_plain.calls j key true _ hpn).mono ?_; rintro e6 w6 ⟨rfl, hB6⟩; have hP6 := hP5.below hB6; have hL6 := blk_below hL5 hB6))
        | (at_lookup; go_loud (refine wpList_lookup_own_int _ rfl _ _ 147 rfl 9 3 .i64 law9 Tryd.underlying147 Tryd.underlying3 (zero3 _) mb m D rfl hP6.mp _ _ rfl hkey ?_; intro cv hat hwc; obtain rfl := lit_inj (hat0.symm.trans hat)))
        | (at_mapUpdate; go_loud (refine wpList_mapUpdate_own _ rfl _ _ _ 147 rfl 9 3 law9 Tryd.underlying147 _ mb m D rfl hP6.mp (by unfold maxLen; omega) _ _ _ rfl rfl hkey _ [] (plainElem_int Tryd.underlying3 (by decide)) ?_; intro w7 hm7 hg7; have hP7 := hP6.put hwm hsz hm7 hg7; have hL7 := blk_grown hL6 hg7 (fun e => by have := Option.some.inj e; omega)))
        | (go_at_call 82; go_loud (refine (json_quoted.calls j (fun k => some k = _) _ y2 key z w0 _ hP7.hB hP7.tight hq).mono ?_; rintro e8 w8 ⟨v8, rfl, hR8, hB8, hK8⟩; have hP8 := hP7.kept hB8 hK8 hR8; have hL8 := (hK8.2 _ (blk_lt hL7) (Kd.R_ne hP7.row hL7 (by decide))).trans hL7))
        | ((with_reducible refine gate_builtin (b := .append) (xs := #[.tmp 65, .tmp 66]) rfl ?_); at_builtin; go_loud (refine Kd.R_append (Kd.int .u8) (w0 := w0) w0.heap.size rfl (.tmp 65) (.tmp 66) 35 5 (.int .u8 0) 1 rfl Tryd.underlying35 info_5 rfl (by decide) (by omega) v8 z 58 [.int .u8 58] (fun k => P0 k ∨ w.heap.size ≤ k) (fun _ => False) rfl (by first | rfl | (simp; rfl)) rfl (fun _ hk => hk.elim) (fun k hk => .inr (by have := hP8.hK.1; omega)) hP8.row hP8.hB (by have := hP8.hB.size; omega) (by simp at hl3; omega) ?_; intro v9 w9 ho9 hb9 hg9 hat9; have hP9 := hP8.grown hb9 hg9 ho9; have hL9 := blk_grown hL8 hg9 (Kd.R_ne hP8.row hL8 (by decide)); obtain ⟨d0, d1, dd2, dd3⟩ := blk4 hL9; clear ho9 hb9 hg9 hat9))
        | (go_at_call 61; go_loud (refine (hcall _ _ hP9).mono ?_; rintro ea wa ⟨va, rfl, hRa, hBa, hKa⟩; have hPa := hP9.kept hBa hKa hRa)))
       refine bodyPost_ret (v := .tuple #[.slice none 0 0, .int .i64 e2]) (by simp [results, Tryd.results83, go_sem]) rfl ?_
       obtain ⟨rfl, rfl⟩ := hrr.out
       exact ⟨_, rfl, Kd.R_nil _ _ _ _ _, hPa.hB, hPa.hK⟩
    ·obtain rfl : y2 = y := by rw [if_neg hi] at hy2; simpa using hy2.symm
     have hi2 : ¬ (0 : Int) < (i : Int) := by omega
     clear hy2
     have hP5 := hPL
     have hL5 := hL0
     rcases hend with ⟨hpn, hrr⟩ | ⟨hpn, hsn, hrr⟩ | ⟨hpn, hsn, z, z2, z3, e2, hq, hz2, hw, hend⟩
     ·have hrr := Lib.hid hrr
      go_wp2_with (first
       | (go_at_call 81; go_loud (refine (json_plain.calls j key false _ hpn).mono ?_; rintro e6 w6 ⟨rfl, hB6⟩; have hP6 := hP5.below hB6; have hL6 := blk_below hL5 hB6)))
      refine bodyPost_ret (v := .tuple #[.slice none 0 0, .int .i64 10]) (by simp [results, Tryd.results83, go_sem]) rfl ?_
      obtain ⟨rfl, rfl⟩ := hrr.out
      exact ⟨_, rfl, Kd.R_nil _ _ _ _ _, hP6.hB, hP6.hK⟩
     ·have hrr := Lib.hid hrr
      rw [if_pos hsn] at hat0
      clear hsn
      go_wp2_with (first
       | (go_at_call 81; go_loud (refine (json_plain.calls j key true _ hpn).mono ?_; rintro e6 w6 ⟨rfl, hB6⟩; have hP6 := hP5.below hB6; have hL6 := blk_below hL5 hB6))
       | (at_lookup; go_loud (refine wpList_lookup_own_int _ rfl _ _ 147 rfl 9 3 .i64 law9 Tryd.underlying147 Tryd.underlying3 (zero3 _) mb m D rfl hP6.mp _ _ rfl hkey ?_; intro cv hat hwc; obtain rfl := lit_inj (hat0.symm.trans hat))))
      refine bodyPost_ret (v := .tuple #[.slice none 0 0, .int .i64 23]) (by simp [results, Tryd.results83, go_sem]) rfl ?_
      obtain ⟨rfl, rfl⟩ := hrr.out
      exact ⟨_, rfl, Kd.R_nil _ _ _ _ _, hP6.hB, hP6.hK⟩
     ·rw [if_neg hsn] at hat0
      have hsee2 := hsee.put (x := key)
      obtain ⟨hl3, rfl⟩ := room_some hz2
      have hcall := fun W v2 (D2 : DataW Unit) (m2' : Nat) (hW : PtS w0 w P0 (CS 6 v.f1 (some ak) v.f3.length c2 (some ad) v.f3.length c3) mb W v2 (z ++ [58]) D2 m2') => ih j (by omega) w0 W (fun k => some k = v2.ownBlock) v2 (z ++ [58]) uu B2 d2 B3 d3 deep z3 e2 hW.hB E2.out m2 E3.out m3 hW.tight hd0 hd1 hw
      have hcall := fun W v2 (hW : PtS w0 w P0 (CS 6 v.f1 (some ak) v.f3.length c2 (some ad) v.f3.length c3) mb W v2 (z ++ [58]) (D.put (.string key.data.toList) (.lit (.int .i64 1))) (m + 1)) => hcall W v2 _ _ hW
      clear hsn hz2 hw
      rcases hend with ⟨he, hpl3⟩ | ⟨he, hr, hee⟩
      ·have hpl3' := Lib.hid hpl3
       clear hpl3
       subst he
       go_wp2_with (first
        | (go_at_call 81; go_loud (refine (json_plain.calls j key true _ hpn).mono ?_; rintro e6 w6 ⟨rfl, hB6⟩; have hP6 := hP5.below hB6; have hL6 := blk_below hL5 hB6))
        | (at_lookup; go_loud (refine wpList_lookup_own_int _ rfl _ _ 147 rfl 9 3 .i64 law9 Tryd.underlying147 Tryd.underlying3 (zero3 _) mb m D rfl hP6.mp _ _ rfl hkey ?_; intro cv hat hwc; obtain rfl := lit_inj (hat0.symm.trans hat)))
        | (at_mapUpdate; go_loud (refine wpList_mapUpdate_own _ rfl _ _ _ 147 rfl 9 3 law9 Tryd.underlying147 _ mb m D rfl hP6.mp (by unfold maxLen; omega) _ _ _ rfl rfl hkey _ [] (plainElem_int Tryd.underlying3 (by decide)) ?_; intro w7 hm7 hg7; have hP7 := hP6.put hwm hsz hm7 hg7; have hL7 := blk_grown hL6 hg7 (fun e => by have := Option.some.inj e; omega)))
        | (go_at_call 82; go_loud (refine (json_quoted.calls j (fun k => some k = _) _ y2 key z w0 _ hP7.hB hP7.tight hq).mono ?_; rintro e8 w8 ⟨v8, rfl, hR8, hB8, hK8⟩; have hP8 := hP7.kept hB8 hK8 hR8; have hL8 := (hK8.2 _ (blk_lt hL7) (Kd.R_ne hP7.row hL7 (by decide))).trans hL7))
        | ((with_reducible refine gate_builtin (b := .append) (xs := #[.tmp 65, .tmp 66]) rfl ?_); at_builtin; go_loud (refine Kd.R_append (Kd.int .u8) (w0 := w0) w0.heap.size rfl (.tmp 65) (.tmp 66) 35 5 (.int .u8 0) 1 rfl Tryd.underlying35 info_5 rfl (by decide) (by omega) v8 z 58 [.int .u8 58] (fun k => P0 k ∨ w.heap.size ≤ k) (fun _ => False) rfl (by first | rfl | (simp; rfl)) rfl (fun _ hk => hk.elim) (fun k hk => .inr (by have := hP8.hK.1; omega)) hP8.row hP8.hB (by have := hP8.hB.size; omega) (by simp at hl3; omega) ?_; intro v9 w9 ho9 hb9 hg9 hat9; have hP9 := hP8.grown hb9 hg9 ho9; have hL9 := blk_grown hL8 hg9 (Kd.R_ne hP8.row hL8 (by decide)); obtain ⟨d0, d1, dd2, dd3⟩ := blk4 hL9; clear ho9 hb9 hg9 hat9))
        | (go_at_call 61; go_loud (refine (hcall _ _ hP9).mono ?_; rintro ea wa ⟨va, rfl, hRa, hBa, hKa⟩; have hPa := hP9.kept hBa hKa hRa)))
       go_roundg j
       case measure => omega
       case rel => exact ⟨i + 1, z3, _, m + 1, _, by go_num, by omega, by omega, hpl3', hsee2, by omega, hPa⟩
      ·have hrr := Lib.hid (And.intro hr hee)
       clear hr hee
       have he2 : (e2 != 0) = true := by simpa using he
       clear he
       go_wp2_with (first
        | (go_at_call 81; go_loud (refine (json_plain.calls j key true _ hpn).mono ?_; rintro e6 w6 ⟨rfl, hB6⟩; have hP6 := hP5.below hB6; have hL6 := blk_below hL5 hB6))
        | (at_lookup; go_loud (refine wpList_lookup_own_int _ rfl _ _ 147 rfl 9 3 .i64 law9 Tryd.underlying147 Tryd.underlying3 (zero3 _) mb m D rfl hP6.mp _ _ rfl hkey ?_; intro cv hat hwc; obtain rfl := lit_inj (hat0.symm.trans hat)))
        | (at_mapUpdate; go_loud (refine wpList_mapUpdate_own _ rfl _ _ _ 147 rfl 9 3 law9 Tryd.underlying147 _ mb m D rfl hP6.mp (by unfold maxLen; omega) _ _ _ rfl rfl hkey _ [] (plainElem_int Tryd.underlying3 (by decide)) ?_; intro w7 hm7 hg7; have hP7 := hP6.put hwm hsz hm7 hg7; have hL7 := blk_grown hL6 hg7 (fun e => by have := Option.some.inj e; omega)))
        | (go_at_call 82; go_loud (refine (json_quoted.calls j (fun k => some k = _) _ y2 key z w0 _ hP7.hB hP7.tight hq).mono ?_; rintro e8 w8 ⟨v8, rfl, hR8, hB8, hK8⟩; have hP8 := hP7.kept hB8 hK8 hR8; have hL8 := (hK8.2 _ (blk_lt hL7) (Kd.R_ne hP7.row hL7 (by decide))).trans hL7))
        | ((with_reducible refine gate_builtin (b := .append) (xs := #[.tmp 65, .tmp 66]) rfl ?_); at_builtin; go_loud (refine Kd.R_append (Kd.int .u8) (w0 := w0) w0.heap.size rfl (.tmp 65) (.tmp 66) 35 5 (.int .u8 0) 1 rfl Tryd.underlying35 info_5 rfl (by decide) (by omega) v8 z 58 [.int .u8 58] (fun k => P0 k ∨ w.heap.size ≤ k) (fun _ => False) rfl (by first | rfl | (simp; rfl)) rfl (fun _ hk => hk.elim) (fun k hk => .inr (by have := hP8.hK.1; omega)) hP8.row hP8.hB (by have := hP8.hB.size; omega) (by simp at hl3; omega) ?_; intro v9 w9 ho9 hb9 hg9 hat9; have hP9 := hP8.grown hb9 hg9 ho9; have hL9 := blk_grown hL8 hg9 (Kd.R_ne hP8.row hL8 (by decide)); obtain ⟨d0, d1, dd2, dd3⟩ := blk4 hL9; clear ho9 hb9 hg9 hat9))
        | (go_at_call 61; go_loud (refine (hcall _ _ hP9).mono ?_; rintro ea wa ⟨va, rfl, hRa, hBa, hKa⟩; have hPa := hP9.kept hBa hKa hRa)))
       refine bodyPost_ret (v := .tuple #[.slice none 0 0, .int .i64 e2]) (by simp [results, Tryd.results83, go_sem]) rfl ?_
       obtain ⟨rfl, rfl⟩ := hrr.out
       exact ⟨_, rfl, Kd.R_nil _ _ _ _ _, hPa.hB, hPa.hK⟩
end Go.Proofs.YteighppcdpaekaaDoor.Wr
end
section
namespace Go.Proofs.YteighppcdpaekaaDoor.Wr
open Go.RowKit Go.Proofs.YteighppcdpaekaaDoorW.PrintWords
open Go.Proofs.YteighppcdpaekaaDoor Go.Proofs.YteighppcdpaekaaDoor.P Go.Proofs.YteighppcdpaekaaDoor.Rd
theorem parts_all {k : Nat} (ih : ∀ i, i < k → OKs 61 (wr i)) : OKs 83 (pt (k + 1)) := by
 intro w0 w P0 u x v A2 c2 A3 c3 deep r e hB h2 l2 h3 l3 hR hd0 hd1 h
 rw [pt] at h
 split at h
 ·rename_i hc
  simp at h
  obtain ⟨rfl, rfl⟩ := h
  exact parts_form hB hc.1 hc.2
 ·rename_i hc
  split at h
  ·cases h
  ·rename_i hn
   split at h
   ·cases h
   ·rename_i y hy
    have h0 : v.f0 = 5 ∨ v.f0 = 6 := Classical.byContradiction fun hne => hn (.inr hne)
    rcases h0 with h0 | h0
    ·rw [h0, if_neg (by decide)] at hy
     exact parts_array ih hB h2 l2 h3 l3 hR hd0 hd1 h0 (by omega) hy h
    ·rw [h0, if_pos rfl] at hy
     exact parts_object ih hB h2 l2 h3 l3 hR hd0 hd1 h0 (Classical.byContradiction fun hne => hc ⟨h0, hne⟩) (by omega) hy h
theorem all_written (k : Nat) : ∀ i, i ≤ k → OKs 61 (wr i) ∧ OKs 83 (pt i) := by
 induction k with
 | zero =>
  intro i hi
  obtain rfl : i = 0 := by omega
  exact ⟨fun w0 w P0 u x v A2 c2 A3 c3 deep r e hB h2 l2 h3 l3 hR hd0 hd1 h => by simp [wr] at h, fun w0 w P0 u x v A2 c2 A3 c3 deep r e hB h2 l2 h3 l3 hR hd0 hd1 h => by simp [pt] at h⟩
 | succ k ih =>
  intro i hi
  by_cases h : i ≤ k
  ·exact ih i h
  ·obtain rfl : i = k + 1 := by omega
   exact ⟨written_all (ih k (Nat.le_refl _)).2, parts_all fun j hj => (ih j (by omega)).1⟩
theorem written_calls (k : Nat) : OKs 61 (wr k) := (all_written k k (Nat.le_refl _)).1
set_option maxRecDepth 100000 in
set_option maxHeartbeats 1600000 in
theorem print_calls {k : Nat} {v : S27} {A2 : Option Addr} {c2 : Nat} {A3 : Option Addr} {c3 : Nat} {w : World} {r : List Int} {e : Int} (h2 : Kd.string.C w A2 v.f2.length v.f2) (l2 : v.f2.length ≤ c2) (h3 : k27.C w A3 v.f3.length v.f3) (l3 : v.f3.length ≤ c3) (h : wr k [] v 0 = some (r, e)) :
  Calls Tryd.prog 40 #[.agg #[.int .i64 v.f0, .string v.f1, .slice A2 v.f2.length c2, .slice A3 v.f3.length c3]] w fun en w' => ∃ v0 : Value, en = .returned (.tuple #[v0, .int .i64 e]) ∧ (Kd.int .u8).R 5 w' w.heap.size (fun _ => True) v0 r ∧ Below w.heap.size w w' := by
 have hc := written_calls k w (w.alloc (.cells #[.int .i64 v.f0, .string v.f1, .slice A2 v.f2.length c2, .slice A3 v.f3.length c3] 27 (0, 0))) (fun _ => False) (.slice none 0 0) [] v A2 c2 A3 c3 0 r e (below_alloc (Below.refl _ _) _) h2 l2 h3 l3 (Kd.R_nil _ _ _ _ _) (by omega) (by omega) h
 clear h h2 h3
 go_enter Tryd.func40, Tryd.ntmps40
 go_wp2_with (go_at_call 61; go_loud (refine hc.mono ?_; rintro e9 w9 ⟨v9, rfl, hR9, hB9, hK9⟩))
 refine bodyPost_ret (v := .tuple #[v9, .int .i64 e]) (by simp [results, Tryd.results40, go_sem]) rfl ?_
 exact ⟨v9, rfl, Kd.R_mono hR9 (fun _ _ => trivial), hB9⟩
end Go.Proofs.YteighppcdpaekaaDoor.Wr
end
section
namespace Go.Proofs.YteighppcdpaekaaDoor.P
open Go.RowKit Go.Proofs.YteighppcdpaekaaDoorW.PrintWords Go.Proofs.YteighppcdpaekaaDoorW.PrintLast Go.Proofs.YteighppcdpaekaaDoorW.PrintMore
attribute [local go_sem] max2_int min2_int max_two min_two max_three min_three max_four min_four
set_option linter.unusedVariables false
set_option linter.unusedSimpArgs false
def json_Print.f (k : Nat) (a0_0 : Int) (a0_1 : ByteArray) (l0_2 : List ByteArray) (l0_3 : List S27) : Option ((List Int) × Int) := Wr.wr k [] ⟨a0_0, a0_1, l0_2, l0_3⟩ 0
theorem json_Print.calls (k : Nat) (a0_0 : Int) (a0_1 : ByteArray) (A0_2 : Option Addr) (c0_2 : Nat) (l0_2 : List ByteArray) (A0_3 : Option Addr) (c0_3 : Nat) (l0_3 : List S27) (r1 : List Int) (r2 : Int) (w : World) (hr0_2 : Kd.C Kd.string w A0_2 l0_2.length l0_2) (hc0_2 : l0_2.length ≤ c0_2) (hr0_3 : Kd.C k27 w A0_3 l0_3.length l0_3) (hc0_3 : l0_3.length ≤ c0_3) (h : json_Print.f k a0_0 a0_1 l0_2 l0_3 = some (r1, r2)) :
  Calls Tryd.prog 40 #[.agg #[.int .i64 a0_0, .string a0_1, .slice A0_2 l0_2.length c0_2, .slice A0_3 l0_3.length c0_3]] w fun e w' => ∃ v0_ : Value, e = .returned (.tuple #[v0_, .int .i64 r2]) ∧ Kd.R (Kd.int .u8) 5 w' w.heap.size (fun _ => True) v0_ r1 ∧ Below w.heap.size w w' :=
 Wr.print_calls (v := ⟨a0_0, a0_1, l0_2, l0_3⟩) hr0_2 hc0_2 hr0_3 hc0_3 h
end Go.Proofs.YteighppcdpaekaaDoor.P
end
section
namespace Go.Proofs.YteighppcdpaekaaDoor.P
open Go.RowKit Go.Proofs.YteighppcdpaekaaDoorW.PrintWords Go.Proofs.YteighppcdpaekaaDoorW.PrintLast Go.Proofs.YteighppcdpaekaaDoorW.PrintMore
attribute [local go_sem] max2_int min2_int max_two min_two max_three min_three max_four min_four
set_option linter.unusedVariables false
set_option linter.unusedSimpArgs false
def wrL : List S27 := [⟨3, ⟨#[49]⟩, [], []⟩, ⟨3, ⟨#[45, 48, 46, 53, 101, 51]⟩, [], []⟩]
theorem wr_parse1 : json_Parse.f 20 [91, 49, 44, 32, 45, 48, 46, 53, 101, 51, 93] = some (5, ⟨#[]⟩, [], wrL, 0, 0) := by kernel_rfl
theorem wr_parse2 : json_Parse.f 20 [91, 48, 49, 93] = some (0, ⟨#[]⟩, [], [], 2, 6) := by kernel_rfl
theorem wr_print : json_Print.f 30 5 ⟨#[]⟩ [] wrL = some ([91, 49, 44, 45, 48, 46, 53, 101, 51, 93], 0) := by kernel_rfl
theorem lit_C (w : World) (e : TypeId) (xs : List Int) (z : Nat × Nat) (hxl : xs.length ≤ 1000) : Kd.C (Kd.int .u8) (w.alloc (.cells (xs.map (Value.int .u8)).toArray e z)) (some ⟨w.heap.size, 0, none⟩) xs.length xs := by
 have hb := blk_new w (.cells (xs.map (Value.int .u8)).toArray e z)
 refine Kd.C_of_reads (enc := Value.int .u8) (d := (0 : Int)) (h1 := fun _ => rfl) ⟨rfl, by omega, fun hn => ⟨_, rfl, fun j hj => ?_⟩⟩
 have ha : (⟨w.heap.size, 0, none⟩ : Addr).add j = ⟨w.heap.size, j, none⟩ := by
  unfold Addr.add
  split
  ·rename_i h0; rw [h0]
  ·simp
 rw [ha]
 simp only [World.cell?, hb]
 simp [List.getD_eq_getElem?_getD, List.getElem?_eq_getElem hj]
def whetstonelaw04_written.f (k : Nat) : Option Bool := some true
set_option maxHeartbeats 1600000 in
set_option maxRecDepth 100000 in
theorem whetstonelaw04_written.calls (k : Nat) (r : Bool) (w : World) (h : whetstonelaw04_written.f k = some r) :
  Calls Tryd.prog 9 #[] w fun e w' => e = .returned (.bool r) ∧ Below w.heap.size w w' := by
 obtain rfl : true = r := Option.some.inj h
 have kc := fun (w : World) (C : Array Value) (n c : Nat) => Lib.run_convert_bytes_const (P := Tryd.prog) w 35 5 C n c Tryd.underlying35 Tryd.underlying5
 go_enter Tryd.func9, Tryd.ntmps9
 go_wp2_with fail
 refine (json_Parse.calls 20 _ _ [91, 49, 44, 32, 45, 48, 46, 53, 101, 51, 93] 5 ⟨#[]⟩ [] wrL 0 0 _ (lit_C w 5 [91, 49, 44, 32, 45, 48, 46, 53, 101, 51, 93] (11, 12) (by decide)) (by decide) wr_parse1).mono ?_
 rintro e1 w1 ⟨v2, v3, rfl, h2, h3, hB1⟩
 obtain ⟨A2, c2, rfl, l2, r2⟩ := Kd.R_reads h2
 obtain ⟨A3, c3, rfl, l3, r3⟩ := Kd.R_reads h3
 go_wp2_with fail
 refine (json_Print.calls 30 5 ⟨#[]⟩ A2 c2 [] A3 c3 wrL _ 0 _ (Kd.C_alloc r2 _) l2 (Kd.C_alloc r3 _) l3 wr_print).mono ?_
 rintro e2 w2 ⟨v0, rfl, h0, hB2⟩
 obtain ⟨A0, c0, rfl, l0, r0⟩ := Kd.R_reads h0
 go_wp2_with fail
 refine (json_Parse.calls 20 _ _ [91, 48, 49, 93] 0 ⟨#[]⟩ [] [] 2 6 _ (lit_C w2 5 [91, 48, 49, 93] (4, 5) (by decide)) (by decide) wr_parse2).mono ?_
 rintro e3 w3 ⟨u2, u3, rfl, g2, g3, hB3⟩
 obtain ⟨D2, d2, rfl, _, _⟩ := Kd.R_reads g2
 obtain ⟨D3, d3, rfl, _, _⟩ := Kd.R_reads g3
 have r0' := Kd.C_below (Kd.C_alloc r0 _) hB3
 have hst : ∀ o, (convert 35 9 (.slice A0 10 c0)).run Tryd.prog (w3.alloc o) = .ok (.string ⟨#[91, 49, 44, 45, 48, 46, 53, 101, 51, 93]⟩) (w3.alloc o) := fun o => (show strOfNums [91, 49, 44, 45, 48, 46, 53, 101, 51, 93] = ⟨#[91, 49, 44, 45, 48, 46, 53, 101, 51, 93]⟩ from by kernel_rfl) ▸ Kd.C_string Tryd.underlying35 Tryd.underlying5 Tryd.underlying9 (Kd.C_alloc r0' o)
 go_wp2_with fail
 go_ret
 exact ⟨rfl, below_alloc (below_step (below_alloc (below_step (below_alloc (below_step (below_alloc (Below.refl _ _) _) hB1) _) hB2) _) hB3) _⟩
end Go.Proofs.YteighppcdpaekaaDoor.P
end
