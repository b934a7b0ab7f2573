/- Walks and words of this session, put together by a program of this session (pack.py). Conditions: as each text says. -/
import Derived.Lib.SlBytesConst
import Derived.Shelf.Strconv.Itoa0
import Derived.Shelf.Strconv.Itoa1
import Derived.Shelf.LaysM
import Derived.Shelf.Strconv.Itoa2
import Derived.Shelf.Strconv.Itoa3
import Derived.Test.YteighppcdpaekaaDoorProg
import Derived.Lib.Hide
import Derived.Test.YteighppcdpaekaaDoorM0
import Derived.Test.YteighppcdpaekaaDoorM1
import Derived.Test.YteighppcdpaekaaDoorM2
import Derived.Test.YteighppcdpaekaaDoorM4
import Derived.Test.YteighppcdpaekaaDoorM5
set_option linter.unusedVariables false
set_option linter.unusedSimpArgs false
section
namespace Go.Proofs.YteighppcdpaekaaDoorW.PrintWords
open Go.RowKit
namespace Kd
section
variable {α : Type} {d : Kd α} {e base n cc g : Nat} {ok ok' okp S : Nat → Prop} {w w1 W W1 : World} {A : Option Addr} {u v v1 : Value} {xs : List α} {x : α} {c : List Value}
theorem N_mono (h : N d e w base ok v xs) (hok : ∀ k, ok k → ok' k) : N d e w base ok' v xs := by
 obtain ⟨h0, rows, hl, hR, hf⟩ := h
 exact ⟨fun k hk => hok k (h0 k hk), rows, hl, hR, fun j x c hx hc => FK_mono (hf j x c hx hc) (fun k hk => ⟨hok k hk.1, hk.2⟩)⟩
theorem N_base (h : N d e w base ok v xs) : ∀ k, v.ownBlock = some k → base ≤ k := by
 obtain ⟨_, rows, _, hR, _⟩ := h
 exact R_base hR
theorem N_ne (h : N d e w base ok v xs) {t : Nat} {cells : Array Value} (hb : w.heap[g]? = some (.cells cells t (0, 0))) (ht : e ≠ t) : some g ≠ v.ownBlock := by
 obtain ⟨_, rows, _, hR, _⟩ := h
 exact R_ne hR hb ht
theorem N_bound (h : N d e w base ok v xs) : N d e w base (fun k => ok k ∧ k < w.heap.size) v xs := by
 have hlt := N_lt h
 obtain ⟨h0, rows, hl, hR, hf⟩ := h
 exact ⟨fun k hk => ⟨h0 k hk, hlt k hk⟩, rows, hl, hR, fun j x c hx hc => FK_mono (FK_bound (hf j x c hx hc)) (fun k hk => ⟨⟨hk.1.1, hk.2⟩, hk.1.2⟩)⟩
theorem N_step (h : N d e w base ok v xs) (hm : ∀ k, ok k → k < w.heap.size → w1.heap[k]? = w.heap[k]?) : N d e w1 base ok v xs := by
 obtain ⟨h0, rows, hl, hR, hf⟩ := h
 exact ⟨h0, rows, hl, R_step hR (fun k hk hlt => hm k (h0 k hk.symm) hlt), fun j x c hx hc => FK_step (hf j x c hx hc) (fun k hk hlt => hm k hk.1 hlt)⟩
theorem N_below (h : N d e w base ok v xs) (hb : Below w.heap.size w w1) : N d e w1 base ok v xs := N_step h (fun k _ hk => hb.block k hk)
theorem N_far (h : N d e w base ok v xs) {p : Addr} (hok : ∀ k, ok k → k ≠ p.block) (u : Value) : N d e (w.setCell p u) base ok v xs := N_step h (fun k ho _ => Below.heap_setCell w p u k (hok k ho))
theorem N_after (h : N d e W base (fun k => ok k ∧ some k ≠ u.ownBlock) v xs) {u1 : Value} (hg : W.grownBy w1 u.ownBlock) (hat : u1.ownBlock = u.ownBlock ∨ ∃ b, u1.ownBlock = some b ∧ W.heap.size ≤ b) : N d e w1 base (fun k => ok k ∧ some k ≠ u1.ownBlock) v xs := by
 refine N_mono (N_step (N_bound h) (fun k hk hlt => hg.block k hlt hk.1.2)) (fun k hk => ⟨hk.1.1, ?_⟩)
 rcases hat with hat | ⟨b, hb, hle⟩
 ·rw [hat]; exact hk.1.2
 ·rw [hb]
  intro he
  injection he with he
  have := hk.2
  omega
theorem N_reads' {n c : Nat} (h : N d e w base ok (.slice A n c) xs) : n = xs.length ∧ n ≤ c ∧ d.C w A xs.length xs := by
 obtain ⟨_, rows, hl, hR, hf⟩ := h
 obtain ⟨hn, hc, hC⟩ := R_reads' hR
 refine ⟨by omega, hc, ?_⟩
 rw [hl] at hC
 refine ⟨rfl, hC.2.1, fun hp => ?_⟩
 obtain ⟨ad, he, hcell⟩ := hC.2.2 hp
 refine ⟨ad, he, fun j p hj => ?_⟩
 have hjl : j < rows.length := by have := (List.getElem?_eq_some_iff.1 hj).1; omega
 obtain ⟨c', hcl, hK, hcc⟩ := hcell j _ (List.getElem?_eq_getElem hjl)
 have hk := FK_now (hf j p _ hj (List.getElem?_eq_getElem hjl))
 refine ⟨c', hcl, ?_, hcc⟩
 rw [show c' = rows[j] from hK.1]
 exact hk
theorem N_F {n : Nat} (h : N d e w base ok (.slice A n cc) xs) : F d w ok A n xs := fun W' hW => by
 have h2 := N_reads' (N_step h hW)
 rw [h2.1]
 exact h2.2.2
end
section
variable {α β : Type} {d : Kd α} {e base base' n m c g N' lo hi : Nat} {ok ok' S : Nat → Prop} {w W w1 : World} {A : Option Addr} {ad : Addr} {u v v1 : Value} {xs : List α}
theorem N_V (h : N d e W base ok v xs) : V d e W base' ok v xs := by
 obtain ⟨A, c, rfl⟩ := N_slice h
 exact ⟨A, c, rfl, (N_reads' h).2.1, N_F h⟩
end
end Kd
end Go.Proofs.YteighppcdpaekaaDoorW.PrintWords
end
section
namespace Go.Proofs.YteighppcdpaekaaDoor.Wr
open Go.RowKit Go.Proofs.YteighppcdpaekaaDoorW.PrintWords
open Go.Proofs.YteighppcdpaekaaDoor Go.Proofs.YteighppcdpaekaaDoor.P Go.Proofs.YteighppcdpaekaaDoor.Rd
open Go.Maps (Keyed IsMap)
def CS (kd : Int) (t : ByteArray) (A2 : Option Addr) (n2 c2 : Nat) (A3 : Option Addr) (n3 c3 : Nat) : Array Value := #[.int .i64 kd, .string t, .slice A2 n2 c2, .slice A3 n3 c3]
section
variable {w0 w wc w2 : World} {P0 : Nat → Prop} {kd : Int} {t : ByteArray} {A2 A3 : Option Addr} {n2 c2 n3 c3 mb m : Nat} {u v1 : Value} {x y : List Int} {D : DataW Unit}
theorem PtS.cel0 (h : PtS w0 w P0 (CS kd t A2 n2 c2 A3 n3 c3) mb wc u x D m) : wc.cell? ⟨w.heap.size, 0, none⟩ = some (.int .i64 kd) := (blk_cell h.vb 0).trans rfl
theorem PtS.cel2 (h : PtS w0 w P0 (CS kd t A2 n2 c2 A3 n3 c3) mb wc u x D m) : wc.cell? ⟨w.heap.size, 2, none⟩ = some (.slice A2 n2 c2) := (blk_cell h.vb 2).trans rfl
theorem PtS.cel3 (h : PtS w0 w P0 (CS kd t A2 n2 c2 A3 n3 c3) mb wc u x D m) : wc.cell? ⟨w.heap.size, 3, none⟩ = some (.slice A3 n3 c3) := (blk_cell h.vb 3).trans rfl
theorem PtS.first {w4 : World} (hR : (Kd.int .u8).R 5 w w0.heap.size P0 u x) (ho : (Kd.int .u8).R 5 w4 w0.heap.size (fun k => P0 k ∨ w.heap.size ≤ k) v1 y) (hb : Below w0.heap.size w0 w4) (hg : (w.alloc (.cells (CS kd t A2 n2 c2 A3 n3 c3) 27 (0, 0))).grownBy w4 u.ownBlock) :
  PtS w0 w P0 (CS kd t A2 n2 c2 A3 n3 c3) w4.heap.size (w4.alloc (.map #[] 0)) v1 y (.map []) 0 := by
 have hR1 : (Kd.int .u8).R 5 (w.alloc (.cells (CS kd t A2 n2 c2 A3 n3 c3) 27 (0, 0))) w0.heap.size (fun k => P0 k ∨ w.heap.size ≤ k) u x := Kd.R_mono (Kd.R_alloc hR _) (fun k hk => .inl hk)
 have hvb : w4.heap[w.heap.size]? = some (.cells (CS kd t A2 n2 c2 A3 n3 c3) 27 (0, 0)) := blk_grown (blk_new w _) hg (Kd.R_ne hR1 (blk_new w _) (by decide))
 exact ⟨below_alloc hb _, (Kept.of_grown hg ((Kept.refl w P0).alloc _) (fun k hk => .inl (hR.1 k hk))).alloc _, blk_alloc hvb _, World.ownsMap_made _ _ _ _, Kd.R_alloc ho _⟩
end
end Go.Proofs.YteighppcdpaekaaDoor.Wr
end
section
namespace Go.Proofs.YteighppcdpaekaaDoor.Wr
open Go.RowKit Go.Proofs.YteighppcdpaekaaDoorW.PrintWords
open Go.Proofs.YteighppcdpaekaaDoor Go.Proofs.YteighppcdpaekaaDoor.P Go.Proofs.YteighppcdpaekaaDoor.Rd
open Go.Maps (Keyed IsMap)
theorem pl_array {j : Nat} {y : List Int} {v : S27} {deep : Int} {i : Nat} {r : List Int} {e : Int} {uu : S27} (h0 : v.f0 = 5) (hu : v.f3[i]? = some uu) (h : pl (j + 1) y v deep i [] = some (r, e)) :
  ∃ y2 z2 e2, (if 0 < i then room y [44] else some y) = some y2 ∧ wr j y2 uu deep = some (z2, e2) ∧ ((e2 = 0 ∧ pl j z2 v deep (i + 1) [] = some (r, e)) ∨ (e2 ≠ 0 ∧ r = [] ∧ e = e2)) := by
 rw [pl, hu] at h
 simp only at h
 cases hy : (if 0 < i then room y [44] else some y) with
 | none => rw [hy] at h; cases h
 | some y2 =>
  rw [hy] at h
  have hd : head j y2 v i [] = some (y2, [], 0) := by unfold head; rw [if_neg (by rw [h0]; decide)]
  simp only [hd, if_true] at h
  cases hw : wr j y2 uu deep with
  | none => rw [hw] at h; cases h
  | some t =>
   obtain ⟨z2, e2⟩ := t
   rw [hw] at h
   simp only at h
   by_cases he : e2 = 0
   ·rw [if_pos he] at h; exact ⟨y2, z2, e2, rfl, hw, .inl ⟨he, h⟩⟩
   ·rw [if_neg he] at h; simp at h; exact ⟨y2, z2, e2, rfl, hw, .inr ⟨he, h.1, h.2.symm⟩⟩
set_option maxRecDepth 100000 in
set_option maxHeartbeats 3200000 in
theorem parts_array {k : Nat} (ih : ∀ i, i < k → OKs 61 (wr i)) {w0 w : World} {P0 : Nat → Prop} {u : Value} {x : List Int} {v : S27} {A2 : Option Addr} {c2 : Nat} {A3 : Option Addr} {c3 : Nat} {deep : Int} {r y : List Int} {e : Int} (hB : Below w0.heap.size w0 w) (h2 : Kd.string.C w0 A2 v.f2.length v.f2) (l2 : v.f2.length ≤ c2) (h3 : k27.C w0 A3 v.f3.length v.f3) (l3 : v.f3.length ≤ c3)
  (hR : (Kd.int .u8).R 5 w w0.heap.size P0 u x) (hd0 : 0 ≤ deep) (hd1 : deep ≤ 1000) (h0 : v.f0 = 5) (hn3 : v.f3.length ≤ 100000000000) (hy : room x [91] = some y) (h : pl k y v deep 0 [] = some (r, e)) :
  Calls Tryd.prog 83 #[u, .agg #[.int .i64 v.f0, .string v.f1, .slice A2 v.f2.length c2, .slice A3 v.f3.length c3], .int .i64 deep] w (WPost w0 w P0 r e) := by
 obtain ⟨hl, rfl⟩ := room_some hy
 have hmm := @run_makeMap Tryd.prog
 have hsz := hB.size
 have hB1 : Below w0.heap.size w0 (w.alloc (.cells #[.int .i64 5, .string v.f1, .slice A2 v.f2.length c2, .slice A3 v.f3.length c3] 27 (0, 0))) := below_alloc hB _
 have hR1 : (Kd.int .u8).R 5 (w.alloc (.cells #[.int .i64 5, .string v.f1, .slice A2 v.f2.length c2, .slice A3 v.f3.length c3] 27 (0, 0))) w0.heap.size (fun k => P0 k ∨ w.heap.size ≤ k) u x := Kd.R_mono (Kd.R_alloc hR _) (fun k hk => .inl hk)
 have hm4 : ∀ v1 w4, (Kd.int .u8).R 5 w4 w0.heap.size (fun k => P0 k ∨ w.heap.size ≤ k) v1 (x ++ [91]) → Below w0.heap.size w0 w4 → (w.alloc (.cells #[.int .i64 5, .string v.f1, .slice A2 v.f2.length c2, .slice A3 v.f3.length c3] 27 (0, 0))).grownBy w4 u.ownBlock → PtS w0 w P0 (CS 5 v.f1 A2 v.f2.length c2 A3 v.f3.length c3) w4.heap.size (w4.alloc (.map #[] 0)) v1 (x ++ [91]) (.map []) 0 := fun v1 w4 ho hb hg => PtS.first hR ho hb hg
 have hm4' := Lib.hid hm4
 clear hm4
 rw [h0]
 have hh := Lib.hid h
 clear h hy
 have hH3 := Lib.hid h3
 clear h3
 have hf0 := Lib.hid h0
 clear h0
 go_enter Tryd.func83, Tryd.ntmps83
 go_wp2_with ((with_reducible refine gate_builtin (b := .append) (xs := #[.tmp 26, .tmp 28]) rfl ?_); at_builtin; go_loud (refine Kd.R_append (Kd.int .u8) (w0 := w0) w0.heap.size rfl (.tmp 26) (.tmp 28) 35 5 (.int .u8 0) 1 rfl Tryd.underlying35 info_5 rfl (by decide) (by omega) u x 91 [.int .u8 91] (fun k => P0 k ∨ w.heap.size ≤ k) (fun _ => False) rfl (by first | rfl | (simp; rfl)) rfl (fun _ hk => hk.elim) (fun k hk => .inr (by simp at hk; omega)) hR1 hB1 (by simp; omega) (by simp at hl; omega) ?_; intro v1 w4 ho hb hg hat; have hP0 := hm4'.out v1 w4 ho hb hg; have q3 := hP0.cel3))
 clear hR1 hB1 hm4' hB h2 l2 hl ho hb hg hat q3 hmm
 generalize hmbe : w4.heap.size = mb at hP0 ⊢
 have hwm : w.heap.size < mb := by subst hmbe; have := blk_lt hP0.vb; have h4 := hP0.mp.lt; simp at this; have hne := map_ne hP0.mp hP0.vb; omega
 go_loopg [0, 34] k (fun kq uv iv wc => ∃ (i : Nat) (y : List Int), iv = .int .i64 (i : Int) ∧ i ≤ v.f3.length ∧ kq ≤ k ∧ Hid (pl kq y v deep i [] = some (r, e)) ∧ PtS w0 w P0 (CS 5 v.f1 A2 v.f2.length c2 A3 v.f3.length c3) mb wc uv y (.map []) 0)
 case atStart => exact ⟨0, _, rfl, by omega, Nat.le_refl _, hh, by subst hmbe; exact hP0⟩
 case round =>
  clear hh hP0
  obtain ⟨i, y, rfl, hin, hkk, hpl, hP⟩ := hrel
  cases gk with
  | zero => exact absurd hpl.out (by simp [pl])
  | succ j =>
   have p0 := hP.cel0
   cases hu : v.f3[i]? with
   | none =>
    have hie : i = v.f3.length := by have := List.getElem?_eq_none_iff.1 hu; omega
    have hge : ¬ i < v.f3.length := by omega
    have ⟨hr1, hr2⟩ : e = 0 ∧ room y [93] = some r := by
     have := hpl.out
     rw [pl, hu] at this
     simp only [hf0.out] at this
     rw [if_neg (by decide)] at this
     cases hrm : room y [93] with
     | none => rw [hrm] at this; cases this
     | some y2 => rw [hrm] at this; simp at this; exact ⟨this.2.symm, by rw [this.1]⟩
    obtain ⟨hl2, hr3⟩ := room_some hr2
    have HE := Lib.hid (And.intro hr1 hr3)
    clear hpl hu hr1 hr2 hr3 hie
    go_wp2_with ((with_reducible refine gate_builtin (b := .append) (xs := #[.tmp 80, .tmp 82]) rfl ?_); at_builtin; go_loud (refine Kd.R_append (Kd.int .u8) (w0 := w0) w0.heap.size rfl (.tmp 80) (.tmp 82) 35 5 (.int .u8 0) 1 rfl Tryd.underlying35 info_5 rfl (by decide) (by omega) u0 y 93 [.int .u8 93] (fun k => P0 k ∨ w.heap.size ≤ k) (fun _ => False) rfl (by first | rfl | (simp; rfl)) rfl (fun _ hk => hk.elim) (fun k hk => .inr (by have := hP.hK.1; omega)) hP.row hP.hB (by have := hP.hB.size; omega) (by simp at hl2; omega) ?_; intro v2 w5 ho hb hg hat))
    refine bodyPost_ret (v := .tuple #[v2, .int .i64 0]) (by simp [results, Tryd.results83, go_sem]) rfl ?_
    obtain ⟨rfl, rfl⟩ := HE.out
    have hP5 := hP.grown hb hg ho
    exact ⟨v2, rfl, hP5.row, hP5.hB, hP5.hK⟩
   | some uu =>
    have hlt : i < v.f3.length := (List.getElem?_eq_some_iff.1 hu).1
    obtain ⟨ad, B2, d2, B3, d3, ea, x0, x1, x2, x3, m2, C2, m3, C3⟩ := at_T27 hH3.out (i : Int) (by omega) (by omega)
    have hru : rd_T27 v.f3 (i : Int) = uu := by unfold rd_T27; rw [Int.toNat_natCast, List.getD_eq_getElem?_getD, hu]; rfl
    rw [hru] at x0 x1 x2 x3 m2 C2 m3 C3
    rw [Int.toNat_natCast] at x0 x1 x2 x3
    cases ea
    have D2 := Lib.hid C2
    have D3 := Lib.hid C3
    clear C2 C3
    replace x0 := (hP.hB.cell (World.block_lt_of_cell? w0 _ x0)).trans x0
    replace x1 := (hP.hB.cell (World.block_lt_of_cell? w0 _ x1)).trans x1
    replace x2 := (hP.hB.cell (World.block_lt_of_cell? w0 _ x2)).trans x2
    replace x3 := (hP.hB.cell (World.block_lt_of_cell? w0 _ x3)).trans x3
    have hru' := Lib.hid hru
    clear hru
    have hpl2 := hpl
    have hu' := Lib.hid hu
    clear hu
    have z0 : (0 : Int) ≤ (i : Int) := by omega
    have z1 : (i : Int) < (v.f3.length : Int) := by omega
    obtain ⟨y2, z2, e2, hy2, hw, hend⟩ := pl_array hf0.out hu'.out hpl.out
    clear hpl
    have hL0 : (wr.alloc (.cells #[.int .i64 uu.f0, .string uu.f1, .slice B2 uu.f2.length d2, .slice B3 uu.f3.length d3] 27 (0, 0))).heap[wr.heap.size]? = some (.cells #[.int .i64 uu.f0, .string uu.f1, .slice B2 uu.f2.length d2, .slice B3 uu.f3.length d3] 27 (0, 0)) := blk_new _ _
    have hPL := hP.alloc (.cells #[.int .i64 uu.f0, .string uu.f1, .slice B2 uu.f2.length d2, .slice B3 uu.f3.length d3] 27 (0, 0))
    have hxl : wr.heap.size < (wr.alloc (.cells #[.int .i64 uu.f0, .string uu.f1, .slice B2 uu.f2.length d2, .slice B3 uu.f3.length d3] 27 (0, 0))).heap.size := blk_lt hL0
    by_cases hi : 0 < i
    ·rw [if_pos hi] at hy2
     obtain ⟨hl2, hy3⟩ := room_some hy2
     have hi2 : (0 : Int) < (i : Int) := by omega
     clear hy2 hpl2
     have hcall := fun W v2 (hW : PtS w0 w P0 (CS 5 v.f1 A2 v.f2.length c2 (some ad) v.f3.length c3) mb W v2 y2 (.map []) 0) => ih j (by omega) w0 W (fun k => some k = v2.ownBlock) v2 y2 uu B2 d2 B3 d3 deep z2 e2 hW.hB D2.out m2 D3.out m3 hW.tight hd0 hd1 hw
     have hy3' := Lib.hid hy3
     clear hy3 hw
     have hne : some wr.heap.size ≠ u0.ownBlock := fun e => by have := Kd.R_lt hP.row _ e.symm; omega
     have pa := hPL.cel0
     have hap : ∀ v2 w5, (Kd.int .u8).R 5 w5 w0.heap.size (fun k => P0 k ∨ w.heap.size ≤ k) v2 (y ++ [44]) → Below w0.heap.size w0 w5 → (wr.alloc (.cells #[.int .i64 uu.f0, .string uu.f1, .slice B2 uu.f2.length d2, .slice B3 uu.f3.length d3] 27 (0, 0))).grownBy w5 u0.ownBlock → PtS w0 w P0 (CS 5 v.f1 A2 v.f2.length c2 (some ad) v.f3.length c3) mb w5 v2 y2 (.map []) 0 ∧ w5.heap[wr.heap.size]? = some (.cells #[.int .i64 uu.f0, .string uu.f1, .slice B2 uu.f2.length d2, .slice B3 uu.f3.length d3] 27 (0, 0)) :=
      fun v2 w5 ho hb hg => ⟨hPL.grown hb hg (by rw [hy3'.out]; exact ho), blk_grown hL0 hg hne⟩
     have hap' := Lib.hid hap
     clear hap
     rcases hend with ⟨he, hpl3⟩ | ⟨he, hr, hee⟩
     ·have hpl3' := Lib.hid hpl3
      clear hpl3
      subst he
      go_wp2_with (first
       | ((with_reducible refine gate_builtin (b := .append) (xs := #[.tmp 41, .tmp 42]) rfl ?_); at_builtin; go_loud (refine Kd.R_append (Kd.int .u8) (w0 := w0) w0.heap.size rfl (.tmp 41) (.tmp 42) 35 5 (.int .u8 0) 1 rfl Tryd.underlying35 info_5 rfl (by decide) (by omega) u0 y 44 [.int .u8 44] (fun k => P0 k ∨ w.heap.size ≤ k) (fun _ => False) rfl (by first | rfl | (simp; rfl)) rfl (fun _ hk => hk.elim) (fun k hk => .inr (by have := hPL.hK.1; omega)) hPL.row hPL.hB (by have := hPL.hB.size; omega) (by simp at hl2; omega) ?_; intro v2 w5 ho hb hg hat; obtain ⟨hP5, hL5⟩ := hap'.out v2 w5 ho hb hg; have pb := hP5.cel0; obtain ⟨b0, b1, b2, b3⟩ := blk4 hL5; clear ho hb hg hat))
       | (go_at_call 61; go_loud (refine (hcall _ _ hP5).mono ?_; rintro e9 w9 ⟨v9, rfl, hR9, hB9, hK9⟩; have hP9 := hP5.kept hB9 hK9 hR9)))
      go_roundg j
      case measure => omega
      case rel => exact ⟨i + 1, z2, by go_num, by omega, by omega, hpl3', hP9⟩
     ·have hrr := Lib.hid (And.intro hr hee)
      clear hr hee
      have he2 : (e2 != 0) = true := by simpa using he
      clear he
      go_wp2_with (first
       | ((with_reducible refine gate_builtin (b := .append) (xs := #[.tmp 41, .tmp 42]) rfl ?_); at_builtin; go_loud (refine Kd.R_append (Kd.int .u8) (w0 := w0) w0.heap.size rfl (.tmp 41) (.tmp 42) 35 5 (.int .u8 0) 1 rfl Tryd.underlying35 info_5 rfl (by decide) (by omega) u0 y 44 [.int .u8 44] (fun k => P0 k ∨ w.heap.size ≤ k) (fun _ => False) rfl (by first | rfl | (simp; rfl)) rfl (fun _ hk => hk.elim) (fun k hk => .inr (by have := hPL.hK.1; omega)) hPL.row hPL.hB (by have := hPL.hB.size; omega) (by simp at hl2; omega) ?_; intro v2 w5 ho hb hg hat; obtain ⟨hP5, hL5⟩ := hap'.out v2 w5 ho hb hg; have pb := hP5.cel0; obtain ⟨b0, b1, b2, b3⟩ := blk4 hL5; clear ho hb hg hat))
       | (go_at_call 61; go_loud (refine (hcall _ _ hP5).mono ?_; rintro e9 w9 ⟨v9, rfl, hR9, hB9, hK9⟩; have hP9 := hP5.kept hB9 hK9 hR9)))
      refine bodyPost_ret (v := .tuple #[.slice none 0 0, .int .i64 e2]) (by simp [results, Tryd.results83, go_sem]) rfl ?_
      obtain ⟨rfl, rfl⟩ := hrr.out
      exact ⟨_, rfl, Kd.R_nil _ _ _ _ _, hP9.hB, hP9.hK⟩
    ·obtain rfl : y2 = y := by rw [if_neg hi] at hy2; simpa using hy2.symm
     have hi2 : ¬ (0 : Int) < (i : Int) := by omega
     clear hy2 hpl2
     have hcall := fun W (hW : PtS w0 w P0 (CS 5 v.f1 A2 v.f2.length c2 (some ad) v.f3.length c3) mb W u0 y2 (.map []) 0) => ih j (by omega) w0 W (fun k => some k = u0.ownBlock) u0 y2 uu B2 d2 B3 d3 deep z2 e2 hW.hB D2.out m2 D3.out m3 hW.tight hd0 hd1 hw
     have pa := hPL.cel0
     clear hw
     rcases hend with ⟨he, hpl3⟩ | ⟨he, hr, hee⟩
     ·have hpl3' := Lib.hid hpl3
      clear hpl3
      subst he
      go_wp2_with (go_at_call 61; go_loud (refine (hcall _ hPL).mono ?_; rintro e9 w9 ⟨v9, rfl, hR9, hB9, hK9⟩; have hP9 := hPL.kept hB9 hK9 hR9))
      go_roundg j
      case measure => omega
      case rel => exact ⟨i + 1, z2, by go_num, by omega, by omega, hpl3', hP9⟩
     ·have hrr := Lib.hid (And.intro hr hee)
      clear hr hee
      have he2 : (e2 != 0) = true := by simpa using he
      clear he
      go_wp2_with (go_at_call 61; go_loud (refine (hcall _ hPL).mono ?_; rintro e9 w9 ⟨v9, rfl, hR9, hB9, hK9⟩; have hP9 := hPL.kept hB9 hK9 hR9))
      refine bodyPost_ret (v := .tuple #[.slice none 0 0, .int .i64 e2]) (by simp [results, Tryd.results83, go_sem]) rfl ?_
      obtain ⟨rfl, rfl⟩ := hrr.out
      exact ⟨_, rfl, Kd.R_nil _ _ _ _ _, hP9.hB, hP9.hK⟩
end Go.Proofs.YteighppcdpaekaaDoor.Wr
end
section
namespace Go.Proofs.YteighppcdpaekaaDoor.Wr
open Go.RowKit Go.Proofs.YteighppcdpaekaaDoorW.PrintWords
open Go.Proofs.YteighppcdpaekaaDoor Go.Proofs.YteighppcdpaekaaDoor.P Go.Proofs.YteighppcdpaekaaDoor.Rd
open Go.Maps (Keyed IsMap)
theorem pl_object {j : Nat} {y : List Int} {v : S27} {deep : Int} {i : Nat} {seen : List ByteArray} {r : List Int} {e : Int} {uu : S27} (h0 : v.f0 = 6) (hu : v.f3[i]? = some uu) (h : pl (j + 1) y v deep i seen = some (r, e)) :
  ∃ y2 key, (if 0 < i then room y [44] else some y) = some y2 ∧ v.f2[i]? = some key ∧ ((json_plain.f j key = some false ∧ r = [] ∧ e = 10) ∨ (json_plain.f j key = some true ∧ (seen.any fun y => decide (y = key)) = true ∧ r = [] ∧ e = 23) ∨
   (json_plain.f j key = some true ∧ ¬ (seen.any fun y => decide (y = key)) = true ∧ ∃ z z2 z3 e2, json_quoted.f j y2 key = some z ∧ room z [58] = some z2 ∧ wr j z2 uu deep = some (z3, e2) ∧ ((e2 = 0 ∧ pl j z3 v deep (i + 1) (seen ++ [key]) = some (r, e)) ∨ (e2 ≠ 0 ∧ r = [] ∧ e = e2)))) := by
 rw [pl, hu] at h
 simp only at h
 cases hy : (if 0 < i then room y [44] else some y) with
 | none => rw [hy] at h; cases h
 | some y2 =>
  rw [hy] at h
  simp only at h
  cases hk : v.f2[i]? with
  | none =>
   have hd : head j y2 v i seen = none := by unfold head; rw [if_pos h0, hk]
   rw [hd] at h
   cases h
  | some key =>
   refine ⟨y2, key, rfl, rfl, ?_⟩
   unfold head at h
   rw [if_pos h0, hk] at h
   simp only at h
   cases hp : json_plain.f j key with
   | none => rw [hp] at h; cases h
   | some t =>
    rw [hp] at h
    cases t with
    | false => simp at h; exact .inl ⟨rfl, h.1, h.2.symm⟩
    | true =>
     simp only at h
     by_cases hs : (seen.any fun y => decide (y = key)) = true
     ·rw [if_pos hs] at h
      simp at h
      exact .inr (.inl ⟨rfl, hs, h.1, h.2.symm⟩)
     ·rw [if_neg hs] at h
      refine .inr (.inr ⟨rfl, hs, ?_⟩)
      cases hq : json_quoted.f j y2 key with
      | none => rw [hq] at h; cases h
      | some z =>
       rw [hq] at h
       simp only at h
       cases hr : room z [58] with
       | none => rw [hr] at h; cases h
       | some z2 =>
        rw [hr] at h
        simp only [if_true] at h
        cases hw : wr j z2 uu deep with
        | none => rw [hw] at h; cases h
        | some t2 =>
         obtain ⟨z3, e2⟩ := t2
         rw [hw] at h
         simp only at h
         by_cases he : e2 = 0
         ·rw [if_pos he] at h; exact ⟨z, z2, z3, e2, rfl, hr, hw, .inl ⟨he, h⟩⟩
         ·rw [if_neg he] at h; simp at h; exact ⟨z, z2, z3, e2, rfl, hr, hw, .inr ⟨he, h.1, h.2.symm⟩⟩
set_option maxRecDepth 100000 in
set_option maxHeartbeats 6400000 in
theorem parts_object {k : Nat} (ih : ∀ i, i < k → OKs 61 (wr i)) {w0 w : World} {P0 : Nat → Prop} {u : Value} {x : List Int} {v : S27} {A2 : Option Addr} {c2 : Nat} {A3 : Option Addr} {c3 : Nat} {deep : Int} {r y : List Int} {e : Int} (hB : Below w0.heap.size w0 w) (h2 : Kd.string.C w0 A2 v.f2.length v.f2) (l2 : v.f2.length ≤ c2) (h3 : k27.C w0 A3 v.f3.length v.f3) (l3 : v.f3.length ≤ c3)
  (hR : (Kd.int .u8).R 5 w w0.heap.size P0 u x) (hd0 : 0 ≤ deep) (hd1 : deep ≤ 1000) (h0 : v.f0 = 6) (hn : v.f2.length = v.f3.length) (hn3 : v.f3.length ≤ 100000000000) (hy : room x [123] = some y) (h : pl k y v deep 0 [] = some (r, e)) :
  Calls Tryd.prog 83 #[u, .agg #[.int .i64 v.f0, .string v.f1, .slice A2 v.f2.length c2, .slice A3 v.f3.length c3], .int .i64 deep] w (WPost w0 w P0 r e) := by
 obtain ⟨hl, rfl⟩ := room_some hy
 have hmm := @run_makeMap Tryd.prog
 have hsz := hB.size
 have hB1 : Below w0.heap.size w0 (w.alloc (.cells #[.int .i64 6, .string v.f1, .slice A2 v.f3.length c2, .slice A3 v.f3.length c3] 27 (0, 0))) := below_alloc hB _
 have hR1 : (Kd.int .u8).R 5 (w.alloc (.cells #[.int .i64 6, .string v.f1, .slice A2 v.f3.length c2, .slice A3 v.f3.length c3] 27 (0, 0))) w0.heap.size (fun k => P0 k ∨ w.heap.size ≤ k) u x := Kd.R_mono (Kd.R_alloc hR _) (fun k hk => .inl hk)
 have hm4 : ∀ v1 w4, (Kd.int .u8).R 5 w4 w0.heap.size (fun k => P0 k ∨ w.heap.size ≤ k) v1 (x ++ [123]) → Below w0.heap.size w0 w4 → (w.alloc (.cells #[.int .i64 6, .string v.f1, .slice A2 v.f3.length c2, .slice A3 v.f3.length c3] 27 (0, 0))).grownBy w4 u.ownBlock → PtS w0 w P0 (CS 6 v.f1 A2 v.f3.length c2 A3 v.f3.length c3) w4.heap.size (w4.alloc (.map #[] 0)) v1 (x ++ [123]) (.map []) 0 := fun v1 w4 ho hb hg => PtS.first hR ho hb hg
 have hm4' := Lib.hid hm4
 clear hm4
 rw [hn] at h2 l2 ⊢
 rw [h0]
 have hh := Lib.hid h
 clear h hy
 have hH2 := Lib.hid h2
 clear h2
 have hH3 := Lib.hid h3
 clear h3
 have hf0 := Lib.hid h0
 clear h0
 have hn' := Lib.hid hn
 clear hn
 go_enter Tryd.func83, Tryd.ntmps83
 go_wp2_with ((with_reducible refine gate_builtin (b := .append) (xs := #[.tmp 26, .tmp 28]) rfl ?_); at_builtin; go_loud (refine Kd.R_append (Kd.int .u8) (w0 := w0) w0.heap.size rfl (.tmp 26) (.tmp 28) 35 5 (.int .u8 0) 1 rfl Tryd.underlying35 info_5 rfl (by decide) (by omega) u x 123 [.int .u8 123] (fun k => P0 k ∨ w.heap.size ≤ k) (fun _ => False) rfl (by first | rfl | (simp; rfl)) rfl (fun _ hk => hk.elim) (fun k hk => .inr (by simp at hk; omega)) hR1 hB1 (by simp; omega) (by simp at hl; omega) ?_; intro v1 w4 ho hb hg hat; have hP0 := hm4'.out v1 w4 ho hb hg; have q3 := hP0.cel3))
 clear hR1 hB1 hm4' hB l2 hl ho hb hg hat q3 hmm
 generalize hmbe : w4.heap.size = mb at hP0 ⊢
 have hwm : w.heap.size < mb := by subst hmbe; have := blk_lt hP0.vb; have h4 := hP0.mp.lt; simp at this; have hne := map_ne hP0.mp hP0.vb; omega
 go_loopg [0, 34] k (fun kq uv iv wc => ∃ (i : Nat) (y : List Int) (D : DataW Unit) (m : Nat) (seen : List ByteArray), iv = .int .i64 (i : Int) ∧ i ≤ v.f3.length ∧ kq ≤ k ∧ Hid (pl kq y v deep i seen = some (r, e)) ∧ SeesB D seen ∧ m ≤ i ∧ PtS w0 w P0 (CS 6 v.f1 A2 v.f3.length c2 A3 v.f3.length c3) mb wc uv y D m)
 case atStart => exact ⟨0, _, _, 0, [], rfl, by omega, Nat.le_refl _, hh, SeesB.nil, Nat.le_refl _, by subst hmbe; exact hP0⟩
 case round =>
  clear hh hP0
  obtain ⟨i, y, D, m, seen, rfl, hin, hkk, hpl, hsee, hmi, hP⟩ := hrel
  cases gk with
  | zero => exact absurd hpl.out (by simp [pl])
  | succ j =>
   have p0 := hP.cel0
   cases hu : v.f3[i]? with
   | none =>
    have hie : i = v.f3.length := by have := List.getElem?_eq_none_iff.1 hu; omega
    have hge : ¬ i < v.f3.length := by omega
    have ⟨hr1, hr2⟩ : e = 0 ∧ room y [125] = some r := by
     have := hpl.out
     rw [pl, hu] at this
     simp only [hf0.out] at this
     rw [if_pos (by trivial)] at this
     cases hrm : room y [125] with
     | none => rw [hrm] at this; cases this
     | some y2 => rw [hrm] at this; simp at this; exact ⟨this.2.symm, by rw [this.1]⟩
    obtain ⟨hl2, hr3⟩ := room_some hr2
    have HE := Lib.hid (And.intro hr1 hr3)
    clear hpl hu hr1 hr2 hr3 hie
    go_wp2_with ((with_reducible refine gate_builtin (b := .append) (xs := #[.tmp 80, .tmp 82]) rfl ?_); at_builtin; go_loud (refine Kd.R_append (Kd.int .u8) (w0 := w0) w0.heap.size rfl (.tmp 80) (.tmp 82) 35 5 (.int .u8 0) 1 rfl Tryd.underlying35 info_5 rfl (by decide) (by omega) u0 y 125 [.int .u8 125] (fun k => P0 k ∨ w.heap.size ≤ k) (fun _ => False) rfl (by first | rfl | (simp; rfl)) rfl (fun _ hk => hk.elim) (fun k hk => .inr (by have := hP.hK.1; omega)) hP.row hP.hB (by have := hP.hB.size; omega) (by simp at hl2; omega) ?_; intro v2 w5 ho hb hg hat))
    refine bodyPost_ret (v := .tuple #[v2, .int .i64 0]) (by simp [results, Tryd.results83, go_sem]) rfl ?_
    obtain ⟨rfl, rfl⟩ := HE.out
    have hP5 := hP.grown hb hg ho
    exact ⟨v2, rfl, hP5.row, hP5.hB, hP5.hK⟩
   | some uu =>
    have hlt : i < v.f3.length := (List.getElem?_eq_some_iff.1 hu).1
    obtain ⟨ad, B2, d2, B3, d3, ea, x0, x1, x2, x3, m2, C2, m3, C3⟩ := at_T27 hH3.out (i : Int) (by omega) (by omega)
    have hru : rd_T27 v.f3 (i : Int) = uu := by unfold rd_T27; rw [Int.toNat_natCast, List.getD_eq_getElem?_getD, hu]; rfl
    rw [hru] at x0 x1 x2 x3 m2 C2 m3 C3
    rw [Int.toNat_natCast] at x0 x1 x2 x3
    obtain ⟨y2, key, hy2, hkey2, hend⟩ := pl_object hf0.out hu hpl.out
    obtain ⟨ak, eb, xk⟩ := Kd.at_string hH2.out (i : Int) (by omega) (by omega)
    have hrk : rdOf ByteArray.empty v.f2 (i : Int) = key := by unfold rdOf; rw [Int.toNat_natCast, List.getD_eq_getElem?_getD, hkey2]; rfl
    rw [hrk, Int.toNat_natCast] at xk
    have hklt := World.block_lt_of_cell? w0 _ xk
    clear hrk hkey2
    cases ea
    cases eb
    have E2 := Lib.hid C2
    have E3 := Lib.hid C3
    clear C2 C3
    replace x0 := (hP.hB.cell (World.block_lt_of_cell? w0 _ x0)).trans x0
    replace x1 := (hP.hB.cell (World.block_lt_of_cell? w0 _ x1)).trans x1
    replace x2 := (hP.hB.cell (World.block_lt_of_cell? w0 _ x2)).trans x2
    replace x3 := (hP.hB.cell (World.block_lt_of_cell? w0 _ x3)).trans x3
    clear hru hu hpl
    have z0 : (0 : Int) ≤ (i : Int) := by omega
    have z1 : (i : Int) < (v.f3.length : Int) := by omega
    have hL0 : (wr.alloc (.cells #[.int .i64 uu.f0, .string uu.f1, .slice B2 uu.f2.length d2, .slice B3 uu.f3.length d3] 27 (0, 0))).heap[wr.heap.size]? = some (.cells #[.int .i64 uu.f0, .string uu.f1, .slice B2 uu.f2.length d2, .slice B3 uu.f3.length d3] 27 (0, 0)) := blk_new _ _
    have hPL := hP.alloc (.cells #[.int .i64 uu.f0, .string uu.f1, .slice B2 uu.f2.length d2, .slice B3 uu.f3.length d3] 27 (0, 0))
    have hxl : wr.heap.size < (wr.alloc (.cells #[.int .i64 uu.f0, .string uu.f1, .slice B2 uu.f2.length d2, .slice B3 uu.f3.length d3] 27 (0, 0))).heap.size := blk_lt hL0
    have hmbl := hP.mp.lt
    have hks : key.size ≤ 100000000000 := by
     have hp1 : ∃ t, json_plain.f j key = some t := by rcases hend with h | h | h <;> exact ⟨_, h.1⟩
     obtain ⟨t, ht⟩ := hp1
     unfold json_plain.f at ht
     split at ht
     ·assumption
     ·cases ht
    have hkey : keyOf Tryd.prog 9 (.string key) = some (.string key.data.toList) := WideMaps.keyOf_string_mk Tryd.underlying9 (by unfold maxLen; omega)
    have hat0 := hsee.2 key
    have pa := hPL.cel0
    have pa2 := hPL.cel2
    have pk0 := (hPL.hB.cell hklt).trans xk
    by_cases hi : 0 < i
    ·rw [if_pos hi] at hy2
     obtain ⟨hl2, hy3⟩ := room_some hy2
     have hi2 : (0 : Int) < (i : Int) := by omega
     clear hy2
     have hy3' := Lib.hid hy3
     clear hy3
     have hne : some wr.heap.size ≠ u0.ownBlock := fun e => by have := Kd.R_lt hP.row _ e.symm; omega
     have hap : ∀ v2 w5, (Kd.int .u8).R 5 w5 w0.heap.size (fun k => P0 k ∨ w.heap.size ≤ k) v2 (y ++ [44]) → Below w0.heap.size w0 w5 → (wr.alloc (.cells #[.int .i64 uu.f0, .string uu.f1, .slice B2 uu.f2.length d2, .slice B3 uu.f3.length d3] 27 (0, 0))).grownBy w5 u0.ownBlock → PtS w0 w P0 (CS 6 v.f1 (some ak) v.f3.length c2 (some ad) v.f3.length c3) mb w5 v2 y2 D m ∧ w5.heap[wr.heap.size]? = some (.cells #[.int .i64 uu.f0, .string uu.f1, .slice B2 uu.f2.length d2, .slice B3 uu.f3.length d3] 27 (0, 0)) :=
      fun v2 w5 ho hb hg => ⟨hPL.grown hb hg (by rw [hy3'.out]; exact ho), blk_grown hL0 hg hne⟩
     have hap' := Lib.hid hap
     clear hap
     rcases hend with ⟨hpn, hrr⟩ | ⟨hpn, hsn, hrr⟩ | ⟨hpn, hsn, z, z2, z3, e2, hq, hz2, hw, hend⟩
     ·have hrr := Lib.hid hrr
      go_wp2_with (first
       | ((with_reducible refine gate_builtin (b := .append) (xs := #[.tmp 41, .tmp 42]) rfl ?_); at_builtin; go_loud (refine Kd.R_append (Kd.int .u8) (w0 := w0) w0.heap.size rfl (.tmp 41) (.tmp 42) 35 5 (.int .u8 0) 1 rfl Tryd.underlying35 info_5 rfl (by decide) (by omega) u0 y 44 [.int .u8 44] (fun k => P0 k ∨ w.heap.size ≤ k) (fun _ => False) rfl (by first | rfl | (simp; rfl)) rfl (fun _ hk => hk.elim) (fun k hk => .inr (by have := hPL.hK.1; omega)) hPL.row hPL.hB (by have := hPL.hB.size; omega) (by simp at hl2; omega) ?_; intro v2 w5 ho hb hg hat; obtain ⟨hP5, hL5⟩ := hap'.out v2 w5 ho hb hg; have pb := hP5.cel0; have pc := hP5.cel2; have pk := (hP5.hB.cell hklt).trans xk; obtain ⟨b0, b1, b2, b3⟩ := blk4 hL5; clear ho hb hg hat))
       | (go_at_call 81; go_loud (refine (json_plain.calls j key false _ hpn).mono ?_; rintro e6 w6 ⟨rfl, hB6⟩; have hP6 := hP5.below hB6; have hL6 := blk_below hL5 hB6)))
      refine bodyPost_ret (v := .tuple #[.slice none 0 0, .int .i64 10]) (by simp [results, Tryd.results83, go_sem]) rfl ?_
      obtain ⟨rfl, rfl⟩ := hrr.out
      exact ⟨_, rfl, Kd.R_nil _ _ _ _ _, hP6.hB, hP6.hK⟩
     ·have hrr := Lib.hid hrr
      rw [if_pos hsn] at hat0
      clear hsn
      go_wp2_with (first
       | ((with_reducible refine gate_builtin (b := .append) (xs := #[.tmp 41, .tmp 42]) rfl ?_); at_builtin; go_loud (refine Kd.R_append (Kd.int .u8) (w0 := w0) w0.heap.size rfl (.tmp 41) (.tmp 42) 35 5 (.int .u8 0) 1 rfl Tryd.underlying35 info_5 rfl (by decide) (by omega) u0 y 44 [.int .u8 44] (fun k => P0 k ∨ w.heap.size ≤ k) (fun _ => False) rfl (by first | rfl | (simp; rfl)) rfl (fun _ hk => hk.elim) (fun k hk => .inr (by have := hPL.hK.1; omega)) hPL.row hPL.hB (by have := hPL.hB.size; omega) (by simp at hl2; omega) ?_; intro v2 w5 ho hb hg hat; obtain ⟨hP5, hL5⟩ := hap'.out v2 w5 ho hb hg; have pb := hP5.cel0; have pc := hP5.cel2; have pk := (hP5.hB.cell hklt).trans xk; obtain ⟨b0, b1, b2, b3⟩ := blk4 hL5; clear ho hb hg hat))
       | (go_at_call 81; go_loud (refine (json_plain.calls j key true _ hpn).mono ?_; rintro e6 w6 ⟨rfl, hB6⟩; have hP6 := hP5.below hB6; have hL6 := blk_below hL5 hB6))
       | (at_lookup; go_loud (refine wpList_lookup_own_int _ rfl _ _ 147 rfl 9 3 .i64 law9 Tryd.underlying147 Tryd.underlying3 (zero3 _) mb m D rfl hP6.mp _ _ rfl hkey ?_; intro cv hat hwc; obtain rfl := lit_inj (hat0.symm.trans hat))))
      refine bodyPost_ret (v := .tuple #[.slice none 0 0, .int .i64 23]) (by simp [results, Tryd.results83, go_sem]) rfl ?_
      obtain ⟨rfl, rfl⟩ := hrr.out
      exact ⟨_, rfl, Kd.R_nil _ _ _ _ _, hP6.hB, hP6.hK⟩
     ·rw [if_neg hsn] at hat0
      have hsee2 := hsee.put (x := key)
      obtain ⟨hl3, rfl⟩ := room_some hz2
      have hcall := fun W v2 (D2 : DataW Unit) (m2' : Nat) (hW : PtS w0 w P0 (CS 6 v.f1 (some ak) v.f3.length c2 (some ad) v.f3.length c3) mb W v2 (z ++ [58]) D2 m2') => ih j (by omega) w0 W (fun k => some k = v2.ownBlock) v2 (z ++ [58]) uu B2 d2 B3 d3 deep z3 e2 hW.hB E2.out m2 E3.out m3 hW.tight hd0 hd1 hw
      have hcall := fun W v2 (hW : PtS w0 w P0 (CS 6 v.f1 (some ak) v.f3.length c2 (some ad) v.f3.length c3) mb W v2 (z ++ [58]) (D.put (.string key.data.toList) (.lit (.int .i64 1))) (m + 1)) => hcall W v2 _ _ hW
      clear hsn hz2 hw
      rcases hend with ⟨he, hpl3⟩ | ⟨he, hr, hee⟩
      ·have hpl3' := Lib.hid hpl3
       clear hpl3
       subst he
       go_wp2_with (first
        | ((with_reducible refine gate_builtin (b := .append) (xs := #[.tmp 41, .tmp 42]) rfl ?_); at_builtin; go_loud (refine Kd.R_append (Kd.int .u8) (w0 := w0) w0.heap.size rfl (.tmp 41) (.tmp 42) 35 5 (.int .u8 0) 1 rfl Tryd.underlying35 info_5 rfl (by decide) (by omega) u0 y 44 [.int .u8 44] (fun k => P0 k ∨ w.heap.size ≤ k) (fun _ => False) rfl (by first | rfl | (simp; rfl)) rfl (fun _ hk => hk.elim) (fun k hk => .inr (by have := hPL.hK.1; omega)) hPL.row hPL.hB (by have := hPL.hB.size; omega) (by simp at hl2; omega) ?_; intro v2 w5 ho hb hg hat; obtain ⟨hP5, hL5⟩ := hap'.out v2 w5 ho hb hg; have pb := hP5.cel0; have pc := hP5.cel2; have pk := (hP5.hB.cell hklt).trans xk; obtain ⟨b0, b1, b2, b3⟩ := blk4 hL5; clear ho hb hg hat))
        | (go_at_call 81; go_loud (refine (json_plain.calls j key true _ hpn).mono ?_; rintro e6 w6 ⟨rfl, hB6⟩; have hP6 := hP5.below hB6; have hL6 := blk_below hL5 hB6))
        | (at_lookup; go_loud (refine wpList_lookup_own_int _ rfl _ _ 147 rfl 9 3 .i64 law9 Tryd.underlying147 Tryd.underlying3 (zero3 _) mb m D rfl hP6.mp _ _ rfl hkey ?_; intro cv hat hwc; obtain rfl := lit_inj (hat0.symm.trans hat)))
        | (at_mapUpdate; go_loud (refine wpList_mapUpdate_own _ rfl _ _ _ 147 rfl 9 3 law9 Tryd.underlying147 _ mb m D rfl hP6.mp (by unfold maxLen; omega) _ _ _ rfl rfl hkey _ [] (plainElem_int Tryd.underlying3 (by decide)) ?_; intro w7 hm7 hg7; have hP7 := hP6.put hwm hsz hm7 hg7; have hL7 := blk_grown hL6 hg7 (fun e => by have := Option.some.inj e; omega)))
        | (go_at_call 82; go_loud (refine (json_quoted.calls j (fun k => some k = _) _ y2 key z w0 _ hP7.hB hP7.tight hq).mono ?_; rintro e8 w8 ⟨v8, rfl, hR8, hB8, hK8⟩; have hP8 := hP7.kept hB8 hK8 hR8; have hL8 := (hK8.2 _ (blk_lt hL7) (Kd.R_ne hP7.row hL7 (by decide))).trans hL7))
        | ((with_reducible refine gate_builtin (b := .append) (xs := #[.tmp 65, .tmp 66]) rfl ?_); at_builtin; go_loud (refine Kd.R_append (Kd.int .u8) (w0 := w0) w0.heap.size rfl (.tmp 65) (.tmp 66) 35 5 (.int .u8 0) 1 rfl Tryd.underlying35 info_5 rfl (by decide) (by omega) v8 z 58 [.int .u8 58] (fun k => P0 k ∨ w.heap.size ≤ k) (fun _ => False) rfl (by first | rfl | (simp; rfl)) rfl (fun _ hk => hk.elim) (fun k hk => .inr (by have := hP8.hK.1; omega)) hP8.row hP8.hB (by have := hP8.hB.size; omega) (by simp at hl3; omega) ?_; intro v9 w9 ho9 hb9 hg9 hat9; have hP9 := hP8.grown hb9 hg9 ho9; have hL9 := blk_grown hL8 hg9 (Kd.R_ne hP8.row hL8 (by decide)); obtain ⟨d0, d1, dd2, dd3⟩ := blk4 hL9; clear ho9 hb9 hg9 hat9))
        | (go_at_call 61; go_loud (refine (hcall _ _ hP9).mono ?_; rintro ea wa ⟨va, rfl, hRa, hBa, hKa⟩; have hPa := hP9.kept hBa hKa hRa)))
       go_roundg j
       case measure => omega
       case rel => exact ⟨i + 1, z3, _, m + 1, _, by go_num, by omega, by omega, hpl3', hsee2, by omega, hPa⟩
      ·have hrr := Lib.hid (And.intro hr hee)
       clear hr hee
       have he2 : (e2 != 0) = true := by simpa using he
       clear he
       go_wp2_with (first
        | ((with_reducible refine gate_builtin (b := .append) (xs := #[.tmp 41, .tmp 42]) rfl ?_); at_builtin; go_loud (refine Kd.R_append (Kd.int .u8) (w0 := w0) w0.heap.size rfl (.tmp 41) (.tmp 42) 35 5 (.int .u8 0) 1 rfl Tryd.underlying35 info_5 rfl (by decide) (by omega) u0 y 44 [.int .u8 44] (fun k => P0 k ∨ w.heap.size ≤ k) (fun _ => False) rfl (by first | rfl | (simp; rfl)) rfl (fun _ hk => hk.elim) (fun k hk => .inr (by have := hPL.hK.1; omega)) hPL.row hPL.hB (by have := hPL.hB.size; omega) (by simp at hl2; omega) ?_; intro v2 w5 ho hb hg hat; obtain ⟨hP5, hL5⟩ := hap'.out v2 w5 ho hb hg; have pb := hP5.cel0; have pc := hP5.cel2; have pk := (hP5.hB.cell hklt).trans xk; obtain ⟨b0, b1, b2, b3⟩ := blk4 hL5; clear ho hb hg hat))
        | (go_at_call 81; go_loud (refine (json_plain.calls j key true _ hpn).mono ?_; rintro e6 w6 ⟨rfl, hB6⟩; have hP6 := hP5.below hB6; have hL6 := blk_below hL5 hB6))
        | (at_lookup; go_loud (refine wpList_lookup_own_int _ rfl _ _ 147 rfl 9 3 .i64 law9 Tryd.underlying147 Tryd.underlying3 (zero3 _) mb m D rfl hP6.mp _ _ rfl hkey ?_; intro cv hat hwc; obtain rfl := lit_inj (hat0.symm.trans hat)))
        | (at_mapUpdate; go_loud (refine wpList_mapUpdate_own _ rfl _ _ _ 147 rfl 9 3 law9 Tryd.underlying147 _ mb m D rfl hP6.mp (by unfold maxLen; omega) _ _ _ rfl rfl hkey _ [] (plainElem_int Tryd.underlying3 (by decide)) ?_; intro w7 hm7 hg7; have hP7 := hP6.put hwm hsz hm7 hg7; have hL7 := blk_grown hL6 hg7 (fun e => by have := Option.some.inj e; omega)))
        | (go_at_call 82; go_loud (refine (json_quoted.calls j (fun k => some k = _) _ y2 key z w0 _ hP7.hB hP7.tight hq).mono ?_; rintro e8 w8 ⟨v8, rfl, hR8, hB8, hK8⟩; have hP8 := hP7.kept hB8 hK8 hR8; have hL8 := (hK8.2 _ (blk_lt hL7) (Kd.R_ne hP7.row hL7 (by decide))).trans hL7))
        | ((with_reducible refine gate_builtin (b := .append) (xs := #[.tmp 65, .tmp 66]) rfl ?_); at_builtin; go_loud (refine Kd.R_append (Kd.int .u8) (w0 := w0) w0.heap.size rfl (.tmp 65) (.tmp 66) 35 5 (.int .u8 0) 1 rfl Tryd.underlying35 info_5 rfl (by decide) (by omega) v8 z 58 [.int .u8 58] (fun k => P0 k ∨ w.heap.size ≤ k) (fun _ => False) rfl (by first | rfl | (simp; rfl)) rfl (fun _ hk => hk.elim) (fun k hk => .inr (by have := hP8.hK.1; omega)) hP8.row hP8.hB (by have := hP8.hB.size; omega) (by simp at hl3; omega) ?_; intro v9 w9 ho9 hb9 hg9 hat9; have hP9 := hP8.grown hb9 hg9 ho9; have hL9 := blk_grown hL8 hg9 (Kd.R_ne hP8.row hL8 (by decide)); obtain ⟨d0, d1, dd2, dd3⟩ := blk4 hL9; clear ho9 hb9 hg9 hat9))
        | (go_at_call 61; go_loud (refine (hcall _ _ hP9).mono ?_; rintro ea wa ⟨va, rfl, hRa, hBa, hKa⟩; have hPa := hP9.kept hBa hKa hRa)))
       refine bodyPost_ret (v := .tuple #[.slice none 0 0, .int .i64 e2]) (by simp [results, Tryd.results83, go_sem]) rfl ?_
       obtain ⟨rfl, rfl⟩ := hrr.out
       exact ⟨_, rfl, Kd.R_nil _ _ _ _ _, hPa.hB, hPa.hK⟩
    ·obtain rfl : y2 = y := by rw [if_neg hi] at hy2; simpa using hy2.symm
     have hi2 : ¬ (0 : Int) < (i : Int) := by omega
     clear hy2
     have hP5 := hPL
     have hL5 := hL0
     rcases hend with ⟨hpn, hrr⟩ | ⟨hpn, hsn, hrr⟩ | ⟨hpn, hsn, z, z2, z3, e2, hq, hz2, hw, hend⟩
     ·have hrr := Lib.hid hrr
      go_wp2_with (first
       | (go_at_call 81; go_loud (refine (json_plain.calls j key false _ hpn).mono ?_; rintro e6 w6 ⟨rfl, hB6⟩; have hP6 := hP5.below hB6; have hL6 := blk_below hL5 hB6)))
      refine bodyPost_ret (v := .tuple #[.slice none 0 0, .int .i64 10]) (by simp [results, Tryd.results83, go_sem]) rfl ?_
      obtain ⟨rfl, rfl⟩ := hrr.out
      exact ⟨_, rfl, Kd.R_nil _ _ _ _ _, hP6.hB, hP6.hK⟩
     ·have hrr := Lib.hid hrr
      rw [if_pos hsn] at hat0
      clear hsn
      go_wp2_with (first
       | (go_at_call 81; go_loud (refine (json_plain.calls j key true _ hpn).mono ?_; rintro e6 w6 ⟨rfl, hB6⟩; have hP6 := hP5.below hB6; have hL6 := blk_below hL5 hB6))
       | (at_lookup; go_loud (refine wpList_lookup_own_int _ rfl _ _ 147 rfl 9 3 .i64 law9 Tryd.underlying147 Tryd.underlying3 (zero3 _) mb m D rfl hP6.mp _ _ rfl hkey ?_; intro cv hat hwc; obtain rfl := lit_inj (hat0.symm.trans hat))))
      refine bodyPost_ret (v := .tuple #[.slice none 0 0, .int .i64 23]) (by simp [results, Tryd.results83, go_sem]) rfl ?_
      obtain ⟨rfl, rfl⟩ := hrr.out
      exact ⟨_, rfl, Kd.R_nil _ _ _ _ _, hP6.hB, hP6.hK⟩
     ·rw [if_neg hsn] at hat0
      have hsee2 := hsee.put (x := key)
      obtain ⟨hl3, rfl⟩ := room_some hz2
      have hcall := fun W v2 (D2 : DataW Unit) (m2' : Nat) (hW : PtS w0 w P0 (CS 6 v.f1 (some ak) v.f3.length c2 (some ad) v.f3.length c3) mb W v2 (z ++ [58]) D2 m2') => ih j (by omega) w0 W (fun k => some k = v2.ownBlock) v2 (z ++ [58]) uu B2 d2 B3 d3 deep z3 e2 hW.hB E2.out m2 E3.out m3 hW.tight hd0 hd1 hw
      have hcall := fun W v2 (hW : PtS w0 w P0 (CS 6 v.f1 (some ak) v.f3.length c2 (some ad) v.f3.length c3) mb W v2 (z ++ [58]) (D.put (.string key.data.toList) (.lit (.int .i64 1))) (m + 1)) => hcall W v2 _ _ hW
      clear hsn hz2 hw
      rcases hend with ⟨he, hpl3⟩ | ⟨he, hr, hee⟩
      ·have hpl3' := Lib.hid hpl3
       clear hpl3
       subst he
       go_wp2_with (first
        | (go_at_call 81; go_loud (refine (json_plain.calls j key true _ hpn).mono ?_; rintro e6 w6 ⟨rfl, hB6⟩; have hP6 := hP5.below hB6; have hL6 := blk_below hL5 hB6))
        | (at_lookup; go_loud (refine wpList_lookup_own_int _ rfl _ _ 147 rfl 9 3 .i64 law9 Tryd.underlying147 Tryd.underlying3 (zero3 _) mb m D rfl hP6.mp _ _ rfl hkey ?_; intro cv hat hwc; obtain rfl := lit_inj (hat0.symm.trans hat)))
        | (at_mapUpdate; go_loud (refine wpList_mapUpdate_own _ rfl _ _ _ 147 rfl 9 3 law9 Tryd.underlying147 _ mb m D rfl hP6.mp (by unfold maxLen; omega) _ _ _ rfl rfl hkey _ [] (plainElem_int Tryd.underlying3 (by decide)) ?_; intro w7 hm7 hg7; have hP7 := hP6.put hwm hsz hm7 hg7; have hL7 := blk_grown hL6 hg7 (fun e => by have := Option.some.inj e; omega)))
        | (go_at_call 82; go_loud (refine (json_quoted.calls j (fun k => some k = _) _ y2 key z w0 _ hP7.hB hP7.tight hq).mono ?_; rintro e8 w8 ⟨v8, rfl, hR8, hB8, hK8⟩; have hP8 := hP7.kept hB8 hK8 hR8; have hL8 := (hK8.2 _ (blk_lt hL7) (Kd.R_ne hP7.row hL7 (by decide))).trans hL7))
        | ((with_reducible refine gate_builtin (b := .append) (xs := #[.tmp 65, .tmp 66]) rfl ?_); at_builtin; go_loud (refine Kd.R_append (Kd.int .u8) (w0 := w0) w0.heap.size rfl (.tmp 65) (.tmp 66) 35 5 (.int .u8 0) 1 rfl Tryd.underlying35 info_5 rfl (by decide) (by omega) v8 z 58 [.int .u8 58] (fun k => P0 k ∨ w.heap.size ≤ k) (fun _ => False) rfl (by first | rfl | (simp; rfl)) rfl (fun _ hk => hk.elim) (fun k hk => .inr (by have := hP8.hK.1; omega)) hP8.row hP8.hB (by have := hP8.hB.size; omega) (by simp at hl3; omega) ?_; intro v9 w9 ho9 hb9 hg9 hat9; have hP9 := hP8.grown hb9 hg9 ho9; have hL9 := blk_grown hL8 hg9 (Kd.R_ne hP8.row hL8 (by decide)); obtain ⟨d0, d1, dd2, dd3⟩ := blk4 hL9; clear ho9 hb9 hg9 hat9))
        | (go_at_call 61; go_loud (refine (hcall _ _ hP9).mono ?_; rintro ea wa ⟨va, rfl, hRa, hBa, hKa⟩; have hPa := hP9.kept hBa hKa hRa)))
       go_roundg j
       case measure => omega
       case rel => exact ⟨i + 1, z3, _, m + 1, _, by go_num, by omega, by omega, hpl3', hsee2, by omega, hPa⟩
      ·have hrr := Lib.hid (And.intro hr hee)
       clear hr hee
       have he2 : (e2 != 0) = true := by simpa using he
       clear he
       go_wp2_with (first
        | (go_at_call 81; go_loud (refine (json_plain.calls j key true _ hpn).mono ?_; rintro e6 w6 ⟨rfl, hB6⟩; have hP6 := hP5.below hB6; have hL6 := blk_below hL5 hB6))
        | (at_lookup; go_loud (refine wpList_lookup_own_int _ rfl _ _ 147 rfl 9 3 .i64 law9 Tryd.underlying147 Tryd.underlying3 (zero3 _) mb m D rfl hP6.mp _ _ rfl hkey ?_; intro cv hat hwc; obtain rfl := lit_inj (hat0.symm.trans hat)))
        | (at_mapUpdate; go_loud (refine wpList_mapUpdate_own _ rfl _ _ _ 147 rfl 9 3 law9 Tryd.underlying147 _ mb m D rfl hP6.mp (by unfold maxLen; omega) _ _ _ rfl rfl hkey _ [] (plainElem_int Tryd.underlying3 (by decide)) ?_; intro w7 hm7 hg7; have hP7 := hP6.put hwm hsz hm7 hg7; have hL7 := blk_grown hL6 hg7 (fun e => by have := Option.some.inj e; omega)))
        | (go_at_call 82; go_loud (refine (json_quoted.calls j (fun k => some k = _) _ y2 key z w0 _ hP7.hB hP7.tight hq).mono ?_; rintro e8 w8 ⟨v8, rfl, hR8, hB8, hK8⟩; have hP8 := hP7.kept hB8 hK8 hR8; have hL8 := (hK8.2 _ (blk_lt hL7) (Kd.R_ne hP7.row hL7 (by decide))).trans hL7))
        | ((with_reducible refine gate_builtin (b := .append) (xs := #[.tmp 65, .tmp 66]) rfl ?_); at_builtin; go_loud (refine Kd.R_append (Kd.int .u8) (w0 := w0) w0.heap.size rfl (.tmp 65) (.tmp 66) 35 5 (.int .u8 0) 1 rfl Tryd.underlying35 info_5 rfl (by decide) (by omega) v8 z 58 [.int .u8 58] (fun k => P0 k ∨ w.heap.size ≤ k) (fun _ => False) rfl (by first | rfl | (simp; rfl)) rfl (fun _ hk => hk.elim) (fun k hk => .inr (by have := hP8.hK.1; omega)) hP8.row hP8.hB (by have := hP8.hB.size; omega) (by simp at hl3; omega) ?_; intro v9 w9 ho9 hb9 hg9 hat9; have hP9 := hP8.grown hb9 hg9 ho9; have hL9 := blk_grown hL8 hg9 (Kd.R_ne hP8.row hL8 (by decide)); obtain ⟨d0, d1, dd2, dd3⟩ := blk4 hL9; clear ho9 hb9 hg9 hat9))
        | (go_at_call 61; go_loud (refine (hcall _ _ hP9).mono ?_; rintro ea wa ⟨va, rfl, hRa, hBa, hKa⟩; have hPa := hP9.kept hBa hKa hRa)))
       refine bodyPost_ret (v := .tuple #[.slice none 0 0, .int .i64 e2]) (by simp [results, Tryd.results83, go_sem]) rfl ?_
       obtain ⟨rfl, rfl⟩ := hrr.out
       exact ⟨_, rfl, Kd.R_nil _ _ _ _ _, hPa.hB, hPa.hK⟩
end Go.Proofs.YteighppcdpaekaaDoor.Wr
end
section
namespace Go.Proofs.YteighppcdpaekaaDoor.Wr
open Go.RowKit Go.Proofs.YteighppcdpaekaaDoorW.PrintWords
open Go.Proofs.YteighppcdpaekaaDoor Go.Proofs.YteighppcdpaekaaDoor.P Go.Proofs.YteighppcdpaekaaDoor.Rd
theorem parts_all {k : Nat} (ih : ∀ i, i < k → OKs 61 (wr i)) : OKs 83 (pt (k + 1)) := by
 intro w0 w P0 u x v A2 c2 A3 c3 deep r e hB h2 l2 h3 l3 hR hd0 hd1 h
 rw [pt] at h
 split at h
 ·rename_i hc
  simp at h
  obtain ⟨rfl, rfl⟩ := h
  exact parts_form hB hc.1 hc.2
 ·rename_i hc
  split at h
  ·cases h
  ·rename_i hn
   split at h
   ·cases h
   ·rename_i y hy
    have h0 : v.f0 = 5 ∨ v.f0 = 6 := Classical.byContradiction fun hne => hn (.inr hne)
    rcases h0 with h0 | h0
    ·rw [h0, if_neg (by decide)] at hy
     exact parts_array ih hB h2 l2 h3 l3 hR hd0 hd1 h0 (by omega) hy h
    ·rw [h0, if_pos rfl] at hy
     exact parts_object ih hB h2 l2 h3 l3 hR hd0 hd1 h0 (Classical.byContradiction fun hne => hc ⟨h0, hne⟩) (by omega) hy h
theorem all_written (k : Nat) : ∀ i, i ≤ k → OKs 61 (wr i) ∧ OKs 83 (pt i) := by
 induction k with
 | zero =>
  intro i hi
  obtain rfl : i = 0 := by omega
  exact ⟨fun w0 w P0 u x v A2 c2 A3 c3 deep r e hB h2 l2 h3 l3 hR hd0 hd1 h => by simp [wr] at h, fun w0 w P0 u x v A2 c2 A3 c3 deep r e hB h2 l2 h3 l3 hR hd0 hd1 h => by simp [pt] at h⟩
 | succ k ih =>
  intro i hi
  by_cases h : i ≤ k
  ·exact ih i h
  ·obtain rfl : i = k + 1 := by omega
   exact ⟨written_all (ih k (Nat.le_refl _)).2, parts_all fun j hj => (ih j (by omega)).1⟩
theorem written_calls (k : Nat) : OKs 61 (wr k) := (all_written k k (Nat.le_refl _)).1
set_option maxRecDepth 100000 in
set_option maxHeartbeats 1600000 in
theorem print_calls {k : Nat} {v : S27} {A2 : Option Addr} {c2 : Nat} {A3 : Option Addr} {c3 : Nat} {w : World} {r : List Int} {e : Int} (h2 : Kd.string.C w A2 v.f2.length v.f2) (l2 : v.f2.length ≤ c2) (h3 : k27.C w A3 v.f3.length v.f3) (l3 : v.f3.length ≤ c3) (h : wr k [] v 0 = some (r, e)) :
  Calls Tryd.prog 40 #[.agg #[.int .i64 v.f0, .string v.f1, .slice A2 v.f2.length c2, .slice A3 v.f3.length c3]] w fun en w' => ∃ v0 : Value, en = .returned (.tuple #[v0, .int .i64 e]) ∧ (Kd.int .u8).R 5 w' w.heap.size (fun _ => True) v0 r ∧ Below w.heap.size w w' := by
 have hc := written_calls k w (w.alloc (.cells #[.int .i64 v.f0, .string v.f1, .slice A2 v.f2.length c2, .slice A3 v.f3.length c3] 27 (0, 0))) (fun _ => False) (.slice none 0 0) [] v A2 c2 A3 c3 0 r e (below_alloc (Below.refl _ _) _) h2 l2 h3 l3 (Kd.R_nil _ _ _ _ _) (by omega) (by omega) h
 clear h h2 h3
 go_enter Tryd.func40, Tryd.ntmps40
 go_wp2_with (go_at_call 61; go_loud (refine hc.mono ?_; rintro e9 w9 ⟨v9, rfl, hR9, hB9, hK9⟩))
 refine bodyPost_ret (v := .tuple #[v9, .int .i64 e]) (by simp [results, Tryd.results40, go_sem]) rfl ?_
 exact ⟨v9, rfl, Kd.R_mono hR9 (fun _ _ => trivial), hB9⟩
end Go.Proofs.YteighppcdpaekaaDoor.Wr
end
section
namespace Go.Proofs.YteighppcdpaekaaDoor.P
open Go.RowKit Go.Proofs.YteighppcdpaekaaDoorW.PrintWords Go.Proofs.YteighppcdpaekaaDoorW.PrintLast Go.Proofs.YteighppcdpaekaaDoorW.PrintMore
attribute [local go_sem] max2_int min2_int max_two min_two max_three min_three max_four min_four
set_option linter.unusedVariables false
set_option linter.unusedSimpArgs false
def json_Print.f (k : Nat) (a0_0 : Int) (a0_1 : ByteArray) (l0_2 : List ByteArray) (l0_3 : List S27) : Option ((List Int) × Int) := Wr.wr k [] ⟨a0_0, a0_1, l0_2, l0_3⟩ 0
theorem json_Print.calls (k : Nat) (a0_0 : Int) (a0_1 : ByteArray) (A0_2 : Option Addr) (c0_2 : Nat) (l0_2 : List ByteArray) (A0_3 : Option Addr) (c0_3 : Nat) (l0_3 : List S27) (r1 : List Int) (r2 : Int) (w : World) (hr0_2 : Kd.C Kd.string w A0_2 l0_2.length l0_2) (hc0_2 : l0_2.length ≤ c0_2) (hr0_3 : Kd.C k27 w A0_3 l0_3.length l0_3) (hc0_3 : l0_3.length ≤ c0_3) (h : json_Print.f k a0_0 a0_1 l0_2 l0_3 = some (r1, r2)) :
  Calls Tryd.prog 40 #[.agg #[.int .i64 a0_0, .string a0_1, .slice A0_2 l0_2.length c0_2, .slice A0_3 l0_3.length c0_3]] w fun e w' => ∃ v0_ : Value, e = .returned (.tuple #[v0_, .int .i64 r2]) ∧ Kd.R (Kd.int .u8) 5 w' w.heap.size (fun _ => True) v0_ r1 ∧ Below w.heap.size w w' :=
 Wr.print_calls (v := ⟨a0_0, a0_1, l0_2, l0_3⟩) hr0_2 hc0_2 hr0_3 hc0_3 h
end Go.Proofs.YteighppcdpaekaaDoor.P
end
section
namespace Go.Proofs.YteighppcdpaekaaDoor.P
open Go.RowKit Go.Proofs.YteighppcdpaekaaDoorW.PrintWords Go.Proofs.YteighppcdpaekaaDoorW.PrintLast Go.Proofs.YteighppcdpaekaaDoorW.PrintMore
attribute [local go_sem] max2_int min2_int max_two min_two max_three min_three max_four min_four
set_option linter.unusedVariables false
set_option linter.unusedSimpArgs false
def wrL : List S27 := [⟨3, ⟨#[49]⟩, [], []⟩, ⟨3, ⟨#[45, 48, 46, 53, 101, 51]⟩, [], []⟩]
theorem wr_parse1 : json_Parse.f 20 [91, 49, 44, 32, 45, 48, 46, 53, 101, 51, 93] = some (5, ⟨#[]⟩, [], wrL, 0, 0) := by kernel_rfl
theorem wr_parse2 : json_Parse.f 20 [91, 48, 49, 93] = some (0, ⟨#[]⟩, [], [], 2, 6) := by kernel_rfl
theorem wr_print : json_Print.f 30 5 ⟨#[]⟩ [] wrL = some ([91, 49, 44, 45, 48, 46, 53, 101, 51, 93], 0) := by kernel_rfl
theorem lit_C (w : World) (e : TypeId) (xs : List Int) (z : Nat × Nat) (hxl : xs.length ≤ 1000) : Kd.C (Kd.int .u8) (w.alloc (.cells (xs.map (Value.int .u8)).toArray e z)) (some ⟨w.heap.size, 0, none⟩) xs.length xs := by
 have hb := blk_new w (.cells (xs.map (Value.int .u8)).toArray e z)
 refine Kd.C_of_reads (enc := Value.int .u8) (d := (0 : Int)) (h1 := fun _ => rfl) ⟨rfl, by omega, fun hn => ⟨_, rfl, fun j hj => ?_⟩⟩
 have ha : (⟨w.heap.size, 0, none⟩ : Addr).add j = ⟨w.heap.size, j, none⟩ := by
  unfold Addr.add
  split
  ·rename_i h0; rw [h0]
  ·simp
 rw [ha]
 simp only [World.cell?, hb]
 simp [List.getD_eq_getElem?_getD, List.getElem?_eq_getElem hj]
def whetstonelaw04_written.f (k : Nat) : Option Bool := some true
set_option maxHeartbeats 1600000 in
set_option maxRecDepth 100000 in
theorem whetstonelaw04_written.calls (k : Nat) (r : Bool) (w : World) (h : whetstonelaw04_written.f k = some r) :
  Calls Tryd.prog 9 #[] w fun e w' => e = .returned (.bool r) ∧ Below w.heap.size w w' := by
 obtain rfl : true = r := Option.some.inj h
 have kc := fun (w : World) (C : Array Value) (n c : Nat) => Lib.run_convert_bytes_const (P := Tryd.prog) w 35 5 C n c Tryd.underlying35 Tryd.underlying5
 go_enter Tryd.func9, Tryd.ntmps9
 go_wp2_with fail
 refine (json_Parse.calls 20 _ _ [91, 49, 44, 32, 45, 48, 46, 53, 101, 51, 93] 5 ⟨#[]⟩ [] wrL 0 0 _ (lit_C w 5 [91, 49, 44, 32, 45, 48, 46, 53, 101, 51, 93] (11, 12) (by decide)) (by decide) wr_parse1).mono ?_
 rintro e1 w1 ⟨v2, v3, rfl, h2, h3, hB1⟩
 obtain ⟨A2, c2, rfl, l2, r2⟩ := Kd.R_reads h2
 obtain ⟨A3, c3, rfl, l3, r3⟩ := Kd.R_reads h3
 go_wp2_with fail
 refine (json_Print.calls 30 5 ⟨#[]⟩ A2 c2 [] A3 c3 wrL _ 0 _ (Kd.C_alloc r2 _) l2 (Kd.C_alloc r3 _) l3 wr_print).mono ?_
 rintro e2 w2 ⟨v0, rfl, h0, hB2⟩
 obtain ⟨A0, c0, rfl, l0, r0⟩ := Kd.R_reads h0
 go_wp2_with fail
 refine (json_Parse.calls 20 _ _ [91, 48, 49, 93] 0 ⟨#[]⟩ [] [] 2 6 _ (lit_C w2 5 [91, 48, 49, 93] (4, 5) (by decide)) (by decide) wr_parse2).mono ?_
 rintro e3 w3 ⟨u2, u3, rfl, g2, g3, hB3⟩
 obtain ⟨D2, d2, rfl, _, _⟩ := Kd.R_reads g2
 obtain ⟨D3, d3, rfl, _, _⟩ := Kd.R_reads g3
 have r0' := Kd.C_below (Kd.C_alloc r0 _) hB3
 have hst : ∀ o, (convert 35 9 (.slice A0 10 c0)).run Tryd.prog (w3.alloc o) = .ok (.string ⟨#[91, 49, 44, 45, 48, 46, 53, 101, 51, 93]⟩) (w3.alloc o) := fun o => (show strOfNums [91, 49, 44, 45, 48, 46, 53, 101, 51, 93] = ⟨#[91, 49, 44, 45, 48, 46, 53, 101, 51, 93]⟩ from by kernel_rfl) ▸ Kd.C_string Tryd.underlying35 Tryd.underlying5 Tryd.underlying9 (Kd.C_alloc r0' o)
 go_wp2_with fail
 go_ret
 exact ⟨rfl, below_alloc (below_step (below_alloc (below_step (below_alloc (below_step (below_alloc (Below.refl _ _) _) hB1) _) hB2) _) hB3) _⟩
end Go.Proofs.YteighppcdpaekaaDoor.P
end
section
namespace Go.Proofs.YteighppcdpaekaaDoor
open Go.Shelf
open Go.Lib in
open Go.Lib in
open Go.Lib in
open Go.Lib in
open Go.RowKit Go.Sort Go.Lib in
open Go.RowKit Go.Sort Go.Lib in
open Go.RowKit Go.Sort Go.Lib in
open Go.RowKit Go.Sort Go.Lib in
open Go.RowKit Go.Sort Go.Lib in
open Go.RowKit Go.Sort Go.Lib in
def Tryd.lays171_ren : Go.Shelf.Ren := ⟨fun | 171 => 41 | 243 => 62 | 246 => 84 | 283 => 102 | 284 => 103 | 285 => 104 | 286 => 105 | 129 => 114 | 317 => 113 | 318 => 115 | 319 => 116 | 320 => 117 | 337 => 122 | 338 => 123 | n => n, fun | 3 => 3 | 9 => 9 | 2 => 2 | 4 => 4 | 171 => 149 | 0 => 0 | 53 => 150 | 37 => 35 | 5 => 5 | 173 => 153 | 212 => 166 | 51 => 167 | 20 => 20 | 213 => 168 | 46 => 146 | 232 => 178 | 233 => 179 | n => n, fun | 17 => 2 | 18 => 3 | 19 => 4 | n => n⟩
theorem Tryd.lays171 : Go.Proofs.Lays.n171 Tryd.prog Tryd.lays171_ren := {
 mixed := by kernel_rfl
 f129 := Tryd.func114.trans (congrArg some (by kernel_rfl))
 f171 := Tryd.func41.trans (congrArg some (by kernel_rfl))
 f243 := Tryd.func62.trans (congrArg some (by kernel_rfl))
 f246 := Tryd.func84.trans (congrArg some (by kernel_rfl))
 f283 := Tryd.func102.trans (congrArg some (by kernel_rfl))
 f284 := Tryd.func103.trans (congrArg some (by kernel_rfl))
 f285 := Tryd.func104.trans (congrArg some (by kernel_rfl))
 f286 := Tryd.func105.trans (congrArg some (by kernel_rfl))
 f317 := Tryd.func113.trans (congrArg some (by kernel_rfl))
 f318 := Tryd.func115.trans (congrArg some (by kernel_rfl))
 f319 := Tryd.func116.trans (congrArg some (by kernel_rfl))
 f320 := Tryd.func117.trans (congrArg some (by kernel_rfl))
 f337 := Tryd.func122.trans (congrArg some (by kernel_rfl))
 f338 := Tryd.func123.trans (congrArg some (by kernel_rfl))
 t0 := Tryd.underlying0
 a0 := Tryd.isAgg0
 z0 := Tryd.sizeOf0
 v0 := Tryd.zeroValue0
 t2 := Tryd.underlying2
 a2 := Tryd.isAgg2
 z2 := Tryd.sizeOf2
 v2 := Tryd.zeroValue2
 t3 := Tryd.underlying3
 a3 := Tryd.isAgg3
 z3 := Tryd.sizeOf3
 v3 := Tryd.zeroValue3
 t4 := Tryd.underlying4
 a4 := Tryd.isAgg4
 z4 := Tryd.sizeOf4
 v4 := Tryd.zeroValue4
 t5 := Tryd.underlying5
 a5 := Tryd.isAgg5
 z5 := Tryd.sizeOf5
 v5 := Tryd.zeroValue5
 t9 := Tryd.underlying9
 a9 := Tryd.isAgg9
 z9 := Tryd.sizeOf9
 v9 := Tryd.zeroValue9
 t20 := Tryd.underlying20
 a20 := Tryd.isAgg20
 z20 := Tryd.sizeOf20
 v20 := Tryd.zeroValue20
 t37 := Tryd.underlying35
 a37 := Tryd.isAgg35
 z37 := Tryd.sizeOf35
 v37 := Tryd.zeroValue35
 t46 := Tryd.underlying146
 a46 := Tryd.isAgg146
 z46 := Tryd.sizeOf146
 v46 := Tryd.zeroValue146
 t51 := Tryd.underlying167
 a51 := Tryd.isAgg167
 z51 := Tryd.sizeOf167
 v51 := Tryd.zeroValue167
 t53 := Tryd.underlying150
 a53 := Tryd.isAgg150
 z53 := Tryd.sizeOf150
 v53 := Tryd.zeroValue150
 t171 := Tryd.underlying149
 a171 := Tryd.isAgg149
 z171 := Tryd.sizeOf149
 v171 := Tryd.zeroValue149
 t173 := Tryd.underlying153
 a173 := Tryd.isAgg153
 z173 := Tryd.sizeOf153
 v173 := Tryd.zeroValue153
 t212 := Tryd.underlying166
 a212 := Tryd.isAgg166
 z212 := Tryd.sizeOf166
 v212 := Tryd.zeroValue166
 t213 := Tryd.underlying168
 a213 := Tryd.isAgg168
 z213 := Tryd.sizeOf168
 t232 := Tryd.underlying178
 a232 := Tryd.isAgg178
 z232 := Tryd.sizeOf178
 v232 := Tryd.zeroValue178
 t233 := Tryd.underlying179
 a233 := Tryd.isAgg179
 z233 := Tryd.sizeOf179
 v233 := Tryd.zeroValue179
 g17 := by kernel_rfl
 g18 := by kernel_rfl
 g19 := by kernel_rfl }
open Go.RowKit Go.Sort Go.Lib in
theorem Tryd.strconv_Itoa_small (i : Nat) (hi : i < 100) (w : World) :
  Calls Tryd.prog 41 #[.int .i64 i] w fun e w' => e = .returned (.string ⟨(Lib.decDigits i).toArray⟩) ∧ w' = w := Any.strconv_Itoa_small Tryd.lays171 i hi w
end Go.Proofs.YteighppcdpaekaaDoor
end
section
namespace Go.Proofs.YteighppcdpaekaaDoor.P
open Go.RowKit Go.Proofs.YteighppcdpaekaaDoorW.PrintWords Go.Proofs.YteighppcdpaekaaDoorW.PrintLast Go.Proofs.YteighppcdpaekaaDoorW.PrintMore
attribute [local go_sem] max2_int min2_int max_two min_two max_three min_three max_four min_four
set_option linter.unusedVariables false
set_option linter.unusedSimpArgs false
def itoaS (i : Nat) : ByteArray := ⟨(Lib.decDigits i).toArray⟩
def json_Of.f (a0 : Int) : Option (Int × ByteArray × List ByteArray × (List (S27))) := if 0 ≤ a0 ∧ a0 < 100 then some (3, itoaS a0.toNat, [], []) else none
set_option maxHeartbeats 1600000 in
set_option maxRecDepth 100000 in
theorem json_Of.calls (a0 : Int) (r1 : Int) (r2 : ByteArray) (r3 : List ByteArray) (r4 : List (S27)) (w : World) (h : json_Of.f a0 = some (r1, r2, r3, r4)) :
  Calls Tryd.prog 10 #[.int .i64 a0] w fun e w' => ∃ v2_ v3_ : Value, e = .returned (.agg #[.int .i64 r1, .string r2, v2_, v3_]) ∧ Kd.R Kd.string 9 w' w.heap.size (fun _ => True) v2_ r3 ∧ Kd.R k27 27 w' w.heap.size (fun k_ => some k_ ≠ (v2_ : Value).ownBlock) v3_ r4 ∧ Below w.heap.size w w' := by
 unfold json_Of.f at h
 split at h
 ·rename_i hb
  simp only [Option.some.injEq, Prod.mk.injEq] at h
  obtain ⟨rfl, rfl, rfl, rfl⟩ := h
  obtain ⟨n, rfl⟩ : ∃ n : Nat, a0 = (n : Int) := ⟨a0.toNat, by omega⟩
  rw [show ((n : Int)).toNat = n from rfl]
  have hz : ∀ W, Calls Tryd.prog 41 #[.int .i64 n] W fun e w' => e = .returned (.string (itoaS n)) ∧ w' = W := fun W => Tryd.strconv_Itoa_small n (by omega) W
  go_enter Tryd.func10, Tryd.ntmps10
  go_wp2_with (go_at_call 41; refine (hz _).mono ?_; rintro e w1 ⟨rfl, rfl⟩)
  have hb4 := blk_new w (.cells #[.int .i64 3, .string (itoaS n), .slice none 0 0, .slice none 0 0] 27)
  refine bodyPost_ret (results_cell_row rfl _ _ w.heap.size 27 #[.int .i64 3, .string (itoaS n), .slice none 0 0, .slice none 0 0] (0, 0) _ rfl hb4 Tryd.underlying27 rfl (by kernel_rfl)) rfl ?_
  refine ⟨_, _, rfl, Kd.R_nil _ _ _ _ _, Kd.R_nil _ _ _ _ _, ?_⟩
  repeat (first | exact Nat.le_refl _ | refine below_set ?_ (Nat.le_refl _) | exact below_alloc (Below.refl _ _) _)
 ·cases h
end Go.Proofs.YteighppcdpaekaaDoor.P
end
section
namespace Go.Proofs.YteighppcdpaekaaDoor.P
open Go.RowKit Go.Proofs.YteighppcdpaekaaDoorW.PrintWords Go.Proofs.YteighppcdpaekaaDoorW.PrintLast Go.Proofs.YteighppcdpaekaaDoorW.PrintMore
attribute [local go_sem] max2_int min2_int max_two min_two max_three min_three max_four min_four
set_option linter.unusedVariables false
set_option linter.unusedSimpArgs false
theorem F_lit {α : Type} {d : Kd α} {W : World} {b : Nat} {c : List Value} {e : Nat} {x : α} {ok : Nat → Prop} (hb : W.heap[b]? = some (.cells c.toArray e (0, 0))) (hK : Kd.FK d W ok x c) : Kd.F d W (fun k => k = b ∨ ok k) (some ⟨b, 0, none⟩) 1 [x] := fun W' hW => by
 refine ⟨rfl, by decide, fun _ => ⟨_, rfl, fun j p hj => ?_⟩⟩
 obtain ⟨rfl, rfl⟩ : j = 0 ∧ p = x := by
  rcases j with _ | j
  ·simp at hj; exact ⟨rfl, hj.symm⟩
  ·simp at hj
 have hK' := hK W' (fun k hk hlt => hW k (.inr hk) hlt)
 refine ⟨c, d.K_len hK', hK', fun i u hu => ?_⟩
 have hblk := (hW b (.inl rfl) (blk_lt hb)).trans hb
 have ha : (⟨b, 0, none⟩ : Addr).add (0 * d.sz + i) = ⟨b, i, none⟩ := by
  rw [Nat.zero_mul, Nat.zero_add]
  unfold Addr.add
  split
  ·rename_i h0; rw [h0]
  ·simp
 rw [ha, blk_cell hblk i]
 simpa using hu
structure MS (w : World) (P0_ : Nat → Prop) (wc : World) (kv lv kv1 lv1 : Value) (ks : List ByteArray) (ls : List S27) : Prop where
 bel : Below w.heap.size w wc
 zb : wc.heap[w.heap.size]? = some (.cells #[.int .i64 0, .string ⟨#[]⟩, .slice none 0 0, .slice none 0 0] 27 (0, 0))
 vb : wc.heap[w.heap.size + 1]? = some (.cells #[.int .i64 6, .string ⟨#[]⟩, kv1, lv1] 27 (0, 0))
 own2 : Kd.R Kd.string 9 wc (w.heap.size + 2) (fun _ => True) kv ks
 own : Kd.N k27 27 wc (w.heap.size + 2) (fun k => (P0_ k ∧ k < w.heap.size ∨ w.heap.size + 2 ≤ k) ∧ some k ≠ kv.ownBlock) lv ls
section
variable {w : World} {P0_ : Nat → Prop} {wc w2 : World} {kv lv kv1 lv1 v1 : Value} {ks : List ByteArray} {ls : List S27}
theorem MS.step (h : MS w P0_ wc kv lv kv1 lv1 ks ls) (hb : Below wc.heap.size wc w2) : MS w P0_ w2 kv lv kv1 lv1 ks ls :=
 ⟨below_step h.bel hb, (hb.block _ (blk_lt h.zb)).trans h.zb, (hb.block _ (blk_lt h.vb)).trans h.vb, Kd.R_below h.own2 hb, Kd.N_below h.own hb⟩
theorem MS.alloc (h : MS w P0_ wc kv lv kv1 lv1 ks ls) (x : Obj) : MS w P0_ (wc.alloc x) kv lv kv1 lv1 ks ls := h.step (below_alloc (Below.refl _ _) x)
theorem MS.drew (h : MS w P0_ wc kv lv kv1 lv1 ks ls) : MS w P0_ wc.drew kv lv kv1 lv1 ks ls := h.step (below_drew (Below.refl _ _))
theorem MS.appK (h : MS w P0_ wc kv lv kv1 lv1 ks ls) {key : ByteArray} (hR : Kd.R Kd.string 9 w2 (w.heap.size + 2) (fun _ => True) v1 (ks ++ [key])) (hg : wc.grownBy w2 kv.ownBlock) (hat : v1.ownBlock = kv.ownBlock ∨ ∃ b, v1.ownBlock = some b ∧ wc.heap.size ≤ b) :
  MS w P0_ w2 v1 lv kv1 lv1 (ks ++ [key]) ls := by
 have hne : ∀ i, i < w.heap.size + 2 → some i ≠ kv.ownBlock := fun i hi e => by have := Kd.R_base h.own2 i e.symm; omega
 have h1 := blk_lt h.vb
 refine ⟨h.bel.grown hg (by omega) (fun k hk => by have := Kd.R_base h.own2 k hk; omega), blk_grown h.zb hg (hne _ (by omega)), blk_grown h.vb hg (hne _ (by omega)), hR, Kd.N_after h.own hg hat⟩
theorem MS.appL (h : MS w P0_ wc kv lv kv1 lv1 ks ls) {v : S27} (hR : Kd.N k27 27 w2 (w.heap.size + 2) (fun k => (P0_ k ∧ k < w.heap.size ∨ w.heap.size + 2 ≤ k) ∧ some k ≠ kv.ownBlock) v1 (ls ++ [v])) (hg : wc.grownBy w2 lv.ownBlock) :
  MS w P0_ w2 kv v1 kv1 lv1 ks (ls ++ [v]) := by
 have hne : ∀ i, i < w.heap.size + 2 → some i ≠ lv.ownBlock := fun i hi e => by have := Kd.N_base h.own i e.symm; omega
 have h1 := blk_lt h.vb
 refine ⟨h.bel.grown hg (by omega) (fun k hk => by have := Kd.N_base h.own k hk; omega), blk_grown h.zb hg (hne _ (by omega)), blk_grown h.vb hg (hne _ (by omega)), ?_, hR⟩
 exact Kd.R_mono (Kd.R_grown (Kd.R_tight rfl h.own2) hg (fun k hk e => (h.own.1 k e.symm).2 hk)) (fun _ _ => trivial)
theorem MS.setK (h : MS w P0_ wc kv lv kv1 lv1 ks ls) (x : Value) : MS w P0_ (wc.setCell ⟨w.heap.size + 1, 2, none⟩ x) kv lv x lv1 ks ls := by
 have h1 := blk_lt h.vb
 refine ⟨below_set h.bel (Nat.le_succ _), blk_far h.zb (p := ⟨w.heap.size + 1, 2, none⟩) (by show w.heap.size ≠ w.heap.size + 1; omega) x, blk_put h.vb 2 x rfl, ?_, ?_⟩
 ·exact Kd.R_mono (Kd.R_far (p := ⟨w.heap.size + 1, 2, none⟩) (Kd.R_bound h.own2) (fun k hk => by have h2 := hk.2.1; show k ≠ w.heap.size + 1; omega) x) (fun _ _ => trivial)
 ·exact Kd.N_far h.own (p := ⟨w.heap.size + 1, 2, none⟩) (fun k hk => by show k ≠ w.heap.size + 1; omega) x
theorem MS.setL (h : MS w P0_ wc kv lv kv1 lv1 ks ls) (x : Value) : MS w P0_ (wc.setCell ⟨w.heap.size + 1, 3, none⟩ x) kv lv kv1 x ks ls := by
 have h1 := blk_lt h.vb
 refine ⟨below_set h.bel (Nat.le_succ _), blk_far h.zb (p := ⟨w.heap.size + 1, 3, none⟩) (by show w.heap.size ≠ w.heap.size + 1; omega) x, blk_put h.vb 3 x rfl, ?_, ?_⟩
 ·exact Kd.R_mono (Kd.R_far (p := ⟨w.heap.size + 1, 3, none⟩) (Kd.R_bound h.own2) (fun k hk => by have h2 := hk.2.1; show k ≠ w.heap.size + 1; omega) x) (fun _ _ => trivial)
 ·exact Kd.N_far h.own (p := ⟨w.heap.size + 1, 3, none⟩) (fun k hk => by show k ≠ w.heap.size + 1; omega) x
end
theorem MS.stored {w : World} {P0_ : Nat → Prop} {wc : World} {kv lv kv1 lv1 : Value} {ks : List ByteArray} {ls : List S27} (h : MS w P0_ wc kv lv kv1 lv1 ks ls) (u0 u1 u2 u3 : Value) :
  let wf := (((wc.setCell ⟨w.heap.size, 0, none⟩ u0).setCell ⟨w.heap.size, 1, none⟩ u1).setCell ⟨w.heap.size, 2, none⟩ u2).setCell ⟨w.heap.size, 3, none⟩ u3
  wf.heap[w.heap.size]? = some (.cells #[u0, u1, u2, u3] 27 (0, 0)) ∧ Below w.heap.size w wf ∧ Kd.V Kd.string 9 wf w.heap.size (fun k => P0_ k ∨ w.heap.size ≤ k) kv ks ∧ Kd.V k27 27 wf w.heap.size (fun k => P0_ k ∨ w.heap.size ≤ k) lv ls := by
 have hst : ∀ (W : World) (j : Nat) (u : Value), Kd.R Kd.string 9 W (w.heap.size + 2) (fun _ => True) kv ks → Kd.R Kd.string 9 (W.setCell ⟨w.heap.size, j, none⟩ u) (w.heap.size + 2) (fun _ => True) kv ks := fun W j u hR =>
  Kd.R_mono (Kd.R_far (p := ⟨w.heap.size, j, none⟩) (Kd.R_bound hR) (fun k hk => by have h2 := hk.2.1; show k ≠ w.heap.size; omega) u) (fun _ _ => trivial)
 have hst2 : ∀ (W : World) (j : Nat) (u : Value), Kd.N k27 27 W (w.heap.size + 2) (fun k => (P0_ k ∧ k < w.heap.size ∨ w.heap.size + 2 ≤ k) ∧ some k ≠ kv.ownBlock) lv ls → Kd.N k27 27 (W.setCell ⟨w.heap.size, j, none⟩ u) (w.heap.size + 2) (fun k => (P0_ k ∧ k < w.heap.size ∨ w.heap.size + 2 ≤ k) ∧ some k ≠ kv.ownBlock) lv ls := fun W j u hN =>
  Kd.N_far hN (p := ⟨w.heap.size, j, none⟩) (fun k hk => by have := hk.1; show k ≠ w.heap.size; omega) u
 refine ⟨blk_put (blk_put (blk_put (blk_put h.zb 0 u0 rfl) 1 u1 rfl) 2 u2 rfl) 3 u3 rfl, below_set (below_set (below_set (below_set h.bel (Nat.le_refl _)) (Nat.le_refl _)) (Nat.le_refl _)) (Nat.le_refl _), ?_, ?_⟩
 ·exact Kd.V_mono (Kd.R_V (Kd.R_mono (Kd.R_bound (hst _ _ _ (hst _ _ _ (hst _ _ _ (hst _ _ _ h.own2))))) (ok' := fun k => w.heap.size + 2 ≤ k) (fun k hk => hk.2.1))) (fun k hk => .inr (by omega))
 ·exact Kd.V_mono (Kd.N_V (hst2 _ _ _ (hst2 _ _ _ (hst2 _ _ _ (hst2 _ _ _ h.own))))) (fun k hk => hk.1.elim (fun h => .inl h.1) (fun h => .inr (by omega)))
structure MT (w : World) (P0_ : Nat → Prop) (pb : Nat) (p0 p1 p2 p3 p4 : Value) (wc : World) (kv lv kv1 lv1 : Value) (ks : List ByteArray) (ls : List S27) : Prop where
 ms : MS w P0_ wc kv lv kv1 lv1 ks ls
 pbk : wc.heap[pb]? = some (.cells #[p0, p1, p2, p3, p4] 30 (0, 0))
 ge : w.heap.size + 2 ≤ pb
section
variable {w : World} {P0_ : Nat → Prop} {pb : Nat} {p0 p1 p2 p3 p4 : Value} {wc w2 : World} {kv lv kv1 lv1 v1 : Value} {ks : List ByteArray} {ls : List S27}
theorem MT.step (h : MT w P0_ pb p0 p1 p2 p3 p4 wc kv lv kv1 lv1 ks ls) (hb : Below wc.heap.size wc w2) : MT w P0_ pb p0 p1 p2 p3 p4 w2 kv lv kv1 lv1 ks ls :=
 ⟨h.ms.step hb, (hb.block _ (blk_lt h.pbk)).trans h.pbk, h.ge⟩
theorem MT.alloc (h : MT w P0_ pb p0 p1 p2 p3 p4 wc kv lv kv1 lv1 ks ls) (x : Obj) : MT w P0_ pb p0 p1 p2 p3 p4 (wc.alloc x) kv lv kv1 lv1 ks ls := h.step (below_alloc (Below.refl _ _) x)
theorem MT.drew (h : MT w P0_ pb p0 p1 p2 p3 p4 wc kv lv kv1 lv1 ks ls) : MT w P0_ pb p0 p1 p2 p3 p4 wc.drew kv lv kv1 lv1 ks ls := h.step (below_drew (Below.refl _ _))
theorem MT.appK (h : MT w P0_ pb p0 p1 p2 p3 p4 wc kv lv kv1 lv1 ks ls) {key : ByteArray} (hR : Kd.R Kd.string 9 w2 (w.heap.size + 2) (fun _ => True) v1 (ks ++ [key])) (hg : wc.grownBy w2 kv.ownBlock) (hat : v1.ownBlock = kv.ownBlock ∨ ∃ b, v1.ownBlock = some b ∧ wc.heap.size ≤ b) :
  MT w P0_ pb p0 p1 p2 p3 p4 w2 v1 lv kv1 lv1 (ks ++ [key]) ls :=
 ⟨h.ms.appK hR hg hat, blk_grown h.pbk hg (Kd.R_ne h.ms.own2 h.pbk (by decide)), h.ge⟩
theorem MT.appL (h : MT w P0_ pb p0 p1 p2 p3 p4 wc kv lv kv1 lv1 ks ls) {v : S27} (hR : Kd.N k27 27 w2 (w.heap.size + 2) (fun k => (P0_ k ∧ k < w.heap.size ∨ w.heap.size + 2 ≤ k) ∧ some k ≠ kv.ownBlock) v1 (ls ++ [v])) (hg : wc.grownBy w2 lv.ownBlock) :
  MT w P0_ pb p0 p1 p2 p3 p4 w2 kv v1 kv1 lv1 ks (ls ++ [v]) :=
 ⟨h.ms.appL hR hg, blk_grown h.pbk hg (Kd.N_ne h.ms.own h.pbk (by decide)), h.ge⟩
theorem MT.setK (h : MT w P0_ pb p0 p1 p2 p3 p4 wc kv lv kv1 lv1 ks ls) (x : Value) : MT w P0_ pb p0 p1 p2 p3 p4 (wc.setCell ⟨w.heap.size + 1, 2, none⟩ x) kv lv x lv1 ks ls :=
 ⟨h.ms.setK x, blk_far h.pbk (p := ⟨w.heap.size + 1, 2, none⟩) (by have := h.ge; show pb ≠ w.heap.size + 1; omega) x, h.ge⟩
theorem MT.setL (h : MT w P0_ pb p0 p1 p2 p3 p4 wc kv lv kv1 lv1 ks ls) (x : Value) : MT w P0_ pb p0 p1 p2 p3 p4 (wc.setCell ⟨w.heap.size + 1, 3, none⟩ x) kv lv kv1 x ks ls :=
 ⟨h.ms.setL x, blk_far h.pbk (p := ⟨w.heap.size + 1, 3, none⟩) (by have := h.ge; show pb ≠ w.heap.size + 1; omega) x, h.ge⟩
theorem MT.cells (h : MT w P0_ pb p0 p1 p2 p3 p4 wc kv lv kv1 lv1 ks ls) :
  (wc.cell? ⟨w.heap.size + 1, 2, none⟩ = some kv1 ∧ wc.cell? ⟨w.heap.size + 1, 3, none⟩ = some lv1) ∧ (wc.frozen? ⟨w.heap.size + 1, 2, none⟩ = false ∧ wc.frozen? ⟨w.heap.size + 1, 3, none⟩ = false) ∧
  (wc.cell? ⟨pb, 0, none⟩ = some p0 ∧ wc.cell? ⟨pb, 1, none⟩ = some p1 ∧ wc.cell? ⟨pb, 2, none⟩ = some p2 ∧ wc.cell? ⟨pb, 3, none⟩ = some p3 ∧ wc.cell? ⟨pb, 4, none⟩ = some p4) :=
 ⟨⟨blk_cell h.ms.vb 2, blk_cell h.ms.vb 3⟩, ⟨blk_frozen h.ms.vb 2, blk_frozen h.ms.vb 3⟩, blk_cell h.pbk 0, blk_cell h.pbk 1, blk_cell h.pbk 2, blk_cell h.pbk 3, blk_cell h.pbk 4⟩
theorem MT.held (h : MT w P0_ pb p0 p1 p2 p3 p4 wc kv lv kv1 lv1 ks ls) :
  wc.cell? ⟨w.heap.size + 1, 2, none⟩ = some kv1 ∧ wc.cell? ⟨w.heap.size + 1, 3, none⟩ = some lv1 ∧ wc.cell? ⟨pb, 0, none⟩ = some p0 ∧ wc.cell? ⟨pb, 1, none⟩ = some p1 ∧ wc.cell? ⟨pb, 2, none⟩ = some p2 ∧ wc.cell? ⟨pb, 3, none⟩ = some p3 ∧ wc.cell? ⟨pb, 4, none⟩ = some p4 :=
 ⟨h.cells.1.1, h.cells.1.2, h.cells.2.2⟩
theorem MT.ge2 (h : MT w P0_ pb p0 p1 p2 p3 p4 wc kv lv kv1 lv1 ks ls) : w.heap.size + 2 ≤ wc.heap.size := by have := blk_lt h.ms.vb; omega
theorem MT.okp (h : MT w P0_ pb p0 p1 p2 p3 p4 wc kv lv kv1 lv1 ks ls) : ∀ k, (P0_ k ∧ k < w.heap.size) → ((P0_ k ∧ k < w.heap.size ∨ w.heap.size + 2 ≤ k) ∧ some k ≠ kv.ownBlock) ∧ some k ≠ lv.ownBlock :=
 fun k hk => ⟨⟨.inl hk, fun e => by have := Kd.R_base h.ms.own2 k e.symm; omega⟩, fun e => by have := Kd.N_base h.ms.own k e.symm; omega⟩
theorem MT.fresh (h : MT w P0_ pb p0 p1 p2 p3 p4 wc kv lv kv1 lv1 ks ls) : ∀ k, wc.heap.size ≤ k → (P0_ k ∧ k < w.heap.size ∨ w.heap.size + 2 ≤ k) ∧ some k ≠ kv.ownBlock :=
 fun k hk => ⟨.inr (by have := h.ge2; omega), fun e => by have := Kd.R_lt h.ms.own2 k e.symm; omega⟩
theorem MT.okb (h : MT w P0_ pb p0 p1 p2 p3 p4 wc kv lv kv1 lv1 ks ls) {b : Nat} {cells : Array Value} (hb : w.heap.size + 2 ≤ b) (hc : wc.heap[b]? = some (.cells cells 27 (0, 0))) (hl : some b ≠ lv.ownBlock) :
  ∀ k, (k = b ∨ P0_ k ∧ k < w.heap.size) → ((P0_ k ∧ k < w.heap.size ∨ w.heap.size + 2 ≤ k) ∧ some k ≠ kv.ownBlock) ∧ some k ≠ lv.ownBlock := by
 rintro k (rfl | hk)
 ·exact ⟨⟨.inr hb, Kd.R_ne h.ms.own2 hc (by decide)⟩, hl⟩
 ·exact h.okp k hk
end
def json_Made.f (l0 : List S30) : Option (Int × ByteArray × List ByteArray × (List (S27))) := if l0.length ≤ 1000000 then some (6, ⟨#[]⟩, l0.map S30.f0, l0.map S30.f1) else none
set_option linter.unusedSimpArgs false in
set_option maxHeartbeats 3200000 in
set_option maxRecDepth 100000 in
theorem json_Made.calls (P0_ : Nat → Prop) (A0 : Option Addr) (c0 : Nat) (l0 : List S30) (r1 : Int) (r2 : ByteArray) (r3 : List ByteArray) (r4 : List (S27)) (w : World) (hs0 : Kd.V k30 30 w w.heap.size (fun k_ => P0_ k_) (.slice A0 l0.length c0) l0) (h : json_Made.f l0 = some (r1, r2, r3, r4)) :
  Calls Tryd.prog 11 #[.slice A0 l0.length c0] w fun e w' => ∃ v2_ v3_ : Value, e = .returned (.agg #[.int .i64 r1, .string r2, v2_, v3_]) ∧ Kd.V Kd.string 9 w' w.heap.size (fun k_ => (P0_ k_ ∨ w.heap.size ≤ k_)) v2_ r3 ∧ Kd.V k27 27 w' w.heap.size (fun k_ => (P0_ k_ ∨ w.heap.size ≤ k_)) v3_ r4 ∧ Below w.heap.size w w' := by
 unfold json_Made.f at h
 split at h
 case isFalse => cases h
 rename_i hlen
 simp only [Option.some.injEq, Prod.mk.injEq] at h
 obtain ⟨rfl, rfl, rfl, rfl⟩ := h
 have hA0 : MS w P0_ ((w.alloc (.cells #[.int .i64 0, .string ⟨#[]⟩, .slice none 0 0, .slice none 0 0] 27)).alloc (.cells #[.int .i64 6, .string ⟨#[]⟩, .slice none 0 0, .slice none 0 0] 27)) (.slice none 0 0) (.slice none 0 0) (.slice none 0 0) (.slice none 0 0) [] [] :=
  ⟨below_alloc (below_alloc (Below.refl _ _) _) _, blk_alloc (blk_new _ _) _, by have := blk_new (w.alloc (.cells #[.int .i64 0, .string ⟨#[]⟩, .slice none 0 0, .slice none 0 0] 27)) (.cells #[.int .i64 6, .string ⟨#[]⟩, .slice none 0 0, .slice none 0 0] 27); simpa using this, Kd.R_nil _ _ _ _ _, Kd.N_nil _ _ _ _ _⟩
 have hA1 := Lib.hid hA0
 clear hA0
 go_enter Tryd.func11, Tryd.ntmps11
 go_wp2_with fail
 go_loopg [9] l0.length (fun kq v9 wc => ∃ (i : Nat) (kv lv : Value), v9 = .int .i64 i ∧ i + kq = l0.length ∧ MS w P0_ wc kv lv kv lv ((l0.map S30.f0).take i) ((l0.map S30.f1).take i))
 case atStart => exact ⟨0, _, _, rfl, by omega, hA1.out⟩
 case round =>
  obtain ⟨i, kv, lv, rfl, hik, hS⟩ := hrel
  clear hA1
  by_cases hi : i < l0.length
  ·obtain ⟨kj, rfl⟩ : ∃ kj, gk = kj + 1 := ⟨gk - 1, by omega⟩
   have hV := Kd.V_old hs0 hS.bel
   obtain ⟨ad, rfl⟩ : ∃ ad, A0 = some ad := by
    obtain ⟨ad, _, _, _, _, e, _⟩ := at_T30 (Kd.V_reads' hs0).2.2 (i : Int) (by omega) (by omega)
    exact ⟨ad, e⟩
   obtain ⟨cs, hcl, hFK, hcc⟩ := Kd.V_get hV z30 (i : Int) (by omega) (by omega)
   rw [show ((i : Int)).toNat = i from rfl] at hFK hcc
   generalize hx : l0.getD i z30 = x at hFK
   obtain ⟨A3, c3, A4, c4, rfl, l3, g3, l4, g4⟩ := k30_openF hFK
   have hcc2 : ∀ j u, [Value.string x.f0, Value.int IntKind.i64 x.f1.f0, Value.string x.f1.f1, Value.slice A3 x.f1.f2.length c3, Value.slice A4 x.f1.f3.length c4][j]? = some u → wr.cell? (ad.add (i * 5 + j)) = some u := hcc
   have hc0 : wr.cell? (ad.add (i * 5)) = some (.string x.f0) := hcc2 0 _ rfl
   have hc1 : wr.cell? ⟨(ad.add (i * 5)).block, (ad.add (i * 5)).off + 1, none⟩ = some (.int .i64 x.f1.f0) := by rw [← add_field _ _ 1 (by omega)]; exact hcc2 1 _ rfl
   have hc2 : wr.cell? ⟨(ad.add (i * 5)).block, (ad.add (i * 5)).off + 2, none⟩ = some (.string x.f1.f1) := by rw [← add_field _ _ 2 (by omega)]; exact hcc2 2 _ rfl
   have hc3 : wr.cell? ⟨(ad.add (i * 5)).block, (ad.add (i * 5)).off + 3, none⟩ = some (.slice A3 x.f1.f2.length c3) := by rw [← add_field _ _ 3 (by omega)]; exact hcc2 3 _ rfl
   have hc4 : wr.cell? ⟨(ad.add (i * 5)).block, (ad.add (i * 5)).off + 4, none⟩ = some (.slice A4 x.f1.f3.length c4) := by rw [← add_field _ _ 4 (by omega)]; exact hcc2 4 _ rfl
   clear hcc hcc2 hcl
   go_wp2_with fail
   have hT0 : MT w P0_ wr.heap.size (.string x.f0) (.int .i64 x.f1.f0) (.string x.f1.f1) (.slice A3 x.f1.f2.length c3) (.slice A4 x.f1.f3.length c4) (wr.alloc (.cells #[.string x.f0, .int .i64 x.f1.f0, .string x.f1.f1, .slice A3 x.f1.f2.length c3, .slice A4 x.f1.f3.length c4] 30)) kv lv kv lv ((l0.map S30.f0).take i) ((l0.map S30.f1).take i) :=
    ⟨hS.alloc _, blk_new _ _, by have := blk_lt hS.vb; omega⟩
   generalize hw3 : wr.alloc (.cells #[.string x.f0, .int .i64 x.f1.f0, .string x.f1.f1, .slice A3 x.f1.f2.length c3, .slice A4 x.f1.f3.length c4] 30) = w3 at hT0 ⊢
   have hb3 : Below wr.heap.size wr w3 := by rw [← hw3]; exact below_alloc (Below.refl _ _) _
   have hlt0 := blk_lt hS.vb
   have hkl : ((l0.map S30.f0).take i).length ≤ 1000000 := by simp; omega
   have hll : ((l0.map S30.f1).take i).length ≤ 1000000 := by simp; omega
   have hkx : (l0.map S30.f0).take (i + 1) = (l0.map S30.f0).take i ++ [x.f0] := by
    rw [List.take_add_one, List.getElem?_map, ← hx, List.getD_eq_getElem?_getD, List.getElem?_eq_getElem hi]; rfl
   have hlx : (l0.map S30.f1).take (i + 1) = (l0.map S30.f1).take i ++ [x.f1] := by
    rw [List.take_add_one, List.getElem?_map, ← hx, List.getD_eq_getElem?_getD, List.getElem?_eq_getElem hi]; rfl
   have hF0 : Kd.FK k27 wr (fun k => P0_ k ∧ k < w.heap.size) x.f1 [.int .i64 x.f1.f0, .string x.f1.f1, .slice A3 x.f1.f2.length c3, .slice A4 x.f1.f3.length c4] := k27_mkF wr _ x.f1 l3 g3 l4 g4
   clear hw3 hc0 hc1 hc2 hc3 hc4 hs0 hV hx hFK
   have hbd : Below wr.heap.size wr w3.drew := below_drew hb3
   have hFd : Kd.FK k27 w3.drew (fun k => P0_ k ∧ k < w.heap.size) x.f1 [.int .i64 x.f1.f0, .string x.f1.f1, .slice A3 x.f1.f2.length c3, .slice A4 x.f1.f3.length c4] := Kd.FK_below hF0 hbd
   clear hF0 hb3 hbd
   generalize wr.heap.size = pb at hT0 hlt0 ⊢
   obtain ⟨Ak, nk, ck, rfl⟩ : ∃ A n c, kv = .slice A n c := (by obtain ⟨A, c, e⟩ := Kd.R_slice hS.own2; exact ⟨_, _, _, e⟩)
   obtain ⟨Al, nl, cl, rfl⟩ : ∃ A n c, lv = .slice A n c := (by obtain ⟨A, c, e⟩ := Kd.N_slice hS.own; exact ⟨_, _, _, e⟩)
   clear hS
   generalize (l0.map S30.f0).take i = ks at hT0 hkl hkx
   generalize (l0.map S30.f1).take i = ls at hT0 hll hlx
   have hTd := hT0.drew
   have hgd := hTd.ge2
   refine start_ (n := 16) (S := fun w' => w'.cell? ⟨w.heap.size + 1, 2, none⟩ = some (.slice Ak nk ck) ∧ w'.cell? ⟨w.heap.size + 1, 3, none⟩ = some (.slice Al nl cl) ∧ w'.cell? ⟨pb, 0, none⟩ = some (.string x.f0) ∧ w'.cell? ⟨pb, 1, none⟩ = some (.int .i64 x.f1.f0) ∧ w'.cell? ⟨pb, 2, none⟩ = some (.string x.f1.f1) ∧ w'.cell? ⟨pb, 3, none⟩ = some (.slice A3 x.f1.f2.length c3) ∧ w'.cell? ⟨pb, 4, none⟩ = some (.slice A4 x.f1.f3.length c4)) (ds := [13, 15]) #[false, false, false, false, false, false, false, false, false, false, false, false, false, false, false, false] (by kernel_rfl) rfl rfl hTd.held (fun hHeld => ?_)
   refine pure_ (i := 0) (N := some 13) (v := ?_) (a' := ?_) #[true, false, false, false, false, false, false, false, false, false, false, false, false, false, false, false] rfl rfl (by kernel_rfl) (fun _ _ _ h => h) (Or.inl ⟨by rfl, ?_⟩) ?_ ?_
   rotate_left
   ·intro w'
    go_simp
    with_reducible rfl
   rotate_left
   ·simp only [Act.put, List.setIfInBounds_toArray, List.set_cons_zero, List.set_cons_succ, i64_w, i32_w]
    rfl
   refine take_ (i := 1) (N := some 14) (v := ?_) (a' := ?_) #[true, true, false, false, false, false, false, false, false, false, false, false, false, false, false, false] rfl rfl (by kernel_rfl) (fun _ _ _ h => h) (Or.inl ⟨by rfl, ?_⟩) hHeld ?_ ?_
   rotate_left
   ·rintro w' ⟨s0, s1, s2, s3, s4, s5, s6⟩
    go_simp
    with_reducible rfl
   rotate_left
   ·simp only [Act.put, List.setIfInBounds_toArray, List.set_cons_zero, List.set_cons_succ, i64_w, i32_w]
    rfl
   refine pure_ (i := 2) (N := some 15) (v := ?_) (a' := ?_) #[true, true, true, false, false, false, false, false, false, false, false, false, false, false, false, false] rfl rfl (by kernel_rfl) (fun _ _ _ h => h) (Or.inl ⟨by rfl, ?_⟩) ?_ ?_
   rotate_left
   ·intro w'
    go_simp
    with_reducible rfl
   rotate_left
   ·simp only [Act.put, List.setIfInBounds_toArray, List.set_cons_zero, List.set_cons_succ, i64_w, i32_w]
    rfl
   refine take_ (i := 3) (N := some 16) (v := ?_) (a' := ?_) #[true, true, true, true, false, false, false, false, false, false, false, false, false, false, false, false] rfl rfl (by kernel_rfl) (fun _ _ _ h => h) (Or.inl ⟨by rfl, ?_⟩) hHeld ?_ ?_
   rotate_left
   ·rintro w' ⟨s0, s1, s2, s3, s4, s5, s6⟩
    go_simp
    with_reducible rfl
   rotate_left
   ·simp only [Act.put, List.setIfInBounds_toArray, List.set_cons_zero, List.set_cons_succ, i64_w, i32_w]
    rfl
   refine pure_ (i := 6) (N := some 19) (v := ?_) (a' := ?_) #[true, true, true, true, false, false, true, false, false, false, false, false, false, false, false, false] rfl rfl (by kernel_rfl) (fun _ _ _ h => h) (Or.inl ⟨by rfl, ?_⟩) ?_ ?_
   rotate_left
   ·intro w'
    go_simp
    with_reducible rfl
   rotate_left
   ·simp only [Act.put, List.setIfInBounds_toArray, List.set_cons_zero, List.set_cons_succ, i64_w, i32_w]
    rfl
   refine take_ (i := 7) (N := some 20) (v := ?_) (a' := ?_) #[true, true, true, true, false, false, true, true, false, false, false, false, false, false, false, false] rfl rfl (by kernel_rfl) (fun _ _ _ h => h) (Or.inl ⟨by rfl, ?_⟩) hHeld ?_ ?_
   rotate_left
   ·rintro w' ⟨s0, s1, s2, s3, s4, s5, s6⟩
    go_simp
    with_reducible rfl
   rotate_left
   ·simp only [Act.put, List.setIfInBounds_toArray, List.set_cons_zero, List.set_cons_succ, i64_w, i32_w]
    rfl
   refine pure_ (i := 8) (N := some 21) (v := ?_) (a' := ?_) #[true, true, true, true, false, false, true, true, true, false, false, false, false, false, false, false] rfl rfl (by kernel_rfl) (fun _ _ _ h => h) (Or.inl ⟨by rfl, ?_⟩) ?_ ?_
   rotate_left
   ·intro w'
    go_simp
    with_reducible rfl
   rotate_left
   ·simp only [Act.put, List.setIfInBounds_toArray, List.set_cons_zero, List.set_cons_succ, i64_w, i32_w]
    rfl
   refine take_ (i := 9) (N := some 22) (v := ?_) (a' := ?_) #[true, true, true, true, false, false, true, true, true, true, false, false, false, false, false, false] rfl rfl (by kernel_rfl) (fun _ _ _ h => h) (Or.inl ⟨by rfl, ?_⟩) hHeld ?_ ?_
   rotate_left
   ·rintro w' ⟨s0, s1, s2, s3, s4, s5, s6⟩
    go_simp
    with_reducible rfl
   rotate_left
   ·simp only [Act.put, List.setIfInBounds_toArray, List.set_cons_zero, List.set_cons_succ, i64_w, i32_w]
    rfl
   refine two_ (i := 4) (j := 10) (Ni := some 17) (Nj := some 23) #[true, true, true, true, true, false, true, true, true, true, false, false, false, false, false, false] #[true, true, true, true, false, false, true, true, true, true, true, false, false, false, false, false] rfl rfl rfl rfl (by kernel_rfl) (by decide) (by decide) (fun K hK => ?_) (fun K hK => ?_)
   ·skip
    refine value_ (w1 := ?_) (v := ?_) (by rfl) rfl ?_ ?_
    rotate_left 2
    ·go_simp
     constructor
     ·rfl
     ·rfl
    refine hK.out _ _ (hTd.alloc _).held (fun hHeld => ?_)
    clear hK K
    refine norm_ (a' := ?_) ?_ ?_
    rotate_left
    ·show Act.put _ (some 17) _ = _
     simp only [Act.put, List.setIfInBounds_toArray, List.set_cons_zero, List.set_cons_succ, i64_w, i32_w]
     rfl
    refine two_ (i := 5) (j := 10) (Ni := some 18) (Nj := some 23) #[true, true, true, true, true, true, true, true, true, true, false, false, false, false, false, false] #[true, true, true, true, true, false, true, true, true, true, true, false, false, false, false, false] rfl rfl rfl rfl (by kernel_rfl) (by decide) (by decide) (fun K hK => ?_) (fun K hK => ?_)
    ·skip
     refine Kd.R_append_step Kd.string (W := w3.drew) (w0 := w3.drew) (w.heap.size + 2) (by rfl) (.tmp 14) (.tmp 17) 22 9 _ 16 rfl Tryd.underlying22 info9 rfl (by decide) (by decide) (.slice Ak nk ck) ks x.f0 [.string x.f0] (fun _ => True) (fun _ => False) (by rfl) (by first | rfl | (simp; done) | (simp; rfl)) rfl (fun k hk => hk.elim) (fun _ _ => trivial) hTd.ms.own2 (Below.refl _ _) hTd.ge2 (by omega) ?_
     intro v1 w7 hR7 hB7 hg7 hat7
     have hT7 := hTd.appK hR7 hg7 hat7
     have hF7 := Kd.FK_grown hFd hg7 (fun k hk e => by have := Kd.R_base hTd.ms.own2 k e.symm; have := hk.2; omega)
     obtain ⟨A2, n2, cp2, rfl⟩ : ∃ A n c, v1 = .slice A n c := (by obtain ⟨A, c, e⟩ := Kd.R_slice hR7; exact ⟨_, _, _, e⟩)
     refine hK.out _ _ hT7.held (fun hHeld => ?_)
     clear hK K
     refine norm_ (a' := ?_) ?_ ?_
     rotate_left
     ·show Act.put _ (some 18) _ = _
      simp only [Act.put, List.setIfInBounds_toArray, List.set_cons_zero, List.set_cons_succ, i64_w, i32_w]
      rfl
     refine pure_ (i := 12) (N := some 25) (v := ?_) (a' := ?_) #[true, true, true, true, true, true, true, true, true, true, false, false, true, false, false, false] rfl rfl (by kernel_rfl) (fun _ _ _ h => h) (Or.inl ⟨by rfl, ?_⟩) ?_ ?_
     rotate_left
     ·intro w'
      go_simp
      with_reducible rfl
     rotate_left
     ·simp only [Act.put, List.setIfInBounds_toArray, List.set_cons_zero, List.set_cons_succ, i64_w, i32_w]
      rfl
     refine one_ (i := 10) (N := some 23) #[true, true, true, true, true, true, true, true, true, true, true, false, true, false, false, false] rfl rfl (by kernel_rfl) (by decide) (fun K hK => ?_)
     refine value_ (w1 := ?_) (v := ?_) (by rfl) rfl ?_ ?_
     rotate_left 2
     ·go_simp
      constructor
      ·rfl
      ·rfl
     refine hK.out _ _ (hT7.alloc _).held (fun hHeld => ?_)
     clear hK K
     refine norm_ (a' := ?_) ?_ ?_
     rotate_left
     ·show Act.put _ (some 23) _ = _
      simp only [Act.put, List.setIfInBounds_toArray, List.set_cons_zero, List.set_cons_succ, i64_w, i32_w]
      rfl
     refine one_ (i := 11) (N := some 24) #[true, true, true, true, true, true, true, true, true, true, true, true, true, false, false, false] rfl rfl (by kernel_rfl) (by decide) (fun K hK => ?_)
     refine Kd.N_append_step k27 (W := w7) (w0 := w7) (w.heap.size + 2) (by rfl) (.tmp 20) (.tmp 23) 25 27 _ 72 rfl Tryd.underlying25 info27 rfl (by decide) (by decide) (.slice Al nl cl) ls x.f1 [.int .i64 x.f1.f0, .string x.f1.f1, .slice A3 x.f1.f2.length c3, .slice A4 x.f1.f3.length c4] (fun k => (P0_ k ∧ k < w.heap.size ∨ w.heap.size + 2 ≤ k) ∧ some k ≠ (Value.slice A2 n2 cp2).ownBlock) (fun k => P0_ k ∧ k < w.heap.size) (by rfl) (by first | rfl | (simp; done) | (simp; rfl)) hF7 hT7.okp hT7.fresh hT7.ms.own (Below.refl _ _) hT7.ge2 (by omega) ?_
     intro v2 w8 hR8 hB8 hg8 hat8
     have hT8 := hT7.appL hR8 hg8
     obtain ⟨A5, n5, cp5, rfl⟩ : ∃ A n c, v2 = .slice A n c := (by obtain ⟨A, c, e⟩ := Kd.N_slice hR8; exact ⟨_, _, _, e⟩)
     refine hK.out _ _ hT8.held (fun hHeld => ?_)
     clear hK K
     refine norm_ (a' := ?_) ?_ ?_
     rotate_left
     ·show Act.put _ (some 24) _ = _
      simp only [Act.put, List.setIfInBounds_toArray, List.set_cons_zero, List.set_cons_succ, i64_w, i32_w]
      rfl
     refine last_ (i := 13) (N := none) #[true, true, true, true, true, true, true, true, true, true, true, true, true, true, false, false] rfl rfl (by kernel_rfl) (by decide) (fun K hK => ?_)
     have hs13 := hT8.cells.1.1
     have hfs13 := hT8.cells.2.1.1
     refine skip_ (w1 := ?_) (by rfl) rfl ?_ ?_
     rotate_left
     ·go_simp
      rfl
     refine hK.out _ _ ?_
     clear hK K
     have hT9 := hT8.setK (.slice A2 n2 cp2)
     refine pure_ (i := 14) (N := some 26) (v := ?_) (a' := ?_) #[true, true, true, true, true, true, true, true, true, true, true, true, true, true, true, false] rfl rfl (by kernel_rfl) (fun _ _ _ h => h) (Or.inl ⟨by rfl, ?_⟩) ?_ ?_
     rotate_left
     ·intro w'
      go_simp
      with_reducible rfl
     rotate_left
     ·simp only [Act.put, List.setIfInBounds_toArray, List.set_cons_zero, List.set_cons_succ, i64_w, i32_w]
      rfl
     refine last_ (i := 15) (N := none) #[true, true, true, true, true, true, true, true, true, true, true, true, true, true, true, true] rfl rfl (by kernel_rfl) (by decide) (fun K hK => ?_)
     have hs15 := hT9.cells.1.2
     have hfs15 := hT9.cells.2.1.2
     refine skip_ (w1 := ?_) (by rfl) rfl ?_ ?_
     rotate_left
     ·go_simp
      rfl
     refine hK.out _ _ ?_
     clear hK K
     have hTA := hT9.setL (.slice A5 n5 cp5)
     refine done_ (by kernel_rfl) ?_
     try go_wp2
     go_roundg kj
     case measure => omega
     case rel => exact ⟨i + 1, _, _, rfl, by omega, by rw [hkx, hlx]; exact hTA.ms⟩
    ·skip
     refine value_ (w1 := ?_) (v := ?_) (by rfl) rfl ?_ ?_
     rotate_left 2
     ·go_simp
      constructor
      ·rfl
      ·rfl
     refine hK.out _ _ ((hTd.alloc _).alloc _).held (fun hHeld => ?_)
     clear hK K
     refine norm_ (a' := ?_) ?_ ?_
     rotate_left
     ·show Act.put _ (some 23) _ = _
      simp only [Act.put, List.setIfInBounds_toArray, List.set_cons_zero, List.set_cons_succ, i64_w, i32_w]
      rfl
     refine one_ (i := 5) (N := some 18) #[true, true, true, true, true, true, true, true, true, true, true, false, false, false, false, false] rfl rfl (by kernel_rfl) (by decide) (fun K hK => ?_)
     have hq9 := blk_alloc (blk_new w3.drew (.cells #[.string x.f0] 9)) (.cells #[.int .i64 x.f1.f0, .string x.f1.f1, .slice A3 x.f1.f2.length c3, .slice A4 x.f1.f3.length c4] 27)
     have hq27 := blk_new (w3.drew.alloc (.cells #[.string x.f0] 9)) (.cells #[.int .i64 x.f1.f0, .string x.f1.f1, .slice A3 x.f1.f2.length c3, .slice A4 x.f1.f3.length c4] 27)
     refine Kd.R_append_rows_step Kd.string (W := (w3.drew.alloc (.cells #[.string x.f0] 9)).alloc (.cells #[.int .i64 x.f1.f0, .string x.f1.f1, .slice A3 x.f1.f2.length c3, .slice A4 x.f1.f3.length c4] 27)) (w0 := (w3.drew.alloc (.cells #[.string x.f0] 9)).alloc (.cells #[.int .i64 x.f1.f0, .string x.f1.f1, .slice A3 x.f1.f2.length c3, .slice A4 x.f1.f3.length c4] 27)) (w.heap.size + 2) (by rfl) (.tmp 14) (.tmp 17) 22 9 _ 16 rfl Tryd.underlying22 info9 rfl (by decide) (by decide) (.slice Ak nk ck) ks [x.f0] (some ⟨w3.drew.heap.size, 0, none⟩) 1 1 (fun _ => True) (fun _ => False) (by rfl) (by first | rfl | (simp; done) | (simp; rfl)) ((hTd.alloc _).alloc _).ms.own2 (Kd.F_rows (F_lit (ok := fun _ => True) (c := [.string x.f0]) hq9 (fun _ _ => rfl))) (fun _ _ hk => Kd.FK_now hk) (fun k hk => hk.elim) (fun _ _ => trivial) (Below.refl _ _) ((hTd.alloc _).alloc _).ge2 (by omega) ?_
     intro v1 w7 hR7 hB7 hg7 hat7
     have hT7 := ((hTd.alloc _).alloc _).appK hR7 hg7 hat7
     have hF7 := Kd.FK_grown (Kd.FK_below (Kd.FK_below hFd (below_alloc (Below.refl _ _) _)) (below_alloc (Below.refl _ _) _)) hg7 (fun k hk e => by have := Kd.R_base hTd.ms.own2 k e.symm; have := hk.2; omega)
     obtain ⟨A2, n2, cp2, rfl⟩ : ∃ A n c, v1 = .slice A n c := (by obtain ⟨A, c, e⟩ := Kd.R_slice hR7; exact ⟨_, _, _, e⟩)
     have hbl := blk_grown hq27 hg7 (fun e => Kd.R_ne ((hTd.alloc _).alloc _).ms.own2 hq27 (by decide) e)
     refine hK.out _ _ hT7.held (fun hHeld => ?_)
     clear hK K
     refine norm_ (a' := ?_) ?_ ?_
     rotate_left
     ·show Act.put _ (some 18) _ = _
      simp only [Act.put, List.setIfInBounds_toArray, List.set_cons_zero, List.set_cons_succ, i64_w, i32_w]
      rfl
     refine pure_ (i := 12) (N := some 25) (v := ?_) (a' := ?_) #[true, true, true, true, true, true, true, true, true, true, true, false, true, false, false, false] rfl rfl (by kernel_rfl) (fun _ _ _ h => h) (Or.inl ⟨by rfl, ?_⟩) ?_ ?_
     rotate_left
     ·intro w'
      go_simp
      with_reducible rfl
     rotate_left
     ·simp only [Act.put, List.setIfInBounds_toArray, List.set_cons_zero, List.set_cons_succ, i64_w, i32_w]
      rfl
     refine one_ (i := 11) (N := some 24) #[true, true, true, true, true, true, true, true, true, true, true, true, true, false, false, false] rfl rfl (by kernel_rfl) (by decide) (fun K hK => ?_)
     refine Kd.N_append_rows_step k27 (W := w7) (w0 := w7) (w.heap.size + 2) (by rfl) (.tmp 20) (.tmp 23) 25 27 _ 72 rfl Tryd.underlying25 info27 rfl (by decide) (by decide) (.slice Al nl cl) ls [x.f1] (some ⟨(w3.drew.alloc (.cells #[.string x.f0] 9)).heap.size, 0, none⟩) 1 1 (fun k => (P0_ k ∧ k < w.heap.size ∨ w.heap.size + 2 ≤ k) ∧ some k ≠ (Value.slice A2 n2 cp2).ownBlock) (fun k => k = (w3.drew.alloc (.cells #[.string x.f0] 9)).heap.size ∨ (P0_ k ∧ k < w.heap.size)) (by rfl) (by first | rfl | (simp; done) | (simp; rfl)) hT7.ms.own (F_lit (c := [.int .i64 x.f1.f0, .string x.f1.f1, .slice A3 x.f1.f2.length c3, .slice A4 x.f1.f3.length c4]) hbl hF7) (hT7.okb (by have := hT0.ge2; simp; omega) hbl (fun e => by have := Kd.N_lt hTd.ms.own _ e.symm; first | (simp at this; done) | (simp at this; omega))) hT7.fresh (Below.refl _ _) hT7.ge2 (by omega) ?_
     intro v2 w8 hR8 hB8 hg8 hat8
     have hT8 := hT7.appL hR8 hg8
     obtain ⟨A5, n5, cp5, rfl⟩ : ∃ A n c, v2 = .slice A n c := (by obtain ⟨A, c, e⟩ := Kd.N_slice hR8; exact ⟨_, _, _, e⟩)
     refine hK.out _ _ hT8.held (fun hHeld => ?_)
     clear hK K
     refine norm_ (a' := ?_) ?_ ?_
     rotate_left
     ·show Act.put _ (some 24) _ = _
      simp only [Act.put, List.setIfInBounds_toArray, List.set_cons_zero, List.set_cons_succ, i64_w, i32_w]
      rfl
     refine last_ (i := 13) (N := none) #[true, true, true, true, true, true, true, true, true, true, true, true, true, true, false, false] rfl rfl (by kernel_rfl) (by decide) (fun K hK => ?_)
     have hs13 := hT8.cells.1.1
     have hfs13 := hT8.cells.2.1.1
     refine skip_ (w1 := ?_) (by rfl) rfl ?_ ?_
     rotate_left
     ·go_simp
      rfl
     refine hK.out _ _ ?_
     clear hK K
     have hT9 := hT8.setK (.slice A2 n2 cp2)
     refine pure_ (i := 14) (N := some 26) (v := ?_) (a' := ?_) #[true, true, true, true, true, true, true, true, true, true, true, true, true, true, true, false] rfl rfl (by kernel_rfl) (fun _ _ _ h => h) (Or.inl ⟨by rfl, ?_⟩) ?_ ?_
     rotate_left
     ·intro w'
      go_simp
      with_reducible rfl
     rotate_left
     ·simp only [Act.put, List.setIfInBounds_toArray, List.set_cons_zero, List.set_cons_succ, i64_w, i32_w]
      rfl
     refine last_ (i := 15) (N := none) #[true, true, true, true, true, true, true, true, true, true, true, true, true, true, true, true] rfl rfl (by kernel_rfl) (by decide) (fun K hK => ?_)
     have hs15 := hT9.cells.1.2
     have hfs15 := hT9.cells.2.1.2
     refine skip_ (w1 := ?_) (by rfl) rfl ?_ ?_
     rotate_left
     ·go_simp
      rfl
     refine hK.out _ _ ?_
     clear hK K
     have hTA := hT9.setL (.slice A5 n5 cp5)
     refine done_ (by kernel_rfl) ?_
     try go_wp2
     go_roundg kj
     case measure => omega
     case rel => exact ⟨i + 1, _, _, rfl, by omega, by rw [hkx, hlx]; exact hTA.ms⟩
   ·skip
    refine value_ (w1 := ?_) (v := ?_) (by rfl) rfl ?_ ?_
    rotate_left 2
    ·go_simp
     constructor
     ·rfl
     ·rfl
    refine hK.out _ _ (hTd.alloc _).held (fun hHeld => ?_)
    clear hK K
    refine norm_ (a' := ?_) ?_ ?_
    rotate_left
    ·show Act.put _ (some 23) _ = _
     simp only [Act.put, List.setIfInBounds_toArray, List.set_cons_zero, List.set_cons_succ, i64_w, i32_w]
     rfl
    refine one_ (i := 4) (N := some 17) #[true, true, true, true, true, false, true, true, true, true, true, false, false, false, false, false] rfl rfl (by kernel_rfl) (by decide) (fun K hK => ?_)
    refine value_ (w1 := ?_) (v := ?_) (by rfl) rfl ?_ ?_
    rotate_left 2
    ·go_simp
     constructor
     ·rfl
     ·rfl
    refine hK.out _ _ ((hTd.alloc _).alloc _).held (fun hHeld => ?_)
    clear hK K
    refine norm_ (a' := ?_) ?_ ?_
    rotate_left
    ·show Act.put _ (some 17) _ = _
     simp only [Act.put, List.setIfInBounds_toArray, List.set_cons_zero, List.set_cons_succ, i64_w, i32_w]
     rfl
    refine one_ (i := 5) (N := some 18) #[true, true, true, true, true, true, true, true, true, true, true, false, false, false, false, false] rfl rfl (by kernel_rfl) (by decide) (fun K hK => ?_)
    have hq27 := blk_new w3.drew (.cells #[.int .i64 x.f1.f0, .string x.f1.f1, .slice A3 x.f1.f2.length c3, .slice A4 x.f1.f3.length c4] 27)
    refine Kd.R_append_step Kd.string (W := w3.drew.alloc (.cells #[.int .i64 x.f1.f0, .string x.f1.f1, .slice A3 x.f1.f2.length c3, .slice A4 x.f1.f3.length c4] 27)) (w0 := w3.drew.alloc (.cells #[.int .i64 x.f1.f0, .string x.f1.f1, .slice A3 x.f1.f2.length c3, .slice A4 x.f1.f3.length c4] 27)) (w.heap.size + 2) (by rfl) (.tmp 14) (.tmp 17) 22 9 _ 16 rfl Tryd.underlying22 info9 rfl (by decide) (by decide) (.slice Ak nk ck) ks x.f0 [.string x.f0] (fun _ => True) (fun _ => False) (by rfl) (by first | rfl | (simp; done) | (simp; rfl)) rfl (fun k hk => hk.elim) (fun _ _ => trivial) (hTd.alloc _).ms.own2 (Below.refl _ _) (hTd.alloc _).ge2 (by omega) ?_
    intro v1 w7 hR7 hB7 hg7 hat7
    have hT7 := (hTd.alloc _).appK hR7 hg7 hat7
    have hF7 := Kd.FK_grown (Kd.FK_below hFd (below_alloc (Below.refl _ _) _)) hg7 (fun k hk e => by have := Kd.R_base hTd.ms.own2 k e.symm; have := hk.2; omega)
    obtain ⟨A2, n2, cp2, rfl⟩ : ∃ A n c, v1 = .slice A n c := (by obtain ⟨A, c, e⟩ := Kd.R_slice hR7; exact ⟨_, _, _, e⟩)
    have hbl := blk_grown hq27 hg7 (fun e => Kd.R_ne (hTd.alloc _).ms.own2 hq27 (by decide) e)
    refine hK.out _ _ hT7.held (fun hHeld => ?_)
    clear hK K
    refine norm_ (a' := ?_) ?_ ?_
    rotate_left
    ·show Act.put _ (some 18) _ = _
     simp only [Act.put, List.setIfInBounds_toArray, List.set_cons_zero, List.set_cons_succ, i64_w, i32_w]
     rfl
    refine pure_ (i := 12) (N := some 25) (v := ?_) (a' := ?_) #[true, true, true, true, true, true, true, true, true, true, true, false, true, false, false, false] rfl rfl (by kernel_rfl) (fun _ _ _ h => h) (Or.inl ⟨by rfl, ?_⟩) ?_ ?_
    rotate_left
    ·intro w'
     go_simp
     with_reducible rfl
    rotate_left
    ·simp only [Act.put, List.setIfInBounds_toArray, List.set_cons_zero, List.set_cons_succ, i64_w, i32_w]
     rfl
    refine one_ (i := 11) (N := some 24) #[true, true, true, true, true, true, true, true, true, true, true, true, true, false, false, false] rfl rfl (by kernel_rfl) (by decide) (fun K hK => ?_)
    refine Kd.N_append_rows_step k27 (W := w7) (w0 := w7) (w.heap.size + 2) (by rfl) (.tmp 20) (.tmp 23) 25 27 _ 72 rfl Tryd.underlying25 info27 rfl (by decide) (by decide) (.slice Al nl cl) ls [x.f1] (some ⟨w3.drew.heap.size, 0, none⟩) 1 1 (fun k => (P0_ k ∧ k < w.heap.size ∨ w.heap.size + 2 ≤ k) ∧ some k ≠ (Value.slice A2 n2 cp2).ownBlock) (fun k => k = w3.drew.heap.size ∨ (P0_ k ∧ k < w.heap.size)) (by rfl) (by first | rfl | (simp; done) | (simp; rfl)) hT7.ms.own (F_lit (c := [.int .i64 x.f1.f0, .string x.f1.f1, .slice A3 x.f1.f2.length c3, .slice A4 x.f1.f3.length c4]) hbl hF7) (hT7.okb (by have := hT0.ge2; simp; omega) hbl (fun e => by have := Kd.N_lt hTd.ms.own _ e.symm; first | (simp at this; done) | (simp at this; omega))) hT7.fresh (Below.refl _ _) hT7.ge2 (by omega) ?_
    intro v2 w8 hR8 hB8 hg8 hat8
    have hT8 := hT7.appL hR8 hg8
    obtain ⟨A5, n5, cp5, rfl⟩ : ∃ A n c, v2 = .slice A n c := (by obtain ⟨A, c, e⟩ := Kd.N_slice hR8; exact ⟨_, _, _, e⟩)
    refine hK.out _ _ hT8.held (fun hHeld => ?_)
    clear hK K
    refine norm_ (a' := ?_) ?_ ?_
    rotate_left
    ·show Act.put _ (some 24) _ = _
     simp only [Act.put, List.setIfInBounds_toArray, List.set_cons_zero, List.set_cons_succ, i64_w, i32_w]
     rfl
    refine last_ (i := 13) (N := none) #[true, true, true, true, true, true, true, true, true, true, true, true, true, true, false, false] rfl rfl (by kernel_rfl) (by decide) (fun K hK => ?_)
    have hs13 := hT8.cells.1.1
    have hfs13 := hT8.cells.2.1.1
    refine skip_ (w1 := ?_) (by rfl) rfl ?_ ?_
    rotate_left
    ·go_simp
     rfl
    refine hK.out _ _ ?_
    clear hK K
    have hT9 := hT8.setK (.slice A2 n2 cp2)
    refine pure_ (i := 14) (N := some 26) (v := ?_) (a' := ?_) #[true, true, true, true, true, true, true, true, true, true, true, true, true, true, true, false] rfl rfl (by kernel_rfl) (fun _ _ _ h => h) (Or.inl ⟨by rfl, ?_⟩) ?_ ?_
    rotate_left
    ·intro w'
     go_simp
     with_reducible rfl
    rotate_left
    ·simp only [Act.put, List.setIfInBounds_toArray, List.set_cons_zero, List.set_cons_succ, i64_w, i32_w]
     rfl
    refine last_ (i := 15) (N := none) #[true, true, true, true, true, true, true, true, true, true, true, true, true, true, true, true] rfl rfl (by kernel_rfl) (by decide) (fun K hK => ?_)
    have hs15 := hT9.cells.1.2
    have hfs15 := hT9.cells.2.1.2
    refine skip_ (w1 := ?_) (by rfl) rfl ?_ ?_
    rotate_left
    ·go_simp
     rfl
    refine hK.out _ _ ?_
    clear hK K
    have hTA := hT9.setL (.slice A5 n5 cp5)
    refine done_ (by kernel_rfl) ?_
    try go_wp2
    go_roundg kj
    case measure => omega
    case rel => exact ⟨i + 1, _, _, rfl, by omega, by rw [hkx, hlx]; exact hTA.ms⟩
  ·obtain rfl : i = l0.length := by omega
   rw [List.take_of_length_le (by simp), List.take_of_length_le (by simp)] at hS
   obtain ⟨Ak, nk, ck, rfl⟩ : ∃ A n c, kv = .slice A n c := (by obtain ⟨A, c, e⟩ := Kd.R_slice hS.own2; exact ⟨_, _, _, e⟩)
   obtain ⟨Al, nl, cl, rfl⟩ : ∃ A n c, lv = .slice A n c := (by obtain ⟨A, c, e⟩ := Kd.N_slice hS.own; exact ⟨_, _, _, e⟩)
   have z0 : wr.cell? ⟨w.heap.size + 1, 0, none⟩ = some (.int .i64 6) := blk_cell hS.vb 0
   have z1 : wr.cell? ⟨w.heap.size + 1, 1, none⟩ = some (.string ⟨#[]⟩) := blk_cell hS.vb 1
   have z2 : wr.cell? ⟨w.heap.size + 1, 2, none⟩ = some (.slice Ak nk ck) := blk_cell hS.vb 2
   have z3 : wr.cell? ⟨w.heap.size + 1, 3, none⟩ = some (.slice Al nl cl) := blk_cell hS.vb 3
   have y0 : wr.cell? ⟨w.heap.size, 0, none⟩ = some (.int .i64 0) := blk_cell hS.zb 0
   have y1 : wr.cell? ⟨w.heap.size, 1, none⟩ = some (.string ⟨#[]⟩) := blk_cell hS.zb 1
   have y2 : wr.cell? ⟨w.heap.size, 2, none⟩ = some (.slice none 0 0) := blk_cell hS.zb 2
   have y3 : wr.cell? ⟨w.heap.size, 3, none⟩ = some (.slice none 0 0) := blk_cell hS.zb 3
   have x0 := blk_frozen hS.zb 0
   have x1 := blk_frozen hS.zb 1
   have x2 := blk_frozen hS.zb 2
   have x3 := blk_frozen hS.zb 3
   have hF := Lib.hid (hS.stored (.int .i64 6) (.string ⟨#[]⟩) (.slice Ak nk ck) (.slice Al nl cl))
   go_wp2_with fail
   obtain ⟨hB, hBel, hR2, hR⟩ := hF.out
   generalize hwf : World.setCell _ _ _ = wf at hB hBel hR2 hR ⊢
   clear hwf
   refine bodyPost_ret (results_cell_row rfl _ _ w.heap.size 27 #[.int .i64 6, .string ⟨#[]⟩, .slice Ak nk ck, .slice Al nl cl] (0, 0) _ rfl hB Tryd.underlying27 rfl (by kernel_rfl)) rfl ?_
   exact ⟨_, _, rfl, hR2, hR, hBel⟩
end Go.Proofs.YteighppcdpaekaaDoor.P
end
