/- Walks and words of this session, put together by a program of this session (pack.py). Conditions: as each text says. -/
import Derived.Recover
import Derived.Defers
import Derived.Tactics2
import Derived.Laws.Pointers
import Derived.Deep.RegionHeld3
import Derived.BigRegion
import Derived.Test.YteighppcdpaekaaDoorS2
import Derived.Test.YteighppcdpaekaaDoorS3
import Derived.Test.YteighppcdpaekaaDoorS4
set_option linter.unusedVariables false
set_option linter.unusedSimpArgs false
section
namespace Go.Proofs.YteighppcdpaekaaDoor.Rd
open Go.RowKit Go.Proofs.YteighppcdpaekaaDoorW.PrintWords
open Go.Proofs.YteighppcdpaekaaDoor Go.Proofs.YteighppcdpaekaaDoor.P
theorem St.vval {w0 : World} {g : Nat} {A : Option Addr} {c : Nat} {b : List Int} {w : World} {d : Int} {wc w2 : World} {q r : Nat} {n0 : Nat} {v : Js.Val} {x0 : Int} {x1 : ByteArray} {v2 v3 : Value} (h : St w0 g A c b w d wc q) (hg : g < w.heap.size) (hS : RS w0 g A c b w2 r d) (hK : Kbt wc w2 g none)
  (hn : wc.heap.size ≤ n0) (hM : k27.M w2 n0 (fun _ => True) (toS v) [.int .i64 x0, .string x1, v2, v3]) (hR3 : k27.R 27 w2 n0 (fun k => some k ≠ v2.ownBlock) v3 (toS v).f3) :
  let wf := (((w2.setCell ⟨w.heap.size, 0, none⟩ (.int .i64 x0)).setCell ⟨w.heap.size, 1, none⟩ (.string x1)).setCell ⟨w.heap.size, 2, none⟩ v2).setCell ⟨w.heap.size, 3, none⟩ v3
  wf.heap[w.heap.size]? = some (.cells #[.int .i64 x0, .string x1, v2, v3] 27 (0, 0)) ∧ RS w0 g A c b wf r d ∧ Kbt w wf g none ∧ VVal w.heap.size wf v (.agg #[.int .i64 x0, .string x1, v2, v3]) := by
 have h2 := h.step hg hS hK;have hS2 := h2.stored hg (.int .i64 x0) (.string x1) v2 v3;have hsz : w.heap.size < wc.heap.size := blk_lt h.zb;refine ⟨hS2.1, hS2.2.1, hS2.2.2, x0, x1, v2, v3, rfl, ?_, ?_⟩
 have hst : ∀ (W : World) (j : Nat) (u : Value), k27.M W n0 (fun _ => True) (toS v) [.int .i64 x0, .string x1, v2, v3] → k27.M (W.setCell ⟨w.heap.size, j, none⟩ u) n0 (fun _ => True) (toS v) [.int .i64 x0, .string x1, v2, v3] := fun W j u hR =>
  k27.M_mono (fun _ _ => trivial) (k27.M_step (k27.M_bound hR) (fun k hk hlt => Below.heap_setCell W ⟨w.heap.size, j, none⟩ u k (by have h2 := hk.2.1; show k ≠ w.heap.size; omega)))
 ·exact k27.M_lower (show w.heap.size ≤ n0 by omega) (hst _ _ _ (hst _ _ _ (hst _ _ _ (hst _ _ _ hM))))
 ·have hst2 : ∀ (W : World) (j : Nat) (u : Value), k27.R 27 W n0 (fun k => some k ≠ v2.ownBlock) v3 (toS v).f3 → k27.R 27 (W.setCell ⟨w.heap.size, j, none⟩ u) n0 (fun k => some k ≠ v2.ownBlock) v3 (toS v).f3 := fun W j u hR =>
   Kd.R_mono (Kd.R_far (p := ⟨w.heap.size, j, none⟩) (Kd.R_bound hR) (fun k hk => by have h2 := hk.2.1; show k ≠ w.heap.size; omega) u) (fun _ hk => hk.1)
  exact Kd.R_lower (hst2 _ _ _ (hst2 _ _ _ (hst2 _ _ _ (hst2 _ _ _ hR3)))) (show w.heap.size ≤ n0 by omega)
theorem VVal.open {n0 : Nat} {w : World} {v : Js.Val} {u : Value} (h : VVal n0 w v u) : ∃ (x0 : Int) (x1 : ByteArray) (A2 : Option Addr) (n2 c2 : Nat) (A3 : Option Addr) (n3 c3 : Nat), u = .agg #[.int .i64 x0, .string x1, .slice A2 n2 c2, .slice A3 n3 c3] ∧ k27.M w n0 (fun _ => True) (toS v) [.int .i64 x0, .string x1, .slice A2 n2 c2, .slice A3 n3 c3] ∧ k27.R 27 w n0 (fun k => some k ≠ (Value.slice A2 n2 c2).ownBlock) (.slice A3 n3 c3) (toS v).f3 := by
 obtain ⟨x0, x1, v2, v3, rfl, hM, hR⟩ := h;obtain ⟨u2, u3, he, h2, h3⟩ := k27_openM hM;simp only [List.cons.injEq, and_true] at he;obtain ⟨_, _, rfl, rfl⟩ := he;obtain ⟨A2, c2, rfl⟩ := Kd.R_slice h2;obtain ⟨A3, c3, rfl⟩ := Kd.R_slice h3;exact ⟨_, _, _, _, _, _, _, _, rfl, hM, hR⟩
set_option maxRecDepth 100000 in
set_option maxHeartbeats 3200000 in
theorem value_calls : ∀ j, ValueOK j := by
 intro j
 induction j using Nat.strongRecOn with
 | ind j ih =>
 intro w0 g A c b w p d o hb h hp hbc hd ho
 cases j with
 | zero => exact absurd ho (by simp [Js.value])
 | succ k =>
 have ih' : ∀ i, i < k → ValueOK i := fun i hi => ih i (by omega)
 clear ih;have hsm := h.small;have hg := h.lt
 have hSt : St w0 g A c b w d (w.alloc Z25) p := ⟨h.alloc _, kal (Kbt.refl _ _ _) _, blk_new _ _⟩
 rw [Js.value_succ] at ho
 cases hx : b[p]? with
 | none =>
  rw [hx] at ho;obtain rfl : Js.Out.no p 11 = o := Option.some.inj ho;have hpk := peek_no hSt.rs hx;clear hx ho;go_enter Tryd.func59, Tryd.ntmps59;go_wp2_with (go_at_call 74; refine hpk.mono ?_; rintro e w2 ⟨rfl, m, rfl⟩);refine ⟨rfl, ?_⟩;exact ⟨rfl, (hSt.drewN m).rs.bel, (hSt.drewN m).kb⟩
 | some x =>
  have hpl : p < b.length := (List.getElem?_eq_some_iff.1 hx).1;have hpk := peek_ok hSt.rs hx;rw [hx] at ho;simp only at ho;clear hx;by_cases e0 : x = 123
  ·rw [if_pos (by simpa using e0)] at ho
   have e0' : (x == 123) = true := by simpa using e0
   clear e0
   have hC := fun m => object_calls ih' hb (hSt.drewN m).rs hpl hbc hd ho
   clear ho
   cases o with
   | no y e =>
    go_enter Tryd.func59, Tryd.ntmps59;go_wp2_with (first | (go_at_call 74; refine hpk.mono ?_; rintro e w2 ⟨rfl, m, rfl⟩) | (go_at_call 75; refine (hC m).mono ?_; rintro e2 w3 ⟨rfl, hB3, hK3⟩));refine ⟨rfl, ?_⟩;exact ⟨rfl, hB3, (hSt.drewN m).kb.trans hK3 (.inl rfl)⟩
   | ok v r =>
    go_enter Tryd.func59, Tryd.ntmps59;go_wp2_with (first | (go_at_call 74; refine hpk.mono ?_; rintro e w2 ⟨rfl, m, rfl⟩) | (go_at_call 75; refine (hC m).mono ?_; rintro e2 w3 ⟨u, rfl, hV, hS3, hK3⟩; obtain ⟨x0, x1, A2, n2, k2, A3, n3, k3, rfl, hM, hR⟩ := hV.open; have hSt3 := (hSt.drewN m).step hg hS3 hK3; obtain ⟨⟨z0, z1, z2, z3⟩, y0, y1, y2, y3⟩ := hSt3.zero; have hF := Lib.hid (St.vval (hSt.drewN m) hg hS3 hK3 (Nat.le_refl _) hM hR)));obtain ⟨hB, hRS, hKB, hVV⟩ := hF.out;generalize hwf : World.setCell _ _ _ = wf at hB hRS hKB hVV ⊢;clear hwf;obtain ⟨c0, c1, c2, c3⟩ := blk4 hB;refine bodyPost_ret (v := .agg #[.int .i64 x0, .string x1, .slice A2 n2 k2, .slice A3 n3 k3]) (by simp [results, Tryd.results59, go_sem, c0, c1, c2, c3]) rfl ?_;exact ⟨_, rfl, hVV, hRS, hKB⟩
  rw [if_neg (by simpa using e0)] at ho
  have e0' : (x == 123) = false := by simpa using e0
  clear e0;by_cases e1 : x = 91
  ·rw [if_pos (by simpa using e1)] at ho
   have e1' : (x == 91) = true := by simpa using e1
   clear e1
   have hC := fun m => array_calls ih' hb (hSt.drewN m).rs hpl hbc hd ho
   clear ho
   cases o with
   | no y e =>
    go_enter Tryd.func59, Tryd.ntmps59;go_wp2_with (first | (go_at_call 74; refine hpk.mono ?_; rintro e w2 ⟨rfl, m, rfl⟩) | (go_at_call 76; refine (hC m).mono ?_; rintro e2 w3 ⟨rfl, hB3, hK3⟩));refine ⟨rfl, ?_⟩;exact ⟨rfl, hB3, (hSt.drewN m).kb.trans hK3 (.inl rfl)⟩
   | ok v r =>
    go_enter Tryd.func59, Tryd.ntmps59;go_wp2_with (first | (go_at_call 74; refine hpk.mono ?_; rintro e w2 ⟨rfl, m, rfl⟩) | (go_at_call 76; refine (hC m).mono ?_; rintro e2 w3 ⟨u, rfl, hV, hS3, hK3⟩; obtain ⟨x0, x1, A2, n2, k2, A3, n3, k3, rfl, hM, hR⟩ := hV.open; have hSt3 := (hSt.drewN m).step hg hS3 hK3; obtain ⟨⟨z0, z1, z2, z3⟩, y0, y1, y2, y3⟩ := hSt3.zero; have hF := Lib.hid (St.vval (hSt.drewN m) hg hS3 hK3 (Nat.le_refl _) hM hR)));obtain ⟨hB, hRS, hKB, hVV⟩ := hF.out;generalize hwf : World.setCell _ _ _ = wf at hB hRS hKB hVV ⊢;clear hwf;obtain ⟨c0, c1, c2, c3⟩ := blk4 hB;refine bodyPost_ret (v := .agg #[.int .i64 x0, .string x1, .slice A2 n2 k2, .slice A3 n3 k3]) (by simp [results, Tryd.results59, go_sem, c0, c1, c2, c3]) rfl ?_;exact ⟨_, rfl, hVV, hRS, hKB⟩
  rw [if_neg (by simpa using e1)] at ho
  have e1' : (x == 91) = false := by simpa using e1
  clear e1;by_cases e2 : x = 34
  ·rw [if_pos (by simpa using e2)] at ho
   have e2' : (x == 34) = true := by simpa using e2
   clear e2
   cases ht : Js.text b k p with
   | none => simp [ht] at ho
   | some ot =>
    have hC := fun m => text_calls hb (hSt.drewN m).rs ht
    rw [ht] at ho
    cases ot with
    | no y e =>
     obtain rfl : Js.Out.no y e = o := Option.some.inj ho;clear ho ht;go_enter Tryd.func59, Tryd.ntmps59;go_wp2_with (first | (go_at_call 74; refine hpk.mono ?_; rintro e w2 ⟨rfl, m, rfl⟩) | (go_at_call 77; refine (hC m).mono ?_; rintro e2 w3 ⟨rfl, hB3, hK3⟩));refine ⟨rfl, ?_⟩;exact ⟨rfl, hB3, (hSt.drewN m).kb.trans hK3 (.inl rfl)⟩
    | ok l r =>
     obtain rfl : Js.Out.ok (Js.Val.mk 4 l [] []) r = o := Option.some.inj ho;clear ho ht;go_enter Tryd.func59, Tryd.ntmps59;go_wp2_with (first | (go_at_call 74; refine hpk.mono ?_; rintro e w2 ⟨rfl, m, rfl⟩) | (go_at_call 77; refine (hC m).mono ?_; rintro e2 w3 ⟨u, rfl, rfl, hS3, hK3⟩; have hSt3 := (hSt.drewN m).step hg hS3 hK3; obtain ⟨⟨z0, z1, z2, z3⟩, y0, y1, y2, y3⟩ := hSt3.zero; have hF := Lib.hid (hSt3.stored hg (.int .i64 4) (.string (strOfNums l)) (.slice none 0 0) (.slice none 0 0))));obtain ⟨hB, hRS, hKB⟩ := hF.out;generalize hwf : World.setCell _ _ _ = wf at hB hRS hKB ⊢;clear hwf;obtain ⟨c0, c1, c2, c3⟩ := blk4 hB;refine bodyPost_ret (v := .agg #[.int .i64 4, .string (strOfNums l), .slice none 0 0, .slice none 0 0]) (by simp [results, Tryd.results59, go_sem, c0, c1, c2, c3]) rfl ?_;exact ⟨_, rfl, VVal.of _ _ (Js.Val.mk 4 l [] []) (Kd.R_nil _ _ _ _ _) (Kd.R_nil _ _ _ _ _), hRS, hKB⟩
  rw [if_neg (by simpa using e2)] at ho
  have e2' : (x == 34) = false := by simpa using e2
  clear e2;by_cases e3 : x = 116
  ·rw [if_pos (by simpa using e3)] at ho
   have e3' : (x == 116) = true := by simpa using e3
   clear e3
   have hC := fun m => word_calls ⟨#[116, 114, 117, 101]⟩ (by decide) 2 (hSt.drewN m).rs hp
   change ∀ m, Calls _ _ _ _ (Post w0 g A c b _ d (VKind 2) (Js.word b [116, 114, 117, 101] p)) at hC
   cases hw : Js.word b [116, 114, 117, 101] p with
   | no y e =>
    rw [hw] at ho hC;obtain rfl : Js.Out.no y e = o := Option.some.inj ho;clear ho hw;go_enter Tryd.func59, Tryd.ntmps59;go_wp2_with (first | (go_at_call 74; refine hpk.mono ?_; rintro e w2 ⟨rfl, m, rfl⟩) | (go_at_call 78; refine (hC m).mono ?_; rintro e2 w3 ⟨rfl, hB3, hK3⟩));refine ⟨rfl, ?_⟩;exact ⟨rfl, hB3, (hSt.drewN m).kb.trans hK3 (.inl rfl)⟩
   | ok l r =>
    rw [hw] at ho hC;obtain rfl : Js.Out.ok (Js.Val.mk 2 [] [] []) r = o := Option.some.inj ho;clear ho hw;go_enter Tryd.func59, Tryd.ntmps59;go_wp2_with (first | (go_at_call 74; refine hpk.mono ?_; rintro e w2 ⟨rfl, m, rfl⟩) | (go_at_call 78; refine (hC m).mono ?_; rintro e2 w3 ⟨u, rfl, rfl, hS3, hK3⟩; have hSt3 := (hSt.drewN m).step hg hS3 hK3; obtain ⟨⟨z0, z1, z2, z3⟩, y0, y1, y2, y3⟩ := hSt3.zero; have hF := Lib.hid (hSt3.stored hg (.int .i64 2) (.string ⟨#[]⟩) (.slice none 0 0) (.slice none 0 0))));obtain ⟨hB, hRS, hKB⟩ := hF.out;generalize hwf : World.setCell _ _ _ = wf at hB hRS hKB ⊢;clear hwf;obtain ⟨c0, c1, c2, c3⟩ := blk4 hB;refine bodyPost_ret (v := .agg #[.int .i64 2, .string ⟨#[]⟩, .slice none 0 0, .slice none 0 0]) (by simp [results, Tryd.results59, go_sem, c0, c1, c2, c3]) rfl ?_;exact ⟨_, rfl, VVal.of _ _ (Js.Val.mk 2 [] [] []) (Kd.R_nil _ _ _ _ _) (Kd.R_nil _ _ _ _ _), hRS, hKB⟩
  rw [if_neg (by simpa using e3)] at ho
  have e3' : (x == 116) = false := by simpa using e3
  clear e3;by_cases e4 : x = 102
  ·rw [if_pos (by simpa using e4)] at ho
   have e4' : (x == 102) = true := by simpa using e4
   clear e4
   have hC := fun m => word_calls ⟨#[102, 97, 108, 115, 101]⟩ (by decide) 1 (hSt.drewN m).rs hp
   change ∀ m, Calls _ _ _ _ (Post w0 g A c b _ d (VKind 1) (Js.word b [102, 97, 108, 115, 101] p)) at hC
   cases hw : Js.word b [102, 97, 108, 115, 101] p with
   | no y e =>
    rw [hw] at ho hC;obtain rfl : Js.Out.no y e = o := Option.some.inj ho;clear ho hw;go_enter Tryd.func59, Tryd.ntmps59;go_wp2_with (first | (go_at_call 74; refine hpk.mono ?_; rintro e w2 ⟨rfl, m, rfl⟩) | (go_at_call 78; refine (hC m).mono ?_; rintro e2 w3 ⟨rfl, hB3, hK3⟩));refine ⟨rfl, ?_⟩;exact ⟨rfl, hB3, (hSt.drewN m).kb.trans hK3 (.inl rfl)⟩
   | ok l r =>
    rw [hw] at ho hC;obtain rfl : Js.Out.ok (Js.Val.mk 1 [] [] []) r = o := Option.some.inj ho;clear ho hw;go_enter Tryd.func59, Tryd.ntmps59;go_wp2_with (first | (go_at_call 74; refine hpk.mono ?_; rintro e w2 ⟨rfl, m, rfl⟩) | (go_at_call 78; refine (hC m).mono ?_; rintro e2 w3 ⟨u, rfl, rfl, hS3, hK3⟩; have hSt3 := (hSt.drewN m).step hg hS3 hK3; obtain ⟨⟨z0, z1, z2, z3⟩, y0, y1, y2, y3⟩ := hSt3.zero; have hF := Lib.hid (hSt3.stored hg (.int .i64 1) (.string ⟨#[]⟩) (.slice none 0 0) (.slice none 0 0))));obtain ⟨hB, hRS, hKB⟩ := hF.out;generalize hwf : World.setCell _ _ _ = wf at hB hRS hKB ⊢;clear hwf;obtain ⟨c0, c1, c2, c3⟩ := blk4 hB;refine bodyPost_ret (v := .agg #[.int .i64 1, .string ⟨#[]⟩, .slice none 0 0, .slice none 0 0]) (by simp [results, Tryd.results59, go_sem, c0, c1, c2, c3]) rfl ?_;exact ⟨_, rfl, VVal.of _ _ (Js.Val.mk 1 [] [] []) (Kd.R_nil _ _ _ _ _) (Kd.R_nil _ _ _ _ _), hRS, hKB⟩
  rw [if_neg (by simpa using e4)] at ho
  have e4' : (x == 102) = false := by simpa using e4
  clear e4;by_cases e5 : x = 110
  ·rw [if_pos (by simpa using e5)] at ho
   have e5' : (x == 110) = true := by simpa using e5
   clear e5
   have hC := fun m => word_calls ⟨#[110, 117, 108, 108]⟩ (by decide) 0 (hSt.drewN m).rs hp
   change ∀ m, Calls _ _ _ _ (Post w0 g A c b _ d (VKind 0) (Js.word b [110, 117, 108, 108] p)) at hC
   cases hw : Js.word b [110, 117, 108, 108] p with
   | no y e =>
    rw [hw] at ho hC;obtain rfl : Js.Out.no y e = o := Option.some.inj ho;clear ho hw;go_enter Tryd.func59, Tryd.ntmps59;go_wp2_with (first | (go_at_call 74; refine hpk.mono ?_; rintro e w2 ⟨rfl, m, rfl⟩) | (go_at_call 78; refine (hC m).mono ?_; rintro e2 w3 ⟨rfl, hB3, hK3⟩));refine ⟨rfl, ?_⟩;exact ⟨rfl, hB3, (hSt.drewN m).kb.trans hK3 (.inl rfl)⟩
   | ok l r =>
    rw [hw] at ho hC;obtain rfl : Js.Out.ok (Js.Val.mk 0 [] [] []) r = o := Option.some.inj ho;clear ho hw;go_enter Tryd.func59, Tryd.ntmps59;go_wp2_with (first | (go_at_call 74; refine hpk.mono ?_; rintro e w2 ⟨rfl, m, rfl⟩) | (go_at_call 78; refine (hC m).mono ?_; rintro e2 w3 ⟨u, rfl, rfl, hS3, hK3⟩; have hSt3 := (hSt.drewN m).step hg hS3 hK3; obtain ⟨⟨z0, z1, z2, z3⟩, y0, y1, y2, y3⟩ := hSt3.zero; have hF := Lib.hid (hSt3.stored hg (.int .i64 0) (.string ⟨#[]⟩) (.slice none 0 0) (.slice none 0 0))));obtain ⟨hB, hRS, hKB⟩ := hF.out;generalize hwf : World.setCell _ _ _ = wf at hB hRS hKB ⊢;clear hwf;obtain ⟨c0, c1, c2, c3⟩ := blk4 hB;refine bodyPost_ret (v := .agg #[.int .i64 0, .string ⟨#[]⟩, .slice none 0 0, .slice none 0 0]) (by simp [results, Tryd.results59, go_sem, c0, c1, c2, c3]) rfl ?_;exact ⟨_, rfl, VVal.of _ _ (Js.Val.mk 0 [] [] []) (Kd.R_nil _ _ _ _ _) (Kd.R_nil _ _ _ _ _), hRS, hKB⟩
  rw [if_neg (by simpa using e5)] at ho
  have e5' : (x == 110) = false := by simpa using e5
  clear e5
  have hC := fun m => number_calls (hSt.drewN m).rs hp hbc
  cases hn : Js.number b p with
  | no y e =>
   rw [show numberV b p = .no y e by simp [numberV, hn]] at hC;rw [hn] at ho;obtain rfl : Js.Out.no y e = o := Option.some.inj ho;clear ho hn;go_enter Tryd.func59, Tryd.ntmps59;go_wp2_with (first | (go_at_call 74; refine hpk.mono ?_; rintro e w2 ⟨rfl, m, rfl⟩) | (go_at_call 79; refine (hC m).mono ?_; rintro e2 w3 ⟨rfl, hB3, hK3⟩));refine ⟨rfl, ?_⟩;exact ⟨rfl, hB3, (hSt.drewN m).kb.trans hK3 (.inl rfl)⟩
  | ok l r =>
   rw [show numberV b p = .ok ((b.take r).drop p) r by simp [numberV, hn]] at hC;rw [hn] at ho;obtain rfl : Js.Out.ok (Js.Val.mk 3 ((b.take r).drop p) [] []) r = o := Option.some.inj ho;clear ho hn;generalize (b.take r).drop p = l2 at hC ⊢;go_enter Tryd.func59, Tryd.ntmps59;go_wp2_with (first | (go_at_call 74; refine hpk.mono ?_; rintro e w2 ⟨rfl, m, rfl⟩) | (go_at_call 79; refine (hC m).mono ?_; rintro e2 w3 ⟨u, rfl, rfl, hS3, hK3⟩; have hSt3 := (hSt.drewN m).step hg hS3 hK3; obtain ⟨⟨z0, z1, z2, z3⟩, y0, y1, y2, y3⟩ := hSt3.zero; have hF := Lib.hid (hSt3.stored hg (.int .i64 3) (.string (strOfNums l2)) (.slice none 0 0) (.slice none 0 0))));obtain ⟨hB, hRS, hKB⟩ := hF.out;generalize hwf : World.setCell _ _ _ = wf at hB hRS hKB ⊢;clear hwf;obtain ⟨c0, c1, c2, c3⟩ := blk4 hB;refine bodyPost_ret (v := .agg #[.int .i64 3, .string (strOfNums l2), .slice none 0 0, .slice none 0 0]) (by simp [results, Tryd.results59, go_sem, c0, c1, c2, c3]) rfl ?_;exact ⟨_, rfl, VVal.of _ _ (Js.Val.mk 3 l2 [] []) (Kd.R_nil _ _ _ _ _) (Kd.R_nil _ _ _ _ _), hRS, hKB⟩
end Go.Proofs.YteighppcdpaekaaDoor.Rd
end
section
namespace Go.Proofs.YteighppcdpaekaaDoor.Rd
open Go.RowKit Go.Proofs.YteighppcdpaekaaDoorW.PrintWords
open Go.Proofs.YteighppcdpaekaaDoor Go.Proofs.YteighppcdpaekaaDoor.P
section
variable {P : Program} {ops : Array Oper} {Q : Exit → Act → List Frame → World → Prop} {i : Nat} {rest : List Nat} {a : Act} {cs cs' : List Frame} {w w' : World} {o : Oper} {v : Value}
structure Ops (P : Program) (ops : Array Oper) (Q : Exit → Act → List Frame → World → Prop) (l : List Nat) (a : Act) (cs : List Frame) (w : World) : Prop where
 out : wpOpsS P ops Q l a cs w
theorem opS_end (h : Q .normal a cs w) : Ops P ops Q [] a cs w := ⟨h⟩
theorem opS_value (ho : ops[i]? = some o) (hw : Region.wanted o (yielded ops a.tmps) = true) (hr : (execOp a.eval o).run P w = .ok (.value v) w') (h : Ops P ops Q rest (a.put o.dst v) cs w') : Ops P ops Q (i :: rest) a cs w := by
 constructor
 simp only [wpOpsS, ho, hw, if_true, hr, Oper.upon];exact h.out
theorem opS_skip (ho : ops[i]? = some o) (hw : Region.wanted o (yielded ops a.tmps) = true) (hr : (execOp a.eval o).run P w = .ok .skip w') (h : Ops P ops Q rest (a.put o.dst undef) cs w') : Ops P ops Q (i :: rest) a cs w := by
 constructor
 simp only [wpOpsS, ho, hw, if_true, hr, Oper.upon];exact h.out
theorem opS_found (ho : ops[i]? = some o) (hw : Region.wanted o (yielded ops a.tmps) = true) (hr : (execOp a.eval o).run P w = .ok .recover w') (hc : recoverD cs = some (v, cs')) (h : Ops P ops Q rest (a.put o.dst v) cs' w') : Ops P ops Q (i :: rest) a cs w := by
 constructor
 simp only [wpOpsS, ho, hw, if_true, hr, hc];exact h.out
theorem opS_none (ho : ops[i]? = some o) (hw : Region.wanted o (yielded ops a.tmps) = true) (hr : (execOp a.eval o).run P w = .ok .recover w') (hc : recoverD cs = none) (h : Ops P ops Q rest (a.put o.dst .nilIface) cs w') : Ops P ops Q (i :: rest) a cs w := by
 constructor
 simp only [wpOpsS, ho, hw, if_true, hr, hc];exact h.out
end
def F53 (x k : Int) : Obj := .cells #[.int .i64 x, .int .i64 k] 115 (0, 0)
set_option maxRecDepth 100000 in
theorem catch_idle (p1 p2 p3 : Value) (w : World) :
  CallsD Tryd.prog 57 #[p1, p2, p3] .returning w fun e u' w' => e = .returned (.tuple #[]) ∧ u' = .returning ∧ Below w.heap.size w w' := by
 refine callsD_of_wpS Tryd.func57 rfl fun c₀ cs hu => ?_
 apply wpS_seq
 apply wpS_region
 change wpOpsS _ _ _ [0, 1, 2, 3, 4, 5, 6, 7] { tmps := #[p1, p2, p3, undef, undef, undef, undef, undef, undef, undef, undef, undef, undef, undef, undef, undef], defers := [] } _ _
 refine Ops.out ?_;refine opS_none (w' := w) (ho := rfl) ?_ ?_ ?_ ?_
 ·kernel_rfl
 ·kernel_rfl
 ·simp [recoverD, hu]
 refine opS_value (v := .tuple #[.agg #[.int .i64 0, .int .i64 0], .bool false]) (w' := w) (ho := rfl) ?_ ?_ ?_
 ·kernel_rfl
 ·kernel_rfl
 refine opS_value (v := .tuple #[.agg #[.int .i64 0, .int .i64 0], .bool false]) (w' := w) (ho := rfl) ?_ ?_ ?_
 ·kernel_rfl
 ·kernel_rfl
 refine opS_value (v := .agg #[.int .i64 0, .int .i64 0]) (w' := w) (ho := rfl) ?_ ?_ ?_
 ·kernel_rfl
 ·kernel_rfl
 refine opS_value (v := .bool false) (w' := w) (ho := rfl) ?_ ?_ ?_
 ·kernel_rfl
 ·kernel_rfl
 refine opS_value (v := .pointer (some ⟨w.heap.size, 0, none⟩)) (w' := w.alloc (F53 0 0)) (ho := rfl) ?_ ?_ ?_
 ·kernel_rfl
 ·kernel_rfl
 have hc := blk_new w (F53 0 0)
 change Ops _ _ _ [6, 7] { tmps := #[p1, p2, p3, .pointer (some ⟨w.heap.size, 0, none⟩), undef, .tuple #[.agg #[.int .i64 0, .int .i64 0], .bool false], .nilIface, .tuple #[.agg #[.int .i64 0, .int .i64 0], .bool false], .agg #[.int .i64 0, .int .i64 0], .bool false, undef, undef, undef, undef, undef, undef], defers := [] } _ _
 refine opS_skip (w' := ((w.alloc (F53 0 0)).setCell ⟨w.heap.size, 0, none⟩ (.int .i64 0)).setCell ⟨w.heap.size, 1, none⟩ (.int .i64 0)) (ho := rfl) ?_ ?_ ?_
 ·kernel_rfl
 ·have f0 := bfz hc 0
  have f1 := bfz hc 1;have g0 := bceq hc 0;have g1 := bceq hc 1
  simp at g0 g1
  simp [go_sem, f0, f1, g0, g1]
 have hB : (((w.alloc (F53 0 0)).setCell ⟨w.heap.size, 0, none⟩ (.int .i64 0)).setCell ⟨w.heap.size, 1, none⟩ (.int .i64 0)).heap[w.heap.size]? = some (F53 0 0) := blk_set (blk_set hc 0 _) 1 _;have hW : Below w.heap.size w (((w.alloc (F53 0 0)).setCell ⟨w.heap.size, 0, none⟩ (.int .i64 0)).setCell ⟨w.heap.size, 1, none⟩ (.int .i64 0)) := bstq (bstq (bal (Below.refl w.heap.size w) (F53 0 0)) (Nat.le_refl _)) (Nat.le_refl _);generalize ((w.alloc (F53 0 0)).setCell ⟨w.heap.size, 0, none⟩ (.int .i64 0)).setCell ⟨w.heap.size, 1, none⟩ (.int .i64 0) = ws at hB hW ⊢;clear hc;refine opS_value (v := .bool false) (w' := ws) (ho := rfl) ?_ ?_ ?_
 ·kernel_rfl
 ·kernel_rfl
 refine opS_end ?_
 change Code.wpS _ _ _ { tmps := #[p1, p2, p3, .pointer (some ⟨w.heap.size, 0, none⟩), .bool false, .tuple #[.agg #[.int .i64 0, .int .i64 0], .bool false], .nilIface, .tuple #[.agg #[.int .i64 0, .int .i64 0], .bool false], .agg #[.int .i64 0, .int .i64 0], .bool false, undef, undef, undef, undef, undef, undef], defers := [] } _ _
 apply wpS_of_wp
 go_wp2;refine ⟨rfl, .returning, by cases c₀; cases hu; rfl, .tuple #[], by simp [results, Tryd.results57, go_sem], rfl, rfl, hW⟩
theorem caught {B : Nat} {w ws : World} {v0 v1 v2 v3 v4 v5 : Value} {x k : Int} (hW : Below B w ws) (t2 : ws.heap[B]? = some (.cells #[v0, v1, v2, v3] 27 (0, 0))) (t3 : ws.heap[B + 1]? = some (.cells #[v4] 3 (0, 0))) (t4 : ws.heap[B + 2]? = some (.cells #[v5] 86 (0, 0))) :
  ∀ ws2, ws2 = ((((((ws.setCell ⟨B, 0, none⟩ (.int .i64 0)).setCell ⟨B, 1, none⟩ (.string ⟨#[]⟩)).setCell ⟨B, 2, none⟩ (.slice none 0 0)).setCell ⟨B, 3, none⟩ (.slice none 0 0)).setCell ⟨B + 1, 0, none⟩ (.int .i64 x)).setCell ⟨B + 2, 0, none⟩ (.int .i64 k)).drew →
   Below B w ws2 ∧ ws2.heap[B]? = some Z25 ∧ ws2.heap[B + 1]? = some (.cells #[.int .i64 x] 3 (0, 0)) ∧ ws2.heap[B + 2]? = some (.cells #[.int .i64 k] 86 (0, 0)) := by
 rintro ws2 rfl
 have step : ∀ (W : World) (j : Nat) (a : Value) (cs : Array Value), Below B w W → W.heap[B]? = some (.cells cs 27 (0, 0)) → W.heap[B + 1]? = some (.cells #[v4] 3 (0, 0)) → W.heap[B + 2]? = some (.cells #[v5] 86 (0, 0)) →
   Below B w (W.setCell ⟨B, j, none⟩ a) ∧ (W.setCell ⟨B, j, none⟩ a).heap[B]? = some (.cells (cs.setIfInBounds j a) 27 (0, 0)) ∧ (W.setCell ⟨B, j, none⟩ a).heap[B + 1]? = some (.cells #[v4] 3 (0, 0)) ∧ (W.setCell ⟨B, j, none⟩ a).heap[B + 2]? = some (.cells #[v5] 86 (0, 0)) := fun W j a cs h0 h1 h2 h3 =>
  ⟨Below.setCell (p := ⟨B, j, none⟩) h0 (Nat.le_refl _) _, blk_set h1 j a, blk_far h2 (p := ⟨B, j, none⟩) (by show B + 1 ≠ B; omega) a, blk_far h3 (p := ⟨B, j, none⟩) (by show B + 2 ≠ B; omega) a⟩
 obtain ⟨a0, a1, a2, a3⟩ := step ws 0 (.int .i64 0) _ hW t2 t3 t4;generalize ws.setCell ⟨B, 0, none⟩ (.int .i64 0) = W0 at a0 a1 a2 a3 ⊢;obtain ⟨b0, b1, b2, b3⟩ := step W0 1 (.string ⟨#[]⟩) _ a0 a1 a2 a3;generalize W0.setCell ⟨B, 1, none⟩ (.string ⟨#[]⟩) = W1 at b0 b1 b2 b3 ⊢;obtain ⟨c0, c1, c2, c3⟩ := step W1 2 (.slice none 0 0) _ b0 b1 b2 b3;generalize W1.setCell ⟨B, 2, none⟩ (.slice none 0 0) = W2 at c0 c1 c2 c3 ⊢;obtain ⟨d0, d1, d2, d3⟩ := step W2 3 (.slice none 0 0) _ c0 c1 c2 c3;generalize W2.setCell ⟨B, 3, none⟩ (.slice none 0 0) = W3 at d0 d1 d2 d3 ⊢;have e0 := Below.setCell (p := ⟨B + 1, 0, none⟩) d0 (by show B ≤ B + 1; omega) (.int .i64 x);have e1 := blk_far d1 (p := ⟨B + 1, 0, none⟩) (by show B ≠ B + 1; omega) (.int .i64 x);have e2 := blk_set d2 0 (.int .i64 x);have e3 := blk_far d3 (p := ⟨B + 1, 0, none⟩) (by show B + 2 ≠ B + 1; omega) (.int .i64 x);generalize W3.setCell ⟨B + 1, 0, none⟩ (.int .i64 x) = W4 at e0 e1 e2 e3 ⊢;have f0 := Below.setCell (p := ⟨B + 2, 0, none⟩) e0 (by show B ≤ B + 2; omega) (.int .i64 k);have f1 := blk_far e1 (p := ⟨B + 2, 0, none⟩) (by show B ≠ B + 2; omega) (.int .i64 k);have f2 := blk_far e2 (p := ⟨B + 2, 0, none⟩) (by show B + 1 ≠ B + 2; omega) (.int .i64 k);have f3 := blk_set e3 0 (.int .i64 k);generalize W4.setCell ⟨B + 2, 0, none⟩ (.int .i64 k) = W5 at f0 f1 f2 f3 ⊢;exact ⟨below_drew f0, f1, f2, f3⟩
set_option maxRecDepth 100000 in
set_option maxHeartbeats 1600000 in
theorem catch_panicking {B : Nat} (x k : Int) (older : List PanicEntry) {w : World} {v0 v1 v2 v3 v4 v5 : Value} (h2 : w.heap[B]? = some (.cells #[v0, v1, v2, v3] 27 (0, 0))) (h3 : w.heap[B + 1]? = some (.cells #[v4] 3 (0, 0))) (h4 : w.heap[B + 2]? = some (.cells #[v5] 86 (0, 0))) :
  CallsD Tryd.prog 57 #[.pointer (some ⟨B, 0, none⟩), .pointer (some ⟨B + 1, 0, none⟩), .pointer (some ⟨B + 2, 0, none⟩)] (.panicking ({ v := .iface 115 (.agg #[.int .i64 x, .int .i64 k]), recovered := false } :: older)) w fun e u' w' => e = .returned (.tuple #[]) ∧ u' = .panicking ({ v := .iface 115 (.agg #[.int .i64 x, .int .i64 k]), recovered := true } :: older) ∧ Below B w w' ∧
   w'.heap[B]? = some Z25 ∧ w'.heap[B + 1]? = some (.cells #[.int .i64 x] 3 (0, 0)) ∧ w'.heap[B + 2]? = some (.cells #[.int .i64 k] 86 (0, 0)) := by
 generalize hp1 : Value.pointer (some ⟨B, 0, none⟩) = p1;generalize hp2 : Value.pointer (some ⟨B + 1, 0, none⟩) = p2;generalize hp3 : Value.pointer (some ⟨B + 2, 0, none⟩) = p3
 refine callsD_of_wpS Tryd.func57 rfl fun c₀ cs hu => ?_
 apply wpS_seq
 apply wpS_region
 change wpOpsS _ _ _ [0, 1, 2, 3, 4, 5, 6, 7] { tmps := #[p1, p2, p3, undef, undef, undef, undef, undef, undef, undef, undef, undef, undef, undef, undef, undef], defers := [] } _ _
 refine Ops.out ?_;refine opS_found (v := .iface 115 (.agg #[.int .i64 x, .int .i64 k])) (cs' := { c₀ with mode := .panicking ({ v := .iface 115 (.agg #[.int .i64 x, .int .i64 k]), recovered := true } :: older) } :: cs) (w' := w) (ho := rfl) ?_ ?_ ?_ ?_
 ·kernel_rfl
 ·kernel_rfl
 ·simp [recoverD, hu]
 refine opS_value (v := .tuple #[.agg #[.int .i64 x, .int .i64 k], .bool true]) (w' := w) (ho := rfl) ?_ ?_ ?_
 ·kernel_rfl
 ·kernel_rfl
 refine opS_value (v := .tuple #[.agg #[.int .i64 x, .int .i64 k], .bool true]) (w' := w) (ho := rfl) ?_ ?_ ?_
 ·kernel_rfl
 ·kernel_rfl
 refine opS_value (v := .agg #[.int .i64 x, .int .i64 k]) (w' := w) (ho := rfl) ?_ ?_ ?_
 ·kernel_rfl
 ·kernel_rfl
 refine opS_value (v := .bool true) (w' := w) (ho := rfl) ?_ ?_ ?_
 ·kernel_rfl
 ·kernel_rfl
 refine opS_value (v := .pointer (some ⟨w.heap.size, 0, none⟩)) (w' := w.alloc (F53 0 0)) (ho := rfl) ?_ ?_ ?_
 ·kernel_rfl
 ·kernel_rfl
 have hc := blk_new w (F53 0 0)
 change Ops _ _ _ [6, 7] { tmps := #[p1, p2, p3, .pointer (some ⟨w.heap.size, 0, none⟩), undef, .tuple #[.agg #[.int .i64 x, .int .i64 k], .bool true], .iface 115 (.agg #[.int .i64 x, .int .i64 k]), .tuple #[.agg #[.int .i64 x, .int .i64 k], .bool true], .agg #[.int .i64 x, .int .i64 k], .bool true, undef, undef, undef, undef, undef, undef], defers := [] } _ _
 refine opS_skip (w' := ((w.alloc (F53 0 0)).setCell ⟨w.heap.size, 0, none⟩ (.int .i64 x)).setCell ⟨w.heap.size, 1, none⟩ (.int .i64 k)) (ho := rfl) ?_ ?_ ?_
 ·kernel_rfl
 ·have f0 := bfz hc 0
  have f1 := bfz hc 1;have g0 := bceq hc 0;have g1 := bceq hc 1
  simp at g0 g1
  simp [go_sem, f0, f1, g0, g1]
 have hB : (((w.alloc (F53 0 0)).setCell ⟨w.heap.size, 0, none⟩ (.int .i64 x)).setCell ⟨w.heap.size, 1, none⟩ (.int .i64 k)).heap[w.heap.size]? = some (F53 x k) := blk_set (blk_set hc 0 _) 1 _;have hW : Below w.heap.size w (((w.alloc (F53 0 0)).setCell ⟨w.heap.size, 0, none⟩ (.int .i64 x)).setCell ⟨w.heap.size, 1, none⟩ (.int .i64 k)) := bstq (bstq (bal (Below.refl w.heap.size w) (F53 0 0)) (Nat.le_refl _)) (Nat.le_refl _);generalize ((w.alloc (F53 0 0)).setCell ⟨w.heap.size, 0, none⟩ (.int .i64 x)).setCell ⟨w.heap.size, 1, none⟩ (.int .i64 k) = ws at hB hW ⊢;clear hc;refine opS_value (v := .bool true) (w' := ws) (ho := rfl) ?_ ?_ ?_
 ·kernel_rfl
 ·kernel_rfl
 refine opS_end ?_
 change Code.wpS _ _ _ { tmps := #[p1, p2, p3, .pointer (some ⟨w.heap.size, 0, none⟩), .bool true, .tuple #[.agg #[.int .i64 x, .int .i64 k], .bool true], .iface 115 (.agg #[.int .i64 x, .int .i64 k]), .tuple #[.agg #[.int .i64 x, .int .i64 k], .bool true], .agg #[.int .i64 x, .int .i64 k], .bool true, undef, undef, undef, undef, undef, undef], defers := [] } _ _
 have g2 := hW.block B (blk_lt h2);have g3 := hW.block (B + 1) (blk_lt h3);have g4 := hW.block (B + 2) (blk_lt h4);rw [h2] at g2;rw [h3] at g3;rw [h4] at g4;have hlt := blk_lt h4;subst hp1;subst hp2;subst hp3
 apply wpS_of_wp
 obtain ⟨q0, q1, q2, q3⟩ := blk4 g2;have k0 := bfz g2 0;have k1 := bfz g2 1;have k2 := bfz g2 2;have k3 := bfz g2 3;have q4 : ws.cell? ⟨B + 1, 0, none⟩ = some v4 := (bceq g3 0).trans rfl;have q5 : ws.cell? ⟨B + 2, 0, none⟩ = some v5 := (bceq g4 0).trans rfl;have k4 := bfz g3 0;have k5 := bfz g4 0;have r0 : ws.cell? ⟨w.heap.size, 0, none⟩ = some (.int .i64 x) := (bceq hB 0).trans rfl;have r1 : ws.cell? ⟨w.heap.size, 1, none⟩ = some (.int .i64 k) := (bceq hB 1).trans rfl
 have n0 : ¬ w.heap.size = B := by omega
 have n1 : ¬ w.heap.size = B + 1 := by omega
 have n2 : ¬ w.heap.size = B + 2 := by omega
 have n3 : ¬ B = w.heap.size := by omega
 have n4 : ¬ B + 1 = w.heap.size := by omega
 have n5 : ¬ B + 2 = w.heap.size := by omega
 have hfin : Hid (∀ ws2, ws2 = ((((((ws.setCell ⟨B, 0, none⟩ (.int .i64 0)).setCell ⟨B, 1, none⟩ (.string ⟨#[]⟩)).setCell ⟨B, 2, none⟩ (.slice none 0 0)).setCell ⟨B, 3, none⟩ (.slice none 0 0)).setCell ⟨B + 1, 0, none⟩ (.int .i64 x)).setCell ⟨B + 2, 0, none⟩ (.int .i64 k)).drew →
   Below B w ws2 ∧ ws2.heap[B]? = some Z25 ∧ ws2.heap[B + 1]? = some (.cells #[.int .i64 x] 3 (0, 0)) ∧ ws2.heap[B + 2]? = some (.cells #[.int .i64 k] 86 (0, 0))) := by
  exact Lib.hid (caught (hW.mono (by omega)) g2 g3 g4)
 clear hB hW g2 g3 g4 h2 h3 h4;go_wp2
 go_region
 go_wp2;have hE := hfin.out _ rfl;clear hfin;generalize World.drew _ = wE at hE ⊢;exact ⟨rfl, _, rfl, .tuple #[], by simp [results, Tryd.results57, go_sem], rfl, rfl, hE⟩
end Go.Proofs.YteighppcdpaekaaDoor.Rd
end
section
namespace Go.Proofs.YteighppcdpaekaaDoor.Rd
open Go.RowKit Go.Proofs.YteighppcdpaekaaDoorW.PrintWords
open Go.Proofs.YteighppcdpaekaaDoor Go.Proofs.YteighppcdpaekaaDoor.P
structure PS (w wc : World) (v0 v1 v2 v3 v4 v5 : Value) : Prop where
 z : wc.heap[w.heap.size]? = some (.cells #[v0, v1, v2, v3] 27 (0, 0))
 a : wc.heap[w.heap.size + 1]? = some (.cells #[v4] 3 (0, 0))
 e : wc.heap[w.heap.size + 1 + 1]? = some (.cells #[v5] 86 (0, 0))
def X3 : Obj := .cells #[.int .i64 0] 3 (0, 0)
def X29 : Obj := .cells #[.int .i64 0] 86 (0, 0)
section
variable {w wc w2 : World} {v0 v1 v2 v3 v4 v5 : Value}
theorem PS.step {g : Nat} (h : PS w wc v0 v1 v2 v3 v4 v5) (hK : Kbt wc w2 g none) (hg : w.heap.size + 1 + 1 < g) : PS w w2 v0 v1 v2 v3 v4 v5 :=
 ⟨hK.blk h.z (by omega) (by simp), hK.blk h.a (by omega) (by simp), hK.blk h.e (by omega) (by simp)⟩
theorem PS.drewN (h : PS w wc v0 v1 v2 v3 v4 v5) (m : Nat) : PS w (wc.drewN m) v0 v1 v2 v3 v4 v5 := h.step (kdrN (Kbt.refl _ (w.heap.size + 3) _) m) (by omega)
theorem PS.alloc (h : PS w wc v0 v1 v2 v3 v4 v5) (x : Obj) : PS w (wc.alloc x) v0 v1 v2 v3 v4 v5 := h.step (kal (Kbt.refl _ (w.heap.size + 3) _) x) (by omega)
theorem PS.lt (h : PS w wc v0 v1 v2 v3 v4 v5) : w.heap.size + 1 + 1 < wc.heap.size := blk_lt h.e
theorem PS.first (w : World) : PS w (((w.alloc Z25).alloc X3).alloc X29) (.int .i64 0) (.string ⟨#[]⟩) (.slice none 0 0) (.slice none 0 0) (.int .i64 0) (.int .i64 0) :=
 ⟨blk_alloc (blk_alloc (blk_new _ _) _) _, blk_alloc (by have := blk_new (w.alloc Z25) X3; rw [show (w.alloc Z25).heap.size = w.heap.size + 1 by simp] at this; exact this) _, by have := blk_new ((w.alloc Z25).alloc X3) X29; rw [show ((w.alloc Z25).alloc X3).heap.size = w.heap.size + 1 + 1 by simp] at this; exact this⟩
theorem PS.cells (h : PS w wc v0 v1 v2 v3 v4 v5) : (wc.cell? ⟨w.heap.size, 0, none⟩ = some v0 ∧ wc.cell? ⟨w.heap.size, 1, none⟩ = some v1 ∧ wc.cell? ⟨w.heap.size, 2, none⟩ = some v2 ∧ wc.cell? ⟨w.heap.size, 3, none⟩ = some v3) ∧
  (wc.frozen? ⟨w.heap.size, 0, none⟩ = false ∧ wc.frozen? ⟨w.heap.size, 1, none⟩ = false ∧ wc.frozen? ⟨w.heap.size, 2, none⟩ = false ∧ wc.frozen? ⟨w.heap.size, 3, none⟩ = false) ∧
  wc.cell? ⟨w.heap.size + 1, 0, none⟩ = some v4 ∧ wc.cell? ⟨w.heap.size + 1 + 1, 0, none⟩ = some v5 ∧ wc.frozen? ⟨w.heap.size + 1, 0, none⟩ = false ∧ wc.frozen? ⟨w.heap.size + 1 + 1, 0, none⟩ = false :=
 ⟨blk4 h.z, ⟨bfz h.z 0, bfz h.z 1, bfz h.z 2, bfz h.z 3⟩, (bceq h.a 0).trans rfl, (bceq h.e 0).trans rfl, bfz h.a 0, bfz h.e 0⟩
theorem PS.stored (h : PS w wc v0 v1 v2 v3 v4 v5) (u0 u1 u2 u3 u4 u5 : Value) : PS w ((((((wc.setCell ⟨w.heap.size, 0, none⟩ u0).setCell ⟨w.heap.size, 1, none⟩ u1).setCell ⟨w.heap.size, 2, none⟩ u2).setCell ⟨w.heap.size, 3, none⟩ u3).setCell ⟨w.heap.size + 1, 0, none⟩ u4).setCell ⟨w.heap.size + 1 + 1, 0, none⟩ u5) u0 u1 u2 u3 u4 u5 := by
 have step : ∀ (W : World) (j : Nat) (a : Value) (cs : Array Value), W.heap[w.heap.size]? = some (.cells cs 27 (0, 0)) → W.heap[w.heap.size + 1]? = some (.cells #[v4] 3 (0, 0)) → W.heap[w.heap.size + 1 + 1]? = some (.cells #[v5] 86 (0, 0)) →
   (W.setCell ⟨w.heap.size, j, none⟩ a).heap[w.heap.size]? = some (.cells (cs.setIfInBounds j a) 27 (0, 0)) ∧ (W.setCell ⟨w.heap.size, j, none⟩ a).heap[w.heap.size + 1]? = some (.cells #[v4] 3 (0, 0)) ∧ (W.setCell ⟨w.heap.size, j, none⟩ a).heap[w.heap.size + 1 + 1]? = some (.cells #[v5] 86 (0, 0)) := fun W j a cs h1 h2 h3 =>
  ⟨blk_set h1 j a, blk_far h2 (p := ⟨w.heap.size, j, none⟩) (by show w.heap.size + 1 ≠ w.heap.size; omega) a, blk_far h3 (p := ⟨w.heap.size, j, none⟩) (by show w.heap.size + 1 + 1 ≠ w.heap.size; omega) a⟩
 obtain ⟨a1, a2, a3⟩ := step wc 0 u0 _ h.z h.a h.e;generalize wc.setCell ⟨w.heap.size, 0, none⟩ u0 = W0 at a1 a2 a3 ⊢;obtain ⟨b1, b2, b3⟩ := step W0 1 u1 _ a1 a2 a3;generalize W0.setCell ⟨w.heap.size, 1, none⟩ u1 = W1 at b1 b2 b3 ⊢;obtain ⟨c1, c2, c3⟩ := step W1 2 u2 _ b1 b2 b3;generalize W1.setCell ⟨w.heap.size, 2, none⟩ u2 = W2 at c1 c2 c3 ⊢;obtain ⟨d1, d2, d3⟩ := step W2 3 u3 _ c1 c2 c3;generalize W2.setCell ⟨w.heap.size, 3, none⟩ u3 = W3 at d1 d2 d3 ⊢;have e1 := blk_far d1 (p := ⟨w.heap.size + 1, 0, none⟩) (by show w.heap.size ≠ w.heap.size + 1; omega) u4;have e2 := blk_set d2 0 u4;have e3 := blk_far d3 (p := ⟨w.heap.size + 1, 0, none⟩) (by show w.heap.size + 1 + 1 ≠ w.heap.size + 1; omega) u4;generalize W3.setCell ⟨w.heap.size + 1, 0, none⟩ u4 = W4 at e1 e2 e3 ⊢;exact ⟨blk_far e1 (p := ⟨w.heap.size + 1 + 1, 0, none⟩) (by show w.heap.size ≠ w.heap.size + 1 + 1; omega) u5, blk_far e2 (p := ⟨w.heap.size + 1 + 1, 0, none⟩) (by show w.heap.size + 1 ≠ w.heap.size + 1 + 1; omega) u5, blk_set e3 0 u5⟩
theorem below_put (h : Below w.heap.size w wc) (i j : Nat) (hi : w.heap.size ≤ i) (u : Value) : Below w.heap.size w (wc.setCell ⟨i, j, none⟩ u) := Below.setCell (p := ⟨i, j, none⟩) h hi u
theorem below_stored (h : Below w.heap.size w wc) (u0 u1 u2 u3 u4 u5 : Value) : Below w.heap.size w ((((((wc.setCell ⟨w.heap.size, 0, none⟩ u0).setCell ⟨w.heap.size, 1, none⟩ u1).setCell ⟨w.heap.size, 2, none⟩ u2).setCell ⟨w.heap.size, 3, none⟩ u3).setCell ⟨w.heap.size + 1, 0, none⟩ u4).setCell ⟨w.heap.size + 1 + 1, 0, none⟩ u5) :=
 below_put (below_put (below_put (below_put (below_put (below_put h _ 0 (Nat.le_refl _) u0) _ 1 (Nat.le_refl _) u1) _ 2 (Nat.le_refl _) u2) _ 3 (Nat.le_refl _) u3) _ 0 (by omega) u4) _ 0 (by omega) u5
end
theorem below_first (w : World) : Below w.heap.size w (((w.alloc Z25).alloc X3).alloc X29) := bal (bal (bal (Below.refl _ _) _) _) _
set_option maxRecDepth 100000 in
set_option maxHeartbeats 3200000 in
theorem parse_utf {A : Option Addr} {c : Nat} {b : List Int} {w : World} {k : Nat} {x e : Int} (hr : Kd.C (Kd.int .u8) w A b.length b) (hc : b.length ≤ c) (h : utf_Valid.f k b = some (x, e)) (he : ¬ e = 0) :
  Calls Tryd.prog 39 #[.slice A b.length c] w fun en w' => en = .returned (.tuple #[.agg #[.int .i64 0, .string ⟨#[]⟩, .slice none 0 0, .slice none 0 0], .int .i64 x, .int .i64 e]) ∧ Below w.heap.size w w' := by
 have hmf : ∀ (fn : Fn) (first cap : Array Value) (w : World), (Instr.makeFunc fn first cap).run Tryd.prog w = .ok (.func fn first cap) w := fun _ _ _ _ => rfl
 have hU := utf_Valid.calls k A c b x e (((w.alloc Z25).alloc X3).alloc X29) (Kd.C_below hr (below_first w)) hc h
 have hP := PS.first w
 have he' : (e == 0) = false := by simpa using he
 have hF := fun m => (hP.drewN m).cells
 have hG := Lib.hid (fun m => And.intro ((hP.drewN m).stored (.int .i64 0) (.string ⟨#[]⟩) (.slice none 0 0) (.slice none 0 0) (.int .i64 x) (.int .i64 e)) (below_stored (pbdN (below_first w) m) (.int .i64 0) (.string ⟨#[]⟩) (.slice none 0 0) (.slice none 0 0) (.int .i64 x) (.int .i64 e)));clear hP h
 go_enter_defers Tryd.func39, Tryd.ntmps39
 go_wp2_with (go_at_call 56; refine hU.mono ?_; rintro en w1 ⟨rfl, ⟨m, rfl⟩⟩; obtain ⟨⟨z0, z1, z2, z3⟩, ⟨y0, y1, y2, y3⟩, a0, e0, a1, e1⟩ := hF m);obtain ⟨hP, hB⟩ := hG.out m;clear hG hF;generalize World.setCell _ _ _ = wf at hP hB ⊢;obtain ⟨⟨c0, c1, c2, c3⟩, _, c4, c5, _, _⟩ := hP.cells;refine ⟨.tuple #[.agg #[.int .i64 0, .string ⟨#[]⟩, .slice none 0 0, .slice none 0 0], .int .i64 x, .int .i64 e], ?_, rfl, hB⟩
 simp [results, Tryd.results39, go_sem, c0, c1, c2, c3, c4, c5]
def parsed (b : List Int) (k : Nat) : Option (Js.Out Js.Val) := match Js.value b k 0 (Js.blank b 0) with
 | none => none
 | some (.no x e) => some (.no x e)
 | some (.ok v q) => if Js.blank b q < b.length then some (.no (Js.blank b q) 12) else some (.ok v 0)
set_option maxRecDepth 100000 in
set_option maxHeartbeats 3200000 in
theorem parse_no {A : Option Addr} {c : Nat} {b : List Int} {w : World} {k y e : Nat} (hr : Kd.C (Kd.int .u8) w A b.length b) (hc : b.length ≤ c) (hb : Bytes b) (hsm : b.length ≤ 100000000000) (h : utf_Valid.f k b = some (0, 0)) (hv : Js.value b k 0 (Js.blank b 0) = some (.no y e)) :
  Calls Tryd.prog 39 #[.slice A b.length c] w fun en w' => en = .returned (.tuple #[.agg #[.int .i64 0, .string ⟨#[]⟩, .slice none 0 0, .slice none 0 0], .int .i64 y, .int .i64 e]) ∧ Below w.heap.size w w' := by
 have hmf : ∀ (fn : Fn) (first cap : Array Value) (w : World), (Instr.makeFunc fn first cap).run Tryd.prog w = .ok (.func fn first cap) w := fun _ _ _ _ => rfl
 have hU := utf_Valid.calls k A c b 0 0 (((w.alloc Z25).alloc X3).alloc X29) (Kd.C_below hr (below_first w)) hc h
 have hP := PS.first w
 have hR : ∀ m, RS w (w.heap.size + 1 + 1 + 1) A c b (((((w.alloc Z25).alloc X3).alloc X29).drewN m).alloc (.cells #[.slice A b.length c, .int .i64 0, .int .i64 0] 113 (0, 0))) ((0 : Nat) : Int) 0 := fun m =>
  ⟨by have := blk_new ((((w.alloc Z25).alloc X3).alloc X29).drewN m) (.cells #[.slice A b.length c, .int .i64 0, .int .i64 0] 113 (0, 0)); rw [show ((((w.alloc Z25).alloc X3).alloc X29).drewN m).heap.size = w.heap.size + 1 + 1 + 1 by simp] at this; exact this, by omega, hr, bal (pbdN (below_first w) m) _, hsm⟩
 have hbl := Js.blank_le (b := b) (p := 0) (Nat.zero_le _)
 have hV := fun W hW => value_calls k w (w.heap.size + 1 + 1 + 1) A c b W (Js.blank b 0) 0 _ hb hW hbl.2 hc (by omega) hv
 have hB0 := fun m => blank_calls 0 (hR m)
 clear h hv;generalize Js.blank b 0 = q0 at hV hbl hB0
 go_enter_defers Tryd.func39, Tryd.ntmps39
 go_wp2_with (go_at_call 56; refine hU.mono ?_; rintro en w1 ⟨rfl, ⟨m, rfl⟩⟩);go_wp2_with (first | (go_at_call 58; refine (hB0 m).mono ?_; rintro en w2 ⟨rfl, hS2, hK2⟩) | (go_at_call 59; refine (hV _ hS2).mono ?_; rintro en w3 ⟨rfl, hB3, hK3⟩));have hP3 := (((hP.drewN m).alloc _).step hK2 (by omega)).step hK3 (by omega);refine leaves_cons (f := 57) (args := #[.pointer (some ⟨w.heap.size, 0, none⟩), .pointer (some ⟨w.heap.size + 1, 0, none⟩), .pointer (some ⟨w.heap.size + 1 + 1, 0, none⟩)]) (by simp) (by simp [go_sem]) ?_;refine (catch_panicking (B := w.heap.size) y e [] hP3.z hP3.a hP3.e).mono ?_;rintro en u' w4 ⟨rfl, rfl, hB4, hz, ha, hE⟩
 have hP4 : PS w w4 _ _ _ _ _ _ := ⟨hz, ha, hE⟩
 obtain ⟨⟨c0, c1, c2, c3⟩, _, c4, c5, _, _⟩ := hP4.cells;refine ⟨.tuple #[.agg #[.int .i64 0, .string ⟨#[]⟩, .slice none 0 0, .slice none 0 0], .int .i64 y, .int .i64 e], ?_, rfl, hB3.trans hB4⟩
 simp [results, Tryd.results39, go_sem, c0, c1, c2, c3, c4, c5]
theorem PS.put25 {w wc : World} {v0 v1 v2 v3 v4 v5 : Value} (h : PS w wc v0 v1 v2 v3 v4 v5) (u0 u1 u2 u3 : Value) : PS w ((((wc.setCell ⟨w.heap.size, 0, none⟩ u0).setCell ⟨w.heap.size, 1, none⟩ u1).setCell ⟨w.heap.size, 2, none⟩ u2).setCell ⟨w.heap.size, 3, none⟩ u3) u0 u1 u2 u3 v4 v5 := by
 have step : ∀ (W : World) (j : Nat) (a : Value) (cs : Array Value), W.heap[w.heap.size]? = some (.cells cs 27 (0, 0)) → W.heap[w.heap.size + 1]? = some (.cells #[v4] 3 (0, 0)) → W.heap[w.heap.size + 1 + 1]? = some (.cells #[v5] 86 (0, 0)) →
   (W.setCell ⟨w.heap.size, j, none⟩ a).heap[w.heap.size]? = some (.cells (cs.setIfInBounds j a) 27 (0, 0)) ∧ (W.setCell ⟨w.heap.size, j, none⟩ a).heap[w.heap.size + 1]? = some (.cells #[v4] 3 (0, 0)) ∧ (W.setCell ⟨w.heap.size, j, none⟩ a).heap[w.heap.size + 1 + 1]? = some (.cells #[v5] 86 (0, 0)) := fun W j a cs h1 h2 h3 =>
  ⟨blk_set h1 j a, blk_far h2 (p := ⟨w.heap.size, j, none⟩) (by show w.heap.size + 1 ≠ w.heap.size; omega) a, blk_far h3 (p := ⟨w.heap.size, j, none⟩) (by show w.heap.size + 1 + 1 ≠ w.heap.size; omega) a⟩
 obtain ⟨a1, a2, a3⟩ := step wc 0 u0 _ h.z h.a h.e;generalize wc.setCell ⟨w.heap.size, 0, none⟩ u0 = W0 at a1 a2 a3 ⊢;obtain ⟨b1, b2, b3⟩ := step W0 1 u1 _ a1 a2 a3;generalize W0.setCell ⟨w.heap.size, 1, none⟩ u1 = W1 at b1 b2 b3 ⊢;obtain ⟨c1, c2, c3⟩ := step W1 2 u2 _ b1 b2 b3;generalize W1.setCell ⟨w.heap.size, 2, none⟩ u2 = W2 at c1 c2 c3 ⊢;obtain ⟨d1, d2, d3⟩ := step W2 3 u3 _ c1 c2 c3;exact ⟨d1, d2, d3⟩
theorem RS.put25 {w wc : World} {g : Nat} {A : Option Addr} {c : Nat} {b : List Int} {p d : Int} (h : RS w g A c b wc p d) (hg : w.heap.size < g) (u0 u1 u2 u3 : Value) : RS w g A c b ((((wc.setCell ⟨w.heap.size, 0, none⟩ u0).setCell ⟨w.heap.size, 1, none⟩ u1).setCell ⟨w.heap.size, 2, none⟩ u2).setCell ⟨w.heap.size, 3, none⟩ u3) p d := by
 have step : ∀ (W : World) (j : Nat) (u : Value), RS w g A c b W p d → RS w g A c b (W.setCell ⟨w.heap.size, j, none⟩ u) p d := fun W j u hW => hW.far (q := ⟨w.heap.size, j, none⟩) (by show g ≠ w.heap.size; omega) (Nat.le_refl _) u
 exact step _ _ _ (step _ _ _ (step _ _ _ (step _ _ _ h)))
structure VR (wc : World) (n0 : Nat) (v : Js.Val) (v2 v3 : Value) : Prop where
 r2 : Kd.string.R 9 wc n0 (fun _ => True) v2 (toS v).f2
 r3 : k27.R 27 wc n0 (fun k => some k ≠ v2.ownBlock) v3 (toS v).f3
section
variable {wc w2 : World} {n0 : Nat} {v : Js.Val} {v2 v3 : Value}
theorem VR.set (h : VR wc n0 v v2 v3) (i j : Nat) (hi : i < n0) (u : Value) : VR (wc.setCell ⟨i, j, none⟩ u) n0 v v2 v3 :=
  ⟨Kd.R_mono (Kd.R_far (p := ⟨i, j, none⟩) (Kd.R_bound h.r2) (fun k hk => by have h2 := hk.2.1; show k ≠ i; omega) u) (fun _ _ => trivial),
   Kd.R_mono (Kd.R_far (p := ⟨i, j, none⟩) (Kd.R_bound h.r3) (fun k hk => by have h2 := hk.2.1; show k ≠ i; omega) u) (fun _ hk => hk.1)⟩
theorem VR.keep (h : VR wc n0 v v2 v3) {g : Nat} (hK : Kbt wc w2 g none) (hg : g < n0) : VR w2 n0 v v2 v3 :=
 ⟨Kd.R_mono (Kd.R_keep (Kd.R_bound h.r2) hK (fun k hk => by have := hk.2.1; omega)) (fun _ _ => trivial), Kd.R_mono (Kd.R_keep (Kd.R_bound h.r3) hK (fun k hk => by have := hk.2.1; omega)) (fun _ hk => hk.1)⟩
theorem VR.below (h : VR wc n0 v v2 v3) (hB : Below wc.heap.size wc w2) : VR w2 n0 v v2 v3 := ⟨Kd.R_below h.r2 hB, Kd.R_below h.r3 hB⟩
theorem VR.lower (h : VR wc n0 v v2 v3) {n1 : Nat} (hn : n1 ≤ n0) : VR wc n1 v v2 v3 := ⟨Kd.R_lower h.r2 hn, Kd.R_lower h.r3 hn⟩
theorem VVal.vr {u : Value} (h : VVal n0 wc v u) : ∃ (A2 : Option Addr) (n2 c2 : Nat) (A3 : Option Addr) (n3 c3 : Nat), u = .agg #[.int .i64 (toS v).f0, .string (toS v).f1, .slice A2 n2 c2, .slice A3 n3 c3] ∧ VR wc n0 v (.slice A2 n2 c2) (.slice A3 n3 c3) := by
 obtain ⟨x0, x1, v2, v3, rfl, hM, hR⟩ := h;obtain ⟨u2, u3, he, h2, h3⟩ := k27_openM hM;simp only [List.cons.injEq, and_true] at he;obtain ⟨e0, e1, rfl, rfl⟩ := he;obtain ⟨A2, c2, rfl⟩ := Kd.R_slice h2;obtain ⟨A3, c3, rfl⟩ := Kd.R_slice h3;rw [e0, e1];exact ⟨_, _, _, _, _, _, rfl, h2, hR⟩
end
set_option maxRecDepth 100000 in
set_option maxHeartbeats 3200000 in
theorem parse_more {A : Option Addr} {c : Nat} {b : List Int} {w : World} {k r : Nat} {v : Js.Val} (hr : Kd.C (Kd.int .u8) w A b.length b) (hc : b.length ≤ c) (hb : Bytes b) (hsm : b.length ≤ 100000000000) (h : utf_Valid.f k b = some (0, 0)) (hv : Js.value b k 0 (Js.blank b 0) = some (.ok v r)) (hq : Js.blank b r < b.length) :
  Calls Tryd.prog 39 #[.slice A b.length c] w fun en w' => en = .returned (.tuple #[.agg #[.int .i64 0, .string ⟨#[]⟩, .slice none 0 0, .slice none 0 0], .int .i64 (Js.blank b r), .int .i64 12]) ∧ Below w.heap.size w w' := by
 have hmf : ∀ (fn : Fn) (first cap : Array Value) (w : World), (Instr.makeFunc fn first cap).run Tryd.prog w = .ok (.func fn first cap) w := fun _ _ _ _ => rfl
 have hU := utf_Valid.calls k A c b 0 0 (((w.alloc Z25).alloc X3).alloc X29) (Kd.C_below hr (below_first w)) hc h
 have hP := PS.first w
 have hR : ∀ m, RS w (w.heap.size + 1 + 1 + 1) A c b (((((w.alloc Z25).alloc X3).alloc X29).drewN m).alloc (.cells #[.slice A b.length c, .int .i64 0, .int .i64 0] 113 (0, 0))) ((0 : Nat) : Int) 0 := fun m =>
  ⟨by have := blk_new ((((w.alloc Z25).alloc X3).alloc X29).drewN m) (.cells #[.slice A b.length c, .int .i64 0, .int .i64 0] 113 (0, 0)); rw [show ((((w.alloc Z25).alloc X3).alloc X29).drewN m).heap.size = w.heap.size + 1 + 1 + 1 by simp] at this; exact this, by omega, hr, bal (pbdN (below_first w) m) _, hsm⟩
 have hbl := Js.blank_le (b := b) (p := 0) (Nat.zero_le _)
 have hV := fun W hW => value_calls k w (w.heap.size + 1 + 1 + 1) A c b W (Js.blank b 0) 0 _ hb hW hbl.2 hc (by omega) hv
 have hB0 := fun m => blank_calls 0 (hR m)
 have hBr : ∀ W, RS w (w.heap.size + 1 + 1 + 1) A c b W (r : Int) 0 → Calls Tryd.prog 58 #[.pointer (some ⟨w.heap.size + 1 + 1 + 1, 0, none⟩)] W (fun e w' => e = .returned (.tuple #[]) ∧ RS w (w.heap.size + 1 + 1 + 1) A c b w' (Js.blank b r) 0 ∧ Kbt W w' (w.heap.size + 1 + 1 + 1) none) := fun W h => blank_calls r h
 clear h hv;generalize Js.blank b 0 = q0 at hV hbl hB0;generalize Js.blank b r = q1 at hBr hq ⊢
 have hq' : (q1 : Int) < (b.length : Int) := by omega
 go_enter_defers Tryd.func39, Tryd.ntmps39
 go_wp2_with (go_at_call 56; refine hU.mono ?_; rintro en w1 ⟨rfl, ⟨m, rfl⟩⟩);go_wp2_with (first | (go_at_call 58; refine (hB0 m).mono ?_; rintro en w2 ⟨rfl, hS2, hK2⟩) | (go_at_call 59; refine (hV _ hS2).mono ?_; rintro en w3 ⟨u, rfl, hVV, hS3, hK3⟩; obtain ⟨A2, n2, c2, A3, n3, c3, rfl, hVR⟩ := hVV.vr; have hP3 := (((hP.drewN m).alloc _).step hK2 (by omega)).step hK3 (by omega); obtain ⟨⟨z0, z1, z2, z3⟩, ⟨y0, y1, y2, y3⟩, _, _, _, _⟩ := hP3.cells));have hP4 := hP3.put25 (.int .i64 (toS v).f0) (.string (toS v).f1) (.slice A2 n2 c2) (.slice A3 n3 c3);have hS4 := hS3.put25 (by omega) (.int .i64 (toS v).f0) (.string (toS v).f1) (.slice A2 n2 c2) (.slice A3 n3 c3);go_wp2_with (first | (go_at_call 58; refine (hBr _ hS4).mono ?_; rintro en w5 ⟨rfl, hS5, hK5⟩; have g5 := hS5.c1) | (go_at_call 60; refine (fail_calls 12 hS5).mono ?_; rintro en w6 ⟨rfl, rfl⟩));have hP5 := hP4.step hK5 (by omega);have hB5 := hS5.bel;refine leaves_cons (f := 57) (args := #[.pointer (some ⟨w.heap.size, 0, none⟩), .pointer (some ⟨w.heap.size + 1, 0, none⟩), .pointer (some ⟨w.heap.size + 1 + 1, 0, none⟩)]) (by simp) (by simp [go_sem]) ?_;refine (catch_panicking (B := w.heap.size) q1 12 [] hP5.z hP5.a hP5.e).mono ?_;rintro en u' w7 ⟨rfl, rfl, hB7, hz, ha, hE⟩
 have hP7 : PS w w7 _ _ _ _ _ _ := ⟨hz, ha, hE⟩
 obtain ⟨⟨d0, d1, d2, d3⟩, _, d4, d5, _, _⟩ := hP7.cells;refine ⟨.tuple #[.agg #[.int .i64 0, .string ⟨#[]⟩, .slice none 0 0, .slice none 0 0], .int .i64 q1, .int .i64 12], ?_, rfl, hB5.trans hB7⟩
 simp [results, Tryd.results39, go_sem, d0, d1, d2, d3, d4, d5]
set_option maxRecDepth 100000 in
set_option maxHeartbeats 3200000 in
theorem parse_ok {A : Option Addr} {c : Nat} {b : List Int} {w : World} {k r : Nat} {v : Js.Val} (hr : Kd.C (Kd.int .u8) w A b.length b) (hc : b.length ≤ c) (hb : Bytes b) (hsm : b.length ≤ 100000000000) (h : utf_Valid.f k b = some (0, 0)) (hv : Js.value b k 0 (Js.blank b 0) = some (.ok v r)) (hq : ¬ Js.blank b r < b.length) :
  Calls Tryd.prog 39 #[.slice A b.length c] w fun en w' => ∃ v2 v3 : Value, en = .returned (.tuple #[.agg #[.int .i64 (toS v).f0, .string (toS v).f1, v2, v3], .int .i64 0, .int .i64 0]) ∧ VR w' w.heap.size v v2 v3 ∧ Below w.heap.size w w' := by
 have hmf : ∀ (fn : Fn) (first cap : Array Value) (w : World), (Instr.makeFunc fn first cap).run Tryd.prog w = .ok (.func fn first cap) w := fun _ _ _ _ => rfl
 have hU := utf_Valid.calls k A c b 0 0 (((w.alloc Z25).alloc X3).alloc X29) (Kd.C_below hr (below_first w)) hc h
 have hP := PS.first w
 have hR : ∀ m, RS w (w.heap.size + 1 + 1 + 1) A c b (((((w.alloc Z25).alloc X3).alloc X29).drewN m).alloc (.cells #[.slice A b.length c, .int .i64 0, .int .i64 0] 113 (0, 0))) ((0 : Nat) : Int) 0 := fun m =>
  ⟨by have := blk_new ((((w.alloc Z25).alloc X3).alloc X29).drewN m) (.cells #[.slice A b.length c, .int .i64 0, .int .i64 0] 113 (0, 0)); rw [show ((((w.alloc Z25).alloc X3).alloc X29).drewN m).heap.size = w.heap.size + 1 + 1 + 1 by simp] at this; exact this, by omega, hr, bal (pbdN (below_first w) m) _, hsm⟩
 have hbl := Js.blank_le (b := b) (p := 0) (Nat.zero_le _)
 have hV := fun W hW => value_calls k w (w.heap.size + 1 + 1 + 1) A c b W (Js.blank b 0) 0 _ hb hW hbl.2 hc (by omega) hv
 have hB0 := fun m => blank_calls 0 (hR m)
 have hBr : ∀ W, RS w (w.heap.size + 1 + 1 + 1) A c b W (r : Int) 0 → Calls Tryd.prog 58 #[.pointer (some ⟨w.heap.size + 1 + 1 + 1, 0, none⟩)] W (fun e w' => e = .returned (.tuple #[]) ∧ RS w (w.heap.size + 1 + 1 + 1) A c b w' (Js.blank b r) 0 ∧ Kbt W w' (w.heap.size + 1 + 1 + 1) none) := fun W h => blank_calls r h
 clear h hv;generalize Js.blank b 0 = q0 at hV hbl hB0;generalize Js.blank b r = q1 at hBr hq
 have hq' : ¬ (q1 : Int) < (b.length : Int) := by omega
 go_enter_defers Tryd.func39, Tryd.ntmps39
 go_wp2_with (go_at_call 56; refine hU.mono ?_; rintro en w1 ⟨rfl, ⟨m, rfl⟩⟩);go_wp2_with (first | (go_at_call 58; refine (hB0 m).mono ?_; rintro en w2 ⟨rfl, hS2, hK2⟩) | (go_at_call 59; refine (hV _ hS2).mono ?_; rintro en w3 ⟨u, rfl, hVV, hS3, hK3⟩; obtain ⟨A2, n2, c2, A3, n3, c3, rfl, hVR⟩ := hVV.vr; have hP3 := (((hP.drewN m).alloc _).step hK2 (by omega)).step hK3 (by omega); obtain ⟨⟨z0, z1, z2, z3⟩, ⟨y0, y1, y2, y3⟩, _, _, _, _⟩ := hP3.cells));have hP4 := hP3.put25 (.int .i64 (toS v).f0) (.string (toS v).f1) (.slice A2 n2 c2) (.slice A3 n3 c3);have hS4 := hS3.put25 (by omega) (.int .i64 (toS v).f0) (.string (toS v).f1) (.slice A2 n2 c2) (.slice A3 n3 c3)
 have hn0 : w.heap.size + 1 + 1 + 1 < w2.heap.size := by have := hS2.lt; omega
 have hR4 := (((hVR.set w.heap.size 0 (by omega) (.int .i64 (toS v).f0)).set w.heap.size 1 (by omega) (.string (toS v).f1)).set w.heap.size 2 (by omega) (.slice A2 n2 c2)).set w.heap.size 3 (by omega) (.slice A3 n3 c3);go_wp2_with (first | (go_at_call 58; refine (hBr _ hS4).mono ?_; rintro en w5 ⟨rfl, hS5, hK5⟩; have g5 := hS5.c1; have hP5 := hP4.step hK5 (by omega); obtain ⟨⟨a0, a1, a2, a3⟩, ⟨b0, b1, b2, b3⟩, e0, e1, e2, e3⟩ := hP5.cells; have hG := Lib.hid (And.intro (hP5.stored (.int .i64 (toS v).f0) (.string (toS v).f1) (.slice A2 n2 c2) (.slice A3 n3 c3) (.int .i64 0) (.int .i64 0)) (And.intro (below_stored hS5.bel (.int .i64 (toS v).f0) (.string (toS v).f1) (.slice A2 n2 c2) (.slice A3 n3 c3) (.int .i64 0) (.int .i64 0)) ((((((((hR4.keep hK5 hn0).set w.heap.size 0 (by omega) (.int .i64 (toS v).f0)).set w.heap.size 1 (by omega) (.string (toS v).f1)).set w.heap.size 2 (by omega) (.slice A2 n2 c2)).set w.heap.size 3 (by omega) (.slice A3 n3 c3)).set (w.heap.size + 1) 0 (by omega) (.int .i64 0)).set (w.heap.size + 1 + 1) 0 (by omega) (.int .i64 0)))))));obtain ⟨hP6, hB6, hV6⟩ := hG.out;clear hG;generalize World.setCell _ _ _ = w6 at hP6 hB6 hV6 ⊢;refine leaves_cons (f := 57) (args := #[.pointer (some ⟨w.heap.size, 0, none⟩), .pointer (some ⟨w.heap.size + 1, 0, none⟩), .pointer (some ⟨w.heap.size + 1 + 1, 0, none⟩)]) (by simp) (by simp [go_sem]) ?_;refine (catch_idle _ _ _ _).mono ?_;rintro en u' w7 ⟨rfl, rfl, hB7⟩;have hl6 := hP6.lt
 have hP7 : PS w w7 _ _ _ _ _ _ := ⟨(hB7.block _ (by omega)).trans hP6.z, (hB7.block _ (by omega)).trans hP6.a, (hB7.block _ (by omega)).trans hP6.e⟩
 obtain ⟨⟨d0, d1, d2, d3⟩, _, d4, d5, _, _⟩ := hP7.cells;refine ⟨.tuple #[.agg #[.int .i64 (toS v).f0, .string (toS v).f1, .slice A2 n2 c2, .slice A3 n3 c3], .int .i64 0, .int .i64 0], ?_, _, _, rfl, (hV6.below hB7).lower (by omega), hB6.trans (hB7.mono (by omega))⟩
 simp [results, Tryd.results39, go_sem, d0, d1, d2, d3, d4, d5]
end Go.Proofs.YteighppcdpaekaaDoor.Rd
end
section
namespace Go.Proofs.YteighppcdpaekaaDoor.P
open Go.RowKit Go.Proofs.YteighppcdpaekaaDoorW.PrintWords Go.Proofs.YteighppcdpaekaaDoorW.PrintLast Go.Proofs.YteighppcdpaekaaDoorW.PrintMore
attribute [local go_sem] max2_int min2_int max_two min_two max_three min_three max_four min_four
set_option linter.unusedVariables false
set_option linter.unusedSimpArgs false
def json_Parse.okb (l0 : List Int) : Bool := l0.all (fun x => decide (0 ≤ x) && decide (x ≤ 255)) && decide (l0.length ≤ 100000000000)
def json_Parse.res : Js.Out Js.Val → Int × ByteArray × List ByteArray × (List S27) × Int × Int
 | .no x e => (0, ⟨#[]⟩, [], [], x, e)
 | .ok v _ => ((Rd.toS v).f0, (Rd.toS v).f1, (Rd.toS v).f2, (Rd.toS v).f3, 0, 0)
def json_Parse.f (k : Nat) (l0 : List Int) : Option (Int × ByteArray × List ByteArray × (List S27) × Int × Int) :=
 if json_Parse.okb l0 = true then (match utf_Valid.f k l0 with
  | none => none
  | some t => if t.2 = 0 then (if t.1 = 0 then (match Rd.parsed l0 k with
   | none => none
   | some o => some (json_Parse.res o)) else none) else some (0, ⟨#[]⟩, [], [], t.1, t.2)) else none
theorem json_Parse.parsed_mono {l0 : List Int} {k : Nat} {o : Js.Out Js.Val} (h : Rd.parsed l0 k = some o) : Rd.parsed l0 (k + 1) = some o := by
 unfold Rd.parsed at h ⊢
 cases hv : Js.value l0 k 0 (Js.blank l0 0) with
 | none => simp [hv] at h
 | some ov => rw [Js.value_mono hv]; rw [hv] at h; exact h
theorem json_Parse.mono : ∀ a0 k, LeO (json_Parse.f k a0) (json_Parse.f (k + 1) a0) := by
 intro a0 k r h;unfold json_Parse.f at h ⊢
 split at h
 ·rename_i hb
  rw [if_pos hb]
  cases hu : utf_Valid.f k a0 with
  | none => simp [hu] at h
  | some t =>
   rw [utf_Valid.mono a0 k _ hu];rw [hu] at h;simp only at h ⊢
   split at h
   ·rename_i h2
    rw [if_pos h2]
    split at h
    ·rename_i h1
     rw [if_pos h1]
     cases hp : Rd.parsed a0 k with
     | none => simp [hp] at h
     | some o => rw [json_Parse.parsed_mono hp]; rw [hp] at h; exact h
    ·cases h
   ·rename_i h2
    rw [if_neg h2];exact h
 ·cases h
theorem json_Parse.calls (k : Nat) (A0 : Option Addr) (c0 : Nat) (l0 : List Int) (r1 : Int) (r2 : ByteArray) (r3 : List ByteArray) (r4 : List S27) (r5 r6 : Int) (w : World) (hr0 : Kd.C (Kd.int .u8) w A0 l0.length l0) (hc0 : l0.length ≤ c0) (h : json_Parse.f k l0 = some (r1, r2, r3, r4, r5, r6)) :
  Calls Tryd.prog 39 #[.slice A0 l0.length c0] w fun e w' => ∃ v2_ v3_ : Value, e = .returned (.tuple #[.agg #[.int .i64 r1, .string r2, v2_, v3_], .int .i64 r5, .int .i64 r6]) ∧ Kd.R Kd.string 9 w' w.heap.size (fun _ => True) v2_ r3 ∧ Kd.R k27 27 w' w.heap.size (fun k_ => some k_ ≠ (v2_ : Value).ownBlock) v3_ r4 ∧ Below w.heap.size w w' := by
 unfold json_Parse.f at h
 split at h
 ·rename_i hb
  have hbb : Rd.Bytes l0 ∧ l0.length ≤ 100000000000 := by
   unfold json_Parse.okb at hb;simp only [Bool.and_eq_true, List.all_eq_true, decide_eq_true_eq] at hb;exact ⟨fun x hx => hb.1 x hx, hb.2⟩
  cases hu : utf_Valid.f k l0 with
  | none => simp [hu] at h
  | some t =>
   obtain ⟨t1, t2⟩ := t;rw [hu] at h;simp only at h
   split at h
   ·rename_i h2
    split at h
    ·rename_i h1
     subst h1;subst h2
     cases hp : Rd.parsed l0 k with
     | none => simp [hp] at h
     | some o =>
      rw [hp] at h;simp only [Option.some.injEq] at h;unfold Rd.parsed at hp
      cases hv : Js.value l0 k 0 (Js.blank l0 0) with
      | none => simp [hv] at hp
      | some ov =>
       rw [hv] at hp
       cases ov with
       | no y e =>
        obtain rfl : Js.Out.no y e = o := Option.some.inj hp;simp only [json_Parse.res, Prod.mk.injEq] at h;obtain ⟨rfl, rfl, rfl, rfl, rfl, rfl⟩ := h;refine (Rd.parse_no hr0 hc0 hbb.1 hbb.2 hu hv).mono ?_;rintro en w' ⟨rfl, hB⟩;exact ⟨_, _, rfl, Kd.R_nil _ _ _ _ _, Kd.R_nil _ _ _ _ _, hB⟩
       | ok v r =>
        simp only at hp
        split at hp
        ·rename_i hq
         obtain rfl := Option.some.inj hp;simp only [json_Parse.res, Prod.mk.injEq] at h;obtain ⟨rfl, rfl, rfl, rfl, rfl, rfl⟩ := h;refine (Rd.parse_more hr0 hc0 hbb.1 hbb.2 hu hv hq).mono ?_;rintro en w' ⟨rfl, hB⟩;exact ⟨_, _, rfl, Kd.R_nil _ _ _ _ _, Kd.R_nil _ _ _ _ _, hB⟩
        ·rename_i hq
         obtain rfl := Option.some.inj hp;simp only [json_Parse.res, Prod.mk.injEq] at h;obtain ⟨rfl, rfl, rfl, rfl, rfl, rfl⟩ := h;refine (Rd.parse_ok hr0 hc0 hbb.1 hbb.2 hu hv hq).mono ?_;rintro en w' ⟨v2, v3, rfl, hV, hB⟩;exact ⟨v2, v3, rfl, hV.r2, hV.r3, hB⟩
    ·cases h
   ·rename_i h2
    simp only [Option.some.injEq, Prod.mk.injEq] at h;obtain ⟨rfl, rfl, rfl, rfl, rfl, rfl⟩ := h;refine (Rd.parse_utf hr0 hc0 hu h2).mono ?_;rintro en w' ⟨rfl, hB⟩;exact ⟨_, _, rfl, Kd.R_nil _ _ _ _ _, Kd.R_nil _ _ _ _ _, hB⟩
 ·cases h
end Go.Proofs.YteighppcdpaekaaDoor.P
end
section
namespace Go.Proofs.YteighppcdpaekaaDoor.P
open Go.RowKit Go.Proofs.YteighppcdpaekaaDoorW.PrintWords Go.Proofs.YteighppcdpaekaaDoorW.PrintLast Go.Proofs.YteighppcdpaekaaDoorW.PrintMore
abbrev RdOut := Bool × Int × ByteArray × List ByteArray × List S27 × ByteArray × Int × ByteArray × List ByteArray × List S27 × Int × Int × ByteArray × List ByteArray × List S27 × Bool
def rpc_Read.no (cd i1 : Int) (i2 : ByteArray) (i3 : List ByteArray) (i4 : List S27) : RdOut := (false, 0, ⟨#[]⟩, [], [], ⟨#[]⟩, 0, ⟨#[]⟩, [], [], cd, i1, i2, i3, i4, false)
def rpc_Read.params (k : Nat) (p1 : Int) (p2 : ByteArray) (p3 : List ByteArray) (p4 : List S27) (i1 : Int) (i2 : ByteArray) (i3 : List ByteArray) (i4 : List S27) (ih : Bool) (m2 : ByteArray) : Option RdOut :=
 (json_Get.f k p1 p2 p3 p4 ⟨#[112, 97, 114, 97, 109, 115]⟩).bind fun q =>
  if (q.2.2.2.2 && (q.1 != 6 && q.1 != 5)) = true then some (rpc_Read.no (-32600) i1 i2 i3 i4) else
  some (ih, i1, i2, i3, i4, m2, q.1, q.2.1, q.2.2.1, q.2.2.2.1, 0, 0, ⟨#[]⟩, [], [], true)
def rpc_Read.replies (k : Nat) (p1 : Int) (p2 : ByteArray) (p3 : List ByteArray) (p4 : List S27) (i1 : Int) (i2 : ByteArray) (i3 : List ByteArray) (i4 : List S27) (ih : Bool) : Option RdOut :=
 (json_Get.f k p1 p2 p3 p4 ⟨#[114, 101, 115, 117, 108, 116]⟩).bind fun x =>
  if (x.2.2.2.2 && ih) = true then some (rpc_Read.no 0 0 ⟨#[]⟩ [] []) else
  (json_Get.f k p1 p2 p3 p4 ⟨#[101, 114, 114, 111, 114]⟩).bind fun y =>
   if (y.2.2.2.2 && ih) = true then some (rpc_Read.no 0 0 ⟨#[]⟩ [] []) else some (rpc_Read.no (-32600) i1 i2 i3 i4)
def rpc_Read.method (k : Nat) (p1 : Int) (p2 : ByteArray) (p3 : List ByteArray) (p4 : List S27) (i1 : Int) (i2 : ByteArray) (i3 : List ByteArray) (i4 : List S27) (ih : Bool) : Option RdOut :=
 (json_Get.f k p1 p2 p3 p4 ⟨#[109, 101, 116, 104, 111, 100]⟩).bind fun m =>
  if m.2.2.2.2 = false then rpc_Read.replies k p1 p2 p3 p4 i1 i2 i3 i4 ih else
  if (m.1 != 4) = true then some (rpc_Read.no (-32600) i1 i2 i3 i4) else rpc_Read.params k p1 p2 p3 p4 i1 i2 i3 i4 ih m.2.1
def rpc_Read.odd (k : Nat) (p1 v1 : Int) (v2 : ByteArray) (v3 : List ByteArray) (v4 : List S27) (vh : Bool) : Option Bool :=
 if (p1 != 6) = true then some true else if vh = false then some true else
 (json_Text.f ⟨#[50, 46, 48]⟩).bind fun t => (eqT v1 v2 t.1 t.2.1).bind fun b => some (!b)
def rpc_Read.version (k : Nat) (p1 : Int) (p2 : ByteArray) (p3 : List ByteArray) (p4 : List S27) (i1 : Int) (i2 : ByteArray) (i3 : List ByteArray) (i4 : List S27) (ih : Bool) : Option RdOut :=
 (json_Get.f k p1 p2 p3 p4 ⟨#[106, 115, 111, 110, 114, 112, 99]⟩).bind fun v => (rpc_Read.odd k p1 v.1 v.2.1 v.2.2.1 v.2.2.2.1 v.2.2.2.2).bind fun o =>
  if o = true then some (rpc_Read.no (-32600) i1 i2 i3 i4) else rpc_Read.method k p1 p2 p3 p4 i1 i2 i3 i4 ih
def rpc_Read.f (k : Nat) (l0 : List Int) : Option RdOut :=
 (json_Parse.f k l0).bind fun p =>
  if (p.2.2.2.2.2 != 0) = true then some (rpc_Read.no (-32700) 0 ⟨#[]⟩ [] []) else
  (json_Get.f k p.1 p.2.1 p.2.2.1 p.2.2.2.1 ⟨#[105, 100]⟩).bind fun i =>
   (if i.2.2.2.2 = true then (rpc_isID.f i.1 i.2.1 i.2.2.1 i.2.2.2.1).bind fun b => some (!b) else some false).bind fun bad =>
    if bad = true then some (rpc_Read.no (-32600) 0 ⟨#[]⟩ [] []) else rpc_Read.version k p.1 p.2.1 p.2.2.1 p.2.2.2.1 i.1 i.2.1 i.2.2.1 i.2.2.2.1 i.2.2.2.2
def RdPost (w : World) (r : RdOut) (e : Ending) (w' : World) : Prop :=
 ∃ v3 v4 v8 v9 v13 v14 : Value, e = .returned (.tuple #[.agg #[.bool r.1, .int .i64 r.2.1, .string r.2.2.1, v3, v4, .string r.2.2.2.2.2.1, .int .i64 r.2.2.2.2.2.2.1, .string r.2.2.2.2.2.2.2.1, v8, v9], .agg #[.int .i64 r.2.2.2.2.2.2.2.2.2.2.1, .int .i64 r.2.2.2.2.2.2.2.2.2.2.2.1, .string r.2.2.2.2.2.2.2.2.2.2.2.2.1, v13, v14], .bool r.2.2.2.2.2.2.2.2.2.2.2.2.2.2.2]) ∧
  Kd.V Kd.string 9 w' 0 (fun _ => True) v3 r.2.2.2.1 ∧ Kd.V k27 27 w' 0 (fun _ => True) v4 r.2.2.2.2.1 ∧ Kd.V Kd.string 9 w' 0 (fun _ => True) v8 r.2.2.2.2.2.2.2.2.1 ∧ Kd.V k27 27 w' 0 (fun _ => True) v9 r.2.2.2.2.2.2.2.2.2.1 ∧ Kd.V Kd.string 9 w' 0 (fun _ => True) v13 r.2.2.2.2.2.2.2.2.2.2.2.2.2.1 ∧ Kd.V k27 27 w' 0 (fun _ => True) v14 r.2.2.2.2.2.2.2.2.2.2.2.2.2.2.1 ∧ Below w.heap.size w w'
theorem blk4 {W : World} {g t : Nat} {a b c d : Value} (h : (uBlk g [a, b, c, d] t).p W) : W.cell? ⟨g, 0, none⟩ = some a ∧ W.cell? ⟨g, 1, none⟩ = some b ∧ W.cell? ⟨g, 2, none⟩ = some c ∧ W.cell? ⟨g, 3, none⟩ = some d := ⟨Ctx.blk h 0 rfl, Ctx.blk h 1 rfl, Ctx.blk h 2 rfl, Ctx.blk h 3 rfl⟩
theorem blk5 {W : World} {g t : Nat} {a b c d e : Value} (h : (uBlk g [a, b, c, d, e] t).p W) : W.cell? ⟨g, 0, none⟩ = some a ∧ W.cell? ⟨g, 1, none⟩ = some b ∧ W.cell? ⟨g, 2, none⟩ = some c ∧ W.cell? ⟨g, 3, none⟩ = some d ∧ W.cell? ⟨g, 4, none⟩ = some e := ⟨Ctx.blk h 0 rfl, Ctx.blk h 1 rfl, Ctx.blk h 2 rfl, Ctx.blk h 3 rfl, Ctx.blk h 4 rfl⟩
theorem blk10 {W : World} {g t : Nat} {a b c d e f i j k l : Value} (h : (uBlk g [a, b, c, d, e, f, i, j, k, l] t).p W) : W.cell? ⟨g, 0, none⟩ = some a ∧ W.cell? ⟨g, 1, none⟩ = some b ∧ W.cell? ⟨g, 2, none⟩ = some c ∧ W.cell? ⟨g, 3, none⟩ = some d ∧ W.cell? ⟨g, 4, none⟩ = some e ∧ W.cell? ⟨g, 5, none⟩ = some f ∧ W.cell? ⟨g, 6, none⟩ = some i ∧ W.cell? ⟨g, 7, none⟩ = some j ∧ W.cell? ⟨g, 8, none⟩ = some k ∧ W.cell? ⟨g, 9, none⟩ = some l := ⟨Ctx.blk h 0 rfl, Ctx.blk h 1 rfl, Ctx.blk h 2 rfl, Ctx.blk h 3 rfl, Ctx.blk h 4 rfl, Ctx.blk h 5 rfl, Ctx.blk h 6 rfl, Ctx.blk h 7 rfl, Ctx.blk h 8 rfl, Ctx.blk h 9 rfl⟩
abbrev rdW (w W : World) (a b c d e f i j k l m n o p q : Value) : World :=
 (((((((((((((((W.setCell ⟨w.heap.size, 0, none⟩ a).setCell ⟨w.heap.size, 1, none⟩ b).setCell ⟨w.heap.size, 2, none⟩ c).setCell ⟨w.heap.size, 3, none⟩ d).setCell ⟨w.heap.size, 4, none⟩ e).setCell ⟨w.heap.size, 5, none⟩ f).setCell ⟨w.heap.size, 6, none⟩ i).setCell ⟨w.heap.size, 7, none⟩ j).setCell ⟨w.heap.size, 8, none⟩ k).setCell ⟨w.heap.size, 9, none⟩ l).setCell ⟨w.heap.size + 1, 0, none⟩ m).setCell ⟨w.heap.size + 1, 1, none⟩ n).setCell ⟨w.heap.size + 1, 2, none⟩ o).setCell ⟨w.heap.size + 1, 3, none⟩ p).setCell ⟨w.heap.size + 1, 4, none⟩ q)
theorem rd_end {w W : World} {act : Act} {r : RdOut} {v3 v4 v8 v9 v13 v14 : Value}
  (h37 : (uBlk w.heap.size [.bool false, .int .i64 0, .string ⟨#[]⟩, .slice none 0 0, .slice none 0 0, .string ⟨#[]⟩, .int .i64 0, .string ⟨#[]⟩, .slice none 0 0, .slice none 0 0] 37).p W) (h39 : (uBlk (w.heap.size + 1) [.int .i64 0, .int .i64 0, .string ⟨#[]⟩, .slice none 0 0, .slice none 0 0] 39).p W) (hb : (uB w).p W)
  (h3 : (uV Kd.string 9 (w.heap.size + 2) v3 r.2.2.2.1).p W) (h4 : (uV k27 27 (w.heap.size + 2) v4 r.2.2.2.2.1).p W) (h8 : (uV Kd.string 9 (w.heap.size + 2) v8 r.2.2.2.2.2.2.2.2.1).p W) (h9 : (uV k27 27 (w.heap.size + 2) v9 r.2.2.2.2.2.2.2.2.2.1).p W)
  (h13 : (uV Kd.string 9 (w.heap.size + 2) v13 r.2.2.2.2.2.2.2.2.2.2.2.2.2.1).p W) (h14 : (uV k27 27 (w.heap.size + 2) v14 r.2.2.2.2.2.2.2.2.2.2.2.2.2.2.1).p W) (hd : act.defers = [])
  (t2 : act.tmps.getD 2 undef = .pointer (some ⟨w.heap.size, 0, none⟩)) (t3 : act.tmps.getD 3 undef = .pointer (some ⟨w.heap.size + 1, 0, none⟩)) (t4 : act.tmps.getD 4 undef = .bool r.2.2.2.2.2.2.2.2.2.2.2.2.2.2.2) :
  bodyPost Tryd.prog Tryd.f15 (RdPost w r) .ret act (rdW w W (.bool r.1) (.int .i64 r.2.1) (.string r.2.2.1) v3 v4 (.string r.2.2.2.2.2.1) (.int .i64 r.2.2.2.2.2.2.1) (.string r.2.2.2.2.2.2.2.1) v8 v9 (.int .i64 r.2.2.2.2.2.2.2.2.2.2.1) (.int .i64 r.2.2.2.2.2.2.2.2.2.2.2.1) (.string r.2.2.2.2.2.2.2.2.2.2.2.2.1) v13 v14) := by
 obtain ⟨r1, r2, r3, r4, r5, r6, r7, r8, r9, r10, r11, r12, r13, r14, r15, r16⟩ := r;have hb : Below w.heap.size w W := hb
 have n1 : w.heap.size ≠ w.heap.size + 1 := by omega
 have n2 : w.heap.size + 1 ≠ w.heap.size := by omega
 have e37 := (Ctx.far (Ctx.far (Ctx.far (Ctx.far (Ctx.far (Ctx.put (Ctx.put (Ctx.put (Ctx.put (Ctx.put (Ctx.put (Ctx.put (Ctx.put (Ctx.put (Ctx.put h37 0 (.bool r1)) 1 (.int .i64 r2)) 2 (.string r3)) 3 (v3)) 4 (v4)) 5 (.string r6)) 6 (.int .i64 r7)) 7 (.string r8)) 8 (v8)) 9 (v9)) 0 (.int .i64 r11) n1) 1 (.int .i64 r12) n1) 2 (.string r13) n1) 3 (v13) n1) 4 (v14) n1)
 have e39 := (Ctx.put (Ctx.put (Ctx.put (Ctx.put (Ctx.put (Ctx.far (Ctx.far (Ctx.far (Ctx.far (Ctx.far (Ctx.far (Ctx.far (Ctx.far (Ctx.far (Ctx.far h39 0 (.bool r1) n2) 1 (.int .i64 r2) n2) 2 (.string r3) n2) 3 (v3) n2) 4 (v4) n2) 5 (.string r6) n2) 6 (.int .i64 r7) n2) 7 (.string r8) n2) 8 (v8) n2) 9 (v9) n2) 0 (.int .i64 r11)) 1 (.int .i64 r12)) 2 (.string r13)) 3 (v13)) 4 (v14))
 replace h3 := (vfar (g := w.heap.size + 1) (i := 4) (vfar (g := w.heap.size + 1) (i := 3) (vfar (g := w.heap.size + 1) (i := 2) (vfar (g := w.heap.size + 1) (i := 1) (vfar (g := w.heap.size + 1) (i := 0) (vfar (g := w.heap.size) (i := 9) (vfar (g := w.heap.size) (i := 8) (vfar (g := w.heap.size) (i := 7) (vfar (g := w.heap.size) (i := 6) (vfar (g := w.heap.size) (i := 5) (vfar (g := w.heap.size) (i := 4) (vfar (g := w.heap.size) (i := 3) (vfar (g := w.heap.size) (i := 2) (vfar (g := w.heap.size) (i := 1) (vfar (g := w.heap.size) (i := 0) h3 (.bool r1) (by omega)) (.int .i64 r2) (by omega)) (.string r3) (by omega)) (v3) (by omega)) (v4) (by omega)) (.string r6) (by omega)) (.int .i64 r7) (by omega)) (.string r8) (by omega)) (v8) (by omega)) (v9) (by omega)) (.int .i64 r11) (by omega)) (.int .i64 r12) (by omega)) (.string r13) (by omega)) (v13) (by omega)) (v14) (by omega))
 replace h4 := (vfar (g := w.heap.size + 1) (i := 4) (vfar (g := w.heap.size + 1) (i := 3) (vfar (g := w.heap.size + 1) (i := 2) (vfar (g := w.heap.size + 1) (i := 1) (vfar (g := w.heap.size + 1) (i := 0) (vfar (g := w.heap.size) (i := 9) (vfar (g := w.heap.size) (i := 8) (vfar (g := w.heap.size) (i := 7) (vfar (g := w.heap.size) (i := 6) (vfar (g := w.heap.size) (i := 5) (vfar (g := w.heap.size) (i := 4) (vfar (g := w.heap.size) (i := 3) (vfar (g := w.heap.size) (i := 2) (vfar (g := w.heap.size) (i := 1) (vfar (g := w.heap.size) (i := 0) h4 (.bool r1) (by omega)) (.int .i64 r2) (by omega)) (.string r3) (by omega)) (v3) (by omega)) (v4) (by omega)) (.string r6) (by omega)) (.int .i64 r7) (by omega)) (.string r8) (by omega)) (v8) (by omega)) (v9) (by omega)) (.int .i64 r11) (by omega)) (.int .i64 r12) (by omega)) (.string r13) (by omega)) (v13) (by omega)) (v14) (by omega))
 replace h8 := (vfar (g := w.heap.size + 1) (i := 4) (vfar (g := w.heap.size + 1) (i := 3) (vfar (g := w.heap.size + 1) (i := 2) (vfar (g := w.heap.size + 1) (i := 1) (vfar (g := w.heap.size + 1) (i := 0) (vfar (g := w.heap.size) (i := 9) (vfar (g := w.heap.size) (i := 8) (vfar (g := w.heap.size) (i := 7) (vfar (g := w.heap.size) (i := 6) (vfar (g := w.heap.size) (i := 5) (vfar (g := w.heap.size) (i := 4) (vfar (g := w.heap.size) (i := 3) (vfar (g := w.heap.size) (i := 2) (vfar (g := w.heap.size) (i := 1) (vfar (g := w.heap.size) (i := 0) h8 (.bool r1) (by omega)) (.int .i64 r2) (by omega)) (.string r3) (by omega)) (v3) (by omega)) (v4) (by omega)) (.string r6) (by omega)) (.int .i64 r7) (by omega)) (.string r8) (by omega)) (v8) (by omega)) (v9) (by omega)) (.int .i64 r11) (by omega)) (.int .i64 r12) (by omega)) (.string r13) (by omega)) (v13) (by omega)) (v14) (by omega))
 replace h9 := (vfar (g := w.heap.size + 1) (i := 4) (vfar (g := w.heap.size + 1) (i := 3) (vfar (g := w.heap.size + 1) (i := 2) (vfar (g := w.heap.size + 1) (i := 1) (vfar (g := w.heap.size + 1) (i := 0) (vfar (g := w.heap.size) (i := 9) (vfar (g := w.heap.size) (i := 8) (vfar (g := w.heap.size) (i := 7) (vfar (g := w.heap.size) (i := 6) (vfar (g := w.heap.size) (i := 5) (vfar (g := w.heap.size) (i := 4) (vfar (g := w.heap.size) (i := 3) (vfar (g := w.heap.size) (i := 2) (vfar (g := w.heap.size) (i := 1) (vfar (g := w.heap.size) (i := 0) h9 (.bool r1) (by omega)) (.int .i64 r2) (by omega)) (.string r3) (by omega)) (v3) (by omega)) (v4) (by omega)) (.string r6) (by omega)) (.int .i64 r7) (by omega)) (.string r8) (by omega)) (v8) (by omega)) (v9) (by omega)) (.int .i64 r11) (by omega)) (.int .i64 r12) (by omega)) (.string r13) (by omega)) (v13) (by omega)) (v14) (by omega))
 replace h13 := (vfar (g := w.heap.size + 1) (i := 4) (vfar (g := w.heap.size + 1) (i := 3) (vfar (g := w.heap.size + 1) (i := 2) (vfar (g := w.heap.size + 1) (i := 1) (vfar (g := w.heap.size + 1) (i := 0) (vfar (g := w.heap.size) (i := 9) (vfar (g := w.heap.size) (i := 8) (vfar (g := w.heap.size) (i := 7) (vfar (g := w.heap.size) (i := 6) (vfar (g := w.heap.size) (i := 5) (vfar (g := w.heap.size) (i := 4) (vfar (g := w.heap.size) (i := 3) (vfar (g := w.heap.size) (i := 2) (vfar (g := w.heap.size) (i := 1) (vfar (g := w.heap.size) (i := 0) h13 (.bool r1) (by omega)) (.int .i64 r2) (by omega)) (.string r3) (by omega)) (v3) (by omega)) (v4) (by omega)) (.string r6) (by omega)) (.int .i64 r7) (by omega)) (.string r8) (by omega)) (v8) (by omega)) (v9) (by omega)) (.int .i64 r11) (by omega)) (.int .i64 r12) (by omega)) (.string r13) (by omega)) (v13) (by omega)) (v14) (by omega))
 replace h14 := (vfar (g := w.heap.size + 1) (i := 4) (vfar (g := w.heap.size + 1) (i := 3) (vfar (g := w.heap.size + 1) (i := 2) (vfar (g := w.heap.size + 1) (i := 1) (vfar (g := w.heap.size + 1) (i := 0) (vfar (g := w.heap.size) (i := 9) (vfar (g := w.heap.size) (i := 8) (vfar (g := w.heap.size) (i := 7) (vfar (g := w.heap.size) (i := 6) (vfar (g := w.heap.size) (i := 5) (vfar (g := w.heap.size) (i := 4) (vfar (g := w.heap.size) (i := 3) (vfar (g := w.heap.size) (i := 2) (vfar (g := w.heap.size) (i := 1) (vfar (g := w.heap.size) (i := 0) h14 (.bool r1) (by omega)) (.int .i64 r2) (by omega)) (.string r3) (by omega)) (v3) (by omega)) (v4) (by omega)) (.string r6) (by omega)) (.int .i64 r7) (by omega)) (.string r8) (by omega)) (v8) (by omega)) (v9) (by omega)) (.int .i64 r11) (by omega)) (.int .i64 r12) (by omega)) (.string r13) (by omega)) (v13) (by omega)) (v14) (by omega))
 refine absB _ (Ctx.cons (uBlk w.heap.size [.bool r1, .int .i64 r2, .string r3, v3, v4, .string r6, .int .i64 r7, .string r8, v8, v9] 37) e37 (Ctx.cons (uBlk (w.heap.size + 1) [.int .i64 r11, .int .i64 r12, .string r13, v13, v14] 39) e39 (Ctx.cons (uB w) (show Below w.heap.size w _ by repeat (first | (with_reducible exact hb) | refine bstq ?_ (by simp))) (Ctx.cons _ h3 (Ctx.cons _ h4 (Ctx.cons _ h8 (Ctx.cons _ h9 (Ctx.cons _ h13 (Ctx.cons _ h14 Ctx.nil))))))))) ?_;clear e37 e39 hb h37 h39;intro wz HZ;obtain ⟨tmps, defers⟩ := act;obtain rfl : defers = [] := hd;refine bodyPost_ret (v := .tuple #[.agg #[.bool r1, .int .i64 r2, .string r3, v3, v4, .string r6, .int .i64 r7, .string r8, v8, v9], .agg #[.int .i64 r11, .int .i64 r12, .string r13, v13, v14], .bool r16]) ?_ rfl ⟨v3, v4, v8, v9, v13, v14, rfl, vT HZ.2.2.2.1, vT HZ.2.2.2.2.1, vT HZ.2.2.2.2.2.1, vT HZ.2.2.2.2.2.2.1, vT HZ.2.2.2.2.2.2.2.1, vT HZ.2.2.2.2.2.2.2.2.1, HZ.2.2.1⟩;exact results_cct (P := Tryd.prog) (fn := Tryd.f15) Tryd.results15 _ _ w.heap.size (w.heap.size + 1) 37 39 _ _ (0, 0) (0, 0) _ _ _ t2 HZ.1 Tryd.underlying37 rfl (by kernel_rfl) t3 HZ.2.1 Tryd.underlying39 rfl (by kernel_rfl) t4
theorem vnil {α : Type} {d : Kd α} {e base : Nat} {W : World} : (uV d e base (.slice none 0 0) ([] : List α)).p W := Kd.V_nil d e W base _
set_option maxHeartbeats 1600000 in
set_option maxRecDepth 100000 in
theorem rpc_Read.calls0 (k : Nat) (A : Option Addr) (c : Nat) (l0 : List Int) (r : RdOut) (w : World) (hr : Kd.C (Kd.int .u8) w A l0.length l0) (hc : l0.length ≤ c) (h : rpc_Read.f k l0 = some r) (hT : TabOk w) :
  Calls Tryd.prog 15 #[.slice A l0.length c] w (RdPost w r) := by
 have HH := Sdq.mk h;clear h;have HK0 := Sdq.mk (Ctx.new (cs := [.int .i64 0, .int .i64 0, .string ⟨#[]⟩, .slice none 0 0, .slice none 0 0]) (t := 39) (Ctx.new (cs := [.bool false, .int .i64 0, .string ⟨#[]⟩, .slice none 0 0, .slice none 0 0, .string ⟨#[]⟩, .int .i64 0, .string ⟨#[]⟩, .slice none 0 0, .slice none 0 0]) (t := 37) (show Ctx [uTab, uB w] w from ⟨hT, Below.refl _ _, trivial⟩)));simp only [World.size_alloc] at HK0;clear hT;obtain ⟨⟨p1, p2, p3, p4, p5, p6⟩, hp, h1⟩ := Option.bind_eq_some_iff.mp HH.out;clear HH;have HH := Sdq.mk h1;clear h1;have HP := Sdq.mk hp;clear hp;go_enter Tryd.func15, Tryd.ntmps15
 focus go_wp2_with fail
 refine (json_Parse.calls k _ _ l0 p1 p2 p3 p4 p5 p6 _ (Kd.C_alloc (Kd.C_alloc hr _) _) hc HP.out).mono ?_;rintro e1 w1 ⟨v2, v3, rfl, h2, h3, hB1⟩;obtain ⟨A2, c2, rfl⟩ := Kd.R_slice h2;obtain ⟨A3, c3, rfl⟩ := Kd.R_slice h3;have HK1 := Sdq.mk (Ctx.cons (uV k27 27 (w.heap.size + 2) _ _) (vR h3 (by simp)) (Ctx.cons (uV Kd.string 9 (w.heap.size + 2) _ _) (vR h2 (by simp)) (HK0.out.below hB1)));clear HK0 hB1;clear h2 h3 hr HP;by_cases q1 : (p6 != 0) = true
 ·have h1 := HH.out
  clear HH;rw [show (((p1, p2, p3, p4, p5, p6) : Int × ByteArray × List ByteArray × List S27 × Int × Int).2.2.2.2.2 != 0) = true from q1, if_pos rfl] at h1;have HH := Sdq.mk h1;clear h1
  go_upto_region 3 with fail
  refine absW _ (Ctx.new (cs := [.int .i64 p1, .string p2, .slice A2 p3.length c2, .slice A3 p4.length c3]) (t := 27) (HK1.out)) ?_;clear HK1;intro w2 hk0;have HK2 := Sdq.mk hk0;clear hk0;obtain ⟨cb390, cb391, cb392, cb393, cb394⟩ := blk5 HK2.out.2.2.2.1;have fb39 := Ctx.frz HK2.out.2.2.2.1;obtain ⟨cb370, cb371, cb372, cb373, cb374, cb375, cb376, cb377, cb378, cb379⟩ := blk10 HK2.out.2.2.2.2.1;have fb37 := Ctx.frz HK2.out.2.2.2.2.1;have nb39b37 := Ctx.ne HK2.out.2.2.2.1 HK2.out.2.2.2.2.1 (by decide)
  focus go_wp2_with fail
  have hz := Option.some.inj HH.out;subst hz;exact rd_end HK2.out.2.2.2.2.1 HK2.out.2.2.2.1 HK2.out.2.2.2.2.2.2.1 vnil vnil vnil vnil vnil vnil rfl rfl rfl rfl
 have h1 := HH.out;clear HH;rw [if_neg q1] at h1;replace h1 := Option.bind_eq_some_iff.mp h1;obtain ⟨⟨i1, i2, i3, i4, ih⟩, hi, h1⟩ := h1;have HH := Sdq.mk h1;clear h1;have HI := Sdq.mk hi;clear hi;replace q1 := Bool.eq_false_iff.mpr q1
 go_upto_region 4 with fail
 refine absW _ (Ctx.new (cs := [.int .i64 p1, .string p2, .slice A2 p3.length c2, .slice A3 p4.length c3]) (t := 27) (HK1.out)) ?_;clear HK1;intro w2 hk0;have HK2 := Sdq.mk hk0;clear hk0;obtain ⟨cg50, cg51, cg52, cg53⟩ := blk4 HK2.out.1
 focus go_wp2_with fail
 refine (json_Get.calls k p1 p2 A2 c2 p3 (fun k => w.heap.size + 2 ≤ k) A3 c3 p4 ⟨#[105, 100]⟩ i1 i2 i3 i4 ih _ (vC HK2.out.2.2.1) (vle HK2.out.2.2.1) HK2.out.2.1 HI.out).mono ?_;rintro e1 w3 ⟨v2, v3, rfl, h2, h3, hB⟩;obtain ⟨Aik, cik, rfl⟩ := Kd.V_slice h2;obtain ⟨Ail, cil, rfl⟩ := Kd.V_slice h3;clear cg50 cg51 cg52 cg53;have hsz : w.heap.size + 2 ≤ w2.heap.size := blk_lt HK2.out.2.2.2.1;have HK3 := Sdq.mk (Ctx.cons (uV k27 27 (w.heap.size + 2) _ _) (vV h3 hsz) (Ctx.cons (uV Kd.string 9 (w.heap.size + 2) _ _) (vV h2 hsz) (HK2.out.below hB)));clear HK2 hB;clear h2 h3 hsz HI
 go_upto_region 5 with fail
 refine absW _ (Ctx.new (cs := [.int .i64 i1, .string i2, .slice Aik i3.length cik, .slice Ail i4.length cil]) (t := 27) (HK3.out)) ?_;clear HK3;intro w4 hk0;have HK4 := Sdq.mk hk0;clear hk0
 rcases Bool.eq_false_or_eq_true ih with q2 | q2
 subst q2;have h1 := HH.out;clear HH;rw [if_pos rfl] at h1;replace h1 := Option.bind_eq_some_iff.mp h1;obtain ⟨bad, hb1, h1⟩ := h1;replace hb1 := Option.bind_eq_some_iff.mp hb1;obtain ⟨q, hq, hq2⟩ := hb1;replace hq2 := Option.some.inj hq2;subst hq2;have HH := Sdq.mk h1;have HI := Sdq.mk hq;clear h1 hq;obtain ⟨cg80, cg81, cg82, cg83⟩ := blk4 HK4.out.1
 focus go_wp2_with fail
 refine (rpc_isID.calls i1 i2 Aik cik i3 Ail cil i4 q _ (vC HK4.out.2.2.1) (vle HK4.out.2.2.1) (vC HK4.out.2.1) (vle HK4.out.2.1) HI.out HK4.out.2.2.2.2.2.2.2.2.1).mono ?_;rintro e1 w5 ⟨rfl, hB⟩;clear cg80 cg81 cg82 cg83;have HK5 := Sdq.mk (HK4.out.below hB);clear HK4 hB;clear HI
 rcases Bool.eq_false_or_eq_true q with q3 | q3
 rotate_left
 ·subst q3
  have h1 := HH.out;clear HH;rw [if_pos (by rfl)] at h1;have HH := Sdq.mk h1;clear h1
  focus go_upto_region 6 with fail
  refine absW _ (HK5.out) ?_;clear HK5;intro w6 hk0;have HK6 := Sdq.mk hk0;clear hk0;obtain ⟨cb390, cb391, cb392, cb393, cb394⟩ := blk5 HK6.out.2.2.2.2.2.2.1;have fb39 := Ctx.frz HK6.out.2.2.2.2.2.2.1;obtain ⟨cb370, cb371, cb372, cb373, cb374, cb375, cb376, cb377, cb378, cb379⟩ := blk10 HK6.out.2.2.2.2.2.2.2.1;have fb37 := Ctx.frz HK6.out.2.2.2.2.2.2.2.1;have nb39b37 := Ctx.ne HK6.out.2.2.2.2.2.2.1 HK6.out.2.2.2.2.2.2.2.1 (by decide)
  focus go_wp2_with fail
  have hz := Option.some.inj HH.out;subst hz;exact rd_end HK6.out.2.2.2.2.2.2.2.1 HK6.out.2.2.2.2.2.2.1 HK6.out.2.2.2.2.2.2.2.2.2.1 vnil vnil vnil vnil vnil vnil rfl rfl rfl rfl
 subst q2;have h1 := HH.out;clear HH;rw [if_neg (by decide)] at h1;replace h1 := Option.bind_eq_some_iff.mp h1;obtain ⟨bad, hb1, h1⟩ := h1;replace hb1 := Option.some.inj hb1;subst hb1;rw [if_neg (by decide)] at h1;have HH := Sdq.mk h1;clear h1
 focus go_upto_region 7 with fail
 refine absW _ (HK4.out) ?_;clear HK4;intro w6 hk0;have HK6 := Sdq.mk hk0;clear hk0
 rotate_left
 subst q3;have h1 := HH.out;clear HH;rw [if_neg (by decide)] at h1;have HH := Sdq.mk h1;clear h1
 focus go_upto_region 7 with fail
 refine absW _ (HK5.out) ?_;clear HK5;intro w6 hk0;have HK6 := Sdq.mk hk0;clear hk0
 all_goals
  obtain ⟨cg80, cg81, cg82, cg83⟩ := blk4 HK6.out.1
  go_upto_region 8 with fail
  clear cg80 cg81 cg82 cg83;refine absW _ (Ctx.new (cs := [.int .i64 (-32600), .int .i64 i1, .string i2, .slice Aik i3.length cik, .slice Ail i4.length cil]) (t := 39) (HK6.out)) ?_;clear HK6;intro w7 hk0;have HK7 := Sdq.mk hk0;clear hk0;obtain ⟨cg50, cg51, cg52, cg53⟩ := blk4 HK7.out.2.2.2.2.1;have h1 := HH.out;clear HH;unfold rpc_Read.version at h1;replace h1 := Option.bind_eq_some_iff.mp h1;obtain ⟨⟨u1, u2, u3, u4, uh⟩, hv, h1⟩ := h1;replace h1 := Option.bind_eq_some_iff.mp h1;obtain ⟨o, ho, h1⟩ := h1;have HH := Sdq.mk h1;have HI := Sdq.mk hv;have HO := Sdq.mk ho;clear h1 hv ho
  go_wp2_with fail
  refine (json_Get.calls k p1 p2 A2 c2 p3 (fun k => w.heap.size + 2 ≤ k) A3 c3 p4 ⟨#[106, 115, 111, 110, 114, 112, 99]⟩ u1 u2 u3 u4 uh _ (vC HK7.out.2.2.2.2.2.2.1) (vle HK7.out.2.2.2.2.2.2.1) HK7.out.2.2.2.2.2.1 HI.out).mono ?_;rintro e1 w8 ⟨v2, v3, rfl, h2, h3, hB⟩;obtain ⟨Auk, cuk, rfl⟩ := Kd.V_slice h2;obtain ⟨Aul, cul, rfl⟩ := Kd.V_slice h3;clear cg50 cg51 cg52 cg53;have hsz : w.heap.size + 2 ≤ w7.heap.size := blk_lt HK7.out.2.2.2.2.2.2.2.1;have HK8 := Sdq.mk (Ctx.cons (uV k27 27 (w.heap.size + 2) _ _) (vV h3 hsz) (Ctx.cons (uV Kd.string 9 (w.heap.size + 2) _ _) (vV h2 hsz) (HK7.out.below hB)));clear HK7 hB;clear h2 h3 hsz HI
  go_upto_region 9 with fail
  refine absW _ (Ctx.new (cs := [.int .i64 u1, .string u2, .slice Auk u3.length cuk, .slice Aul u4.length cul]) (t := 27) (HK8.out)) ?_;clear HK8;intro w9 hk0;have HK9 := Sdq.mk hk0;clear hk0;obtain ⟨cg50, cg51, cg52, cg53⟩ := blk4 HK9.out.2.2.2.2.2.2.2.1;obtain ⟨cg110, cg111, cg112, cg113⟩ := blk4 HK9.out.1;by_cases r1 : (p1 != 6) = true
  ·have h1 := HO.out
   unfold rpc_Read.odd at h1;rw [if_pos r1] at h1;replace h1 := Option.some.inj h1;subst h1;clear HO;have h1 := HH.out;rw [if_pos rfl] at h1;clear HH;have HH := Sdq.mk h1;clear h1
   go_quiet (fail)
   go_upto_region 10 with fail
   clear cg50 cg51 cg52 cg53 cg110 cg111 cg112 cg113;refine absW _ (HK9.out.drewN _) ?_;clear HK9;intro w10 hk0;have HK10 := Sdq.mk hk0;clear hk0;obtain ⟨cb390, cb391, cb392, cb393, cb394⟩ := blk5 HK10.out.2.2.2.2.2.2.2.2.2.2.1;have fb39 := Ctx.frz HK10.out.2.2.2.2.2.2.2.2.2.2.1;obtain ⟨cb370, cb371, cb372, cb373, cb374, cb375, cb376, cb377, cb378, cb379⟩ := blk10 HK10.out.2.2.2.2.2.2.2.2.2.2.2.1;have fb37 := Ctx.frz HK10.out.2.2.2.2.2.2.2.2.2.2.2.1;obtain ⟨cg100, cg101, cg102, cg103, cg104⟩ := blk5 HK10.out.2.2.2.1;have nb39b37 := Ctx.ne HK10.out.2.2.2.2.2.2.2.2.2.2.1 HK10.out.2.2.2.2.2.2.2.2.2.2.2.1 (by decide);have ng10b37 := Ctx.ne HK10.out.2.2.2.1 HK10.out.2.2.2.2.2.2.2.2.2.2.2.1 (by decide);have ng10b39 := Ctx.ne' HK10.out.2.2.2.1 HK10.out.2.2.2.2.2.2.2.2.2.2.1 (by simp)
   go_region
   go_wp2_with fail
   have hz := Option.some.inj HH.out;subst hz
   have hk := (Ctx.drew HK10.out)
   simp only [← World.setCell_drew];exact rd_end hk.2.2.2.2.2.2.2.2.2.2.2.1 hk.2.2.2.2.2.2.2.2.2.2.1 hk.2.2.2.2.2.2.2.2.2.2.2.2.2.1 vnil vnil vnil vnil hk.2.2.2.2.2.2.1 hk.2.2.2.2.2.1 rfl rfl rfl rfl
  replace r1 := Bool.eq_false_iff.mpr r1
  rcases Bool.eq_false_or_eq_true uh with r2 | r2
  rotate_left
  ·subst r2
   have h1 := HO.out;unfold rpc_Read.odd at h1;rw [if_neg (by rw [r1]; decide), if_pos rfl] at h1;replace h1 := Option.some.inj h1;subst h1;clear HO;have h1 := HH.out;rw [if_pos rfl] at h1;clear HH;have HH := Sdq.mk h1;clear h1
   go_quiet (fail)
   go_upto_region 10 with fail
   clear cg50 cg51 cg52 cg53 cg110 cg111 cg112 cg113;refine absW _ (HK9.out.drewN _) ?_;clear HK9;intro w10 hk0;have HK10 := Sdq.mk hk0;clear hk0;obtain ⟨cb390, cb391, cb392, cb393, cb394⟩ := blk5 HK10.out.2.2.2.2.2.2.2.2.2.2.1;have fb39 := Ctx.frz HK10.out.2.2.2.2.2.2.2.2.2.2.1;obtain ⟨cb370, cb371, cb372, cb373, cb374, cb375, cb376, cb377, cb378, cb379⟩ := blk10 HK10.out.2.2.2.2.2.2.2.2.2.2.2.1;have fb37 := Ctx.frz HK10.out.2.2.2.2.2.2.2.2.2.2.2.1;obtain ⟨cg100, cg101, cg102, cg103, cg104⟩ := blk5 HK10.out.2.2.2.1;have nb39b37 := Ctx.ne HK10.out.2.2.2.2.2.2.2.2.2.2.1 HK10.out.2.2.2.2.2.2.2.2.2.2.2.1 (by decide);have ng10b37 := Ctx.ne HK10.out.2.2.2.1 HK10.out.2.2.2.2.2.2.2.2.2.2.2.1 (by decide);have ng10b39 := Ctx.ne' HK10.out.2.2.2.1 HK10.out.2.2.2.2.2.2.2.2.2.2.1 (by simp)
   go_region
   go_wp2_with fail
   have hz := Option.some.inj HH.out;subst hz
   have hk := (Ctx.drew HK10.out)
   simp only [← World.setCell_drew];exact rd_end hk.2.2.2.2.2.2.2.2.2.2.2.1 hk.2.2.2.2.2.2.2.2.2.2.1 hk.2.2.2.2.2.2.2.2.2.2.2.2.2.1 vnil vnil vnil vnil hk.2.2.2.2.2.2.1 hk.2.2.2.2.2.1 rfl rfl rfl rfl
  subst r2;have h1 := HO.out;unfold rpc_Read.odd at h1;rw [if_neg (by rw [r1]; decide), if_neg (by decide)] at h1;replace h1 := Option.bind_eq_some_iff.mp h1;obtain ⟨⟨t1, t2, t3, t4⟩, ht, h1⟩ := h1;replace h1 := Option.bind_eq_some_iff.mp h1;obtain ⟨b, hb, h1⟩ := h1;replace h1 := Option.some.inj h1;subst h1;clear HO;have HT := Sdq.mk ht;have HE := Sdq.mk hb;clear ht hb;clear cg50 cg51 cg52 cg53 cg110 cg111 cg112 cg113;have hS := Sdq.mk (show ∀ W, Below w9.heap.size w9 W → (W.cell? ⟨w1.heap.size, 0, none⟩ = some (.int .i64 p1) ∧ W.cell? ⟨w8.heap.size, 0, none⟩ = some (.int .i64 u1) ∧ W.cell? ⟨w8.heap.size, 1, none⟩ = some (.string u2) ∧ W.cell? ⟨w8.heap.size, 2, none⟩ = some (.slice Auk u3.length cuk) ∧ W.cell? ⟨w8.heap.size, 3, none⟩ = some (.slice Aul u4.length cul) ∧ Below w9.heap.size w9 W) from fun W h => ⟨Ctx.blk ((uBlk _ _ _).up _ _ HK9.out.2.2.2.2.2.2.2.1 h) 0 rfl, Ctx.blk ((uBlk _ _ _).up _ _ HK9.out.1 h) 0 rfl, Ctx.blk ((uBlk _ _ _).up _ _ HK9.out.1 h) 1 rfl, Ctx.blk ((uBlk _ _ _).up _ _ HK9.out.1 h) 2 rfl, Ctx.blk ((uBlk _ _ _).up _ _ HK9.out.1 h) 3 rfl, h⟩)
  go_region_held3 (fun W => W.cell? ⟨w1.heap.size, 0, none⟩ = some (.int .i64 p1) ∧ W.cell? ⟨w8.heap.size, 0, none⟩ = some (.int .i64 u1) ∧ W.cell? ⟨w8.heap.size, 1, none⟩ = some (.string u2) ∧ W.cell? ⟨w8.heap.size, 2, none⟩ = some (.slice Auk u3.length cuk) ∧ W.cell? ⟨w8.heap.size, 3, none⟩ = some (.slice Aul u4.length cul) ∧ Below w9.heap.size w9 W) (exact hS.out _ (by first | exact below_drew (Below.refl _ _) | assumption)) (first
   | (go_at_call 13; refine (json_Text.calls ⟨#[50, 46, 48]⟩ t1 t2 t3 t4 _ HT.out).mono ?_; rintro e W9 ⟨v2, v3, rfl, h2, h3, hB⟩; have hB9 := below_step (show Below w9.heap.size w9 _ from (by first | exact below_drew (Below.refl _ _) | assumption)) hB; obtain ⟨At, ct, rfl⟩ := Kd.R_slice h2; obtain ⟨As, cs, rfl⟩ := Kd.R_slice h3; have H2 := Sdq.mk h2; have H3 := Sdq.mk h3; clear h2 h3 hB)
   | (go_at_call 12; refine (eqT_calls u1 u2 (.slice Auk u3.length cuk) (.slice Aul u4.length cul) t1 t2 (.slice At t3.length ct) (.slice As t4.length cs) b _ HE.out).mono ?_; rintro e W10 ⟨rfl, hB⟩; have hB11 := below_step hB9 hB; clear hB))
  rcases Bool.eq_false_or_eq_true b with r3 | r3
  rotate_left
  ·subst r3
   have h1 := HH.out;rw [if_pos (by rfl)] at h1;clear HH;have HH := Sdq.mk h1;clear h1 HT HE hS
   go_upto_region 10 with fail
   refine absW _ (HK9.out.below hB11) ?_;clear HK9;intro w10 hk0;have HK10 := Sdq.mk hk0;clear hk0;obtain ⟨cb390, cb391, cb392, cb393, cb394⟩ := blk5 HK10.out.2.2.2.2.2.2.2.2.2.2.1;have fb39 := Ctx.frz HK10.out.2.2.2.2.2.2.2.2.2.2.1;obtain ⟨cb370, cb371, cb372, cb373, cb374, cb375, cb376, cb377, cb378, cb379⟩ := blk10 HK10.out.2.2.2.2.2.2.2.2.2.2.2.1;have fb37 := Ctx.frz HK10.out.2.2.2.2.2.2.2.2.2.2.2.1;obtain ⟨cg100, cg101, cg102, cg103, cg104⟩ := blk5 HK10.out.2.2.2.1;have nb39b37 := Ctx.ne HK10.out.2.2.2.2.2.2.2.2.2.2.1 HK10.out.2.2.2.2.2.2.2.2.2.2.2.1 (by decide);have ng10b37 := Ctx.ne HK10.out.2.2.2.1 HK10.out.2.2.2.2.2.2.2.2.2.2.2.1 (by decide);have ng10b39 := Ctx.ne' HK10.out.2.2.2.1 HK10.out.2.2.2.2.2.2.2.2.2.2.1 (by simp)
   go_region
   go_wp2_with fail
   have hz := Option.some.inj HH.out;subst hz
   have hk := (Ctx.drew HK10.out)
   simp only [← World.setCell_drew];exact rd_end hk.2.2.2.2.2.2.2.2.2.2.2.1 hk.2.2.2.2.2.2.2.2.2.2.1 hk.2.2.2.2.2.2.2.2.2.2.2.2.2.1 vnil vnil vnil vnil hk.2.2.2.2.2.2.1 hk.2.2.2.2.2.1 rfl rfl rfl rfl
  subst r3;have h1 := HH.out;rw [if_neg (by decide)] at h1;clear HH;unfold rpc_Read.method at h1;replace h1 := Option.bind_eq_some_iff.mp h1;obtain ⟨⟨m1, m2, m3, m4, mh⟩, hm, h1⟩ := h1;have HH := Sdq.mk h1;have HI := Sdq.mk hm;clear h1 hm HT HE hS
  go_upto_region 11 with fail
  refine absW _ (HK9.out.below hB11) ?_;clear HK9;intro w10 hk0;have HK10 := Sdq.mk hk0;clear hk0;clear hB9 hB11;obtain ⟨cg50, cg51, cg52, cg53⟩ := blk4 HK10.out.2.2.2.2.2.2.2.1
  go_wp2_with fail
  refine (json_Get.calls k p1 p2 A2 c2 p3 (fun k => w.heap.size + 2 ≤ k) A3 c3 p4 ⟨#[109, 101, 116, 104, 111, 100]⟩ m1 m2 m3 m4 mh _ (vC HK10.out.2.2.2.2.2.2.2.2.2.1) (vle HK10.out.2.2.2.2.2.2.2.2.2.1) HK10.out.2.2.2.2.2.2.2.2.1 HI.out).mono ?_;rintro e1 w11 ⟨v2, v3, rfl, h2, h3, hB⟩;obtain ⟨Amk, cmk, rfl⟩ := Kd.V_slice h2;obtain ⟨Aml, cml, rfl⟩ := Kd.V_slice h3;clear cg50 cg51 cg52 cg53;have hsz : w.heap.size + 2 ≤ w10.heap.size := blk_lt HK10.out.2.2.2.2.2.2.2.2.2.2.1;have HK11 := Sdq.mk (Ctx.cons (uV k27 27 (w.heap.size + 2) _ _) (vV h3 hsz) (Ctx.cons (uV Kd.string 9 (w.heap.size + 2) _ _) (vV h2 hsz) (HK10.out.below hB)));clear HK10 hB;clear h2 h3 hsz HI
  go_upto_region 12 with fail
  refine absW _ (Ctx.new (cs := [.int .i64 m1, .string m2, .slice Amk m3.length cmk, .slice Aml m4.length cml]) (t := 27) (HK11.out)) ?_;clear HK11;intro w12 hk0;have HK12 := Sdq.mk hk0;clear hk0
  rcases Bool.eq_false_or_eq_true mh with r4 | r4
  rotate_left
  ·subst r4
   have h1 := HH.out;rw [if_pos rfl] at h1;clear HH;have HH := Sdq.mk h1;clear h1
   first
    | (
     have h1 : rpc_Read.replies k p1 p2 p3 p4 i1 i2 i3 i4 true = some r := HH.out;clear HH;unfold rpc_Read.replies at h1;replace h1 := Option.bind_eq_some_iff.mp h1;obtain ⟨⟨x1, x2, x3, x4, xh⟩, hx, h1⟩ := h1;have HH := Sdq.mk h1;have HI := Sdq.mk hx;clear h1 hx;obtain ⟨cg50, cg51, cg52, cg53⟩ := blk4 HK12.out.2.2.2.2.2.2.2.2.2.2.1
     go_wp2_with fail
     refine (json_Get.calls k p1 p2 A2 c2 p3 (fun k => w.heap.size + 2 ≤ k) A3 c3 p4 ⟨#[114, 101, 115, 117, 108, 116]⟩ x1 x2 x3 x4 xh _ (vC HK12.out.2.2.2.2.2.2.2.2.2.2.2.2.1) (vle HK12.out.2.2.2.2.2.2.2.2.2.2.2.2.1) HK12.out.2.2.2.2.2.2.2.2.2.2.2.1 HI.out).mono ?_;rintro e1 w13 ⟨v2, v3, rfl, h2, h3, hB⟩;obtain ⟨Axk, cxk, rfl⟩ := Kd.V_slice h2;obtain ⟨Axl, cxl, rfl⟩ := Kd.V_slice h3;clear cg50 cg51 cg52 cg53;have hsz : w.heap.size + 2 ≤ w12.heap.size := blk_lt HK12.out.2.2.2.2.2.2.2.2.2.2.2.2.2.1;have HK13 := Sdq.mk (Ctx.cons (uV k27 27 (w.heap.size + 2) _ _) (vV h3 hsz) (Ctx.cons (uV Kd.string 9 (w.heap.size + 2) _ _) (vV h2 hsz) (HK12.out.below hB)));clear HK12 hB;clear h2 h3 hsz HI
     go_upto_region 14 with fail
     refine absW _ (Ctx.new (cs := [.int .i64 x1, .string x2, .slice Axk x3.length cxk, .slice Axl x4.length cxl]) (t := 27) (HK13.out)) ?_;clear HK13;intro w14 hk0;have HK14 := Sdq.mk hk0;clear hk0;cases xh
     ·have h1 := HH.out
      rw [if_neg (by decide)] at h1;clear HH;replace h1 := Option.bind_eq_some_iff.mp h1;obtain ⟨⟨y1, y2, y3, y4, yh⟩, hy, h1⟩ := h1;have HH := Sdq.mk h1;have HI := Sdq.mk hy;clear h1 hy
      go_upto_region 16 with fail
      refine absW _ (HK14.out) ?_;clear HK14;intro w15 hk0;have HK15 := Sdq.mk hk0;clear hk0;obtain ⟨cg50, cg51, cg52, cg53⟩ := blk4 HK15.out.2.2.2.2.2.2.2.2.2.2.2.2.2.1
      go_wp2_with fail
      refine (json_Get.calls k p1 p2 A2 c2 p3 (fun k => w.heap.size + 2 ≤ k) A3 c3 p4 ⟨#[101, 114, 114, 111, 114]⟩ y1 y2 y3 y4 yh _ (vC HK15.out.2.2.2.2.2.2.2.2.2.2.2.2.2.2.2.1) (vle HK15.out.2.2.2.2.2.2.2.2.2.2.2.2.2.2.2.1) HK15.out.2.2.2.2.2.2.2.2.2.2.2.2.2.2.1 HI.out).mono ?_;rintro e1 w16 ⟨v2, v3, rfl, h2, h3, hB⟩;obtain ⟨Ayk, cyk, rfl⟩ := Kd.V_slice h2;obtain ⟨Ayl, cyl, rfl⟩ := Kd.V_slice h3;clear cg50 cg51 cg52 cg53;have hsz : w.heap.size + 2 ≤ w15.heap.size := blk_lt HK15.out.2.2.2.2.2.2.2.2.2.2.2.2.2.2.2.2.1;have HK16 := Sdq.mk (Ctx.cons (uV k27 27 (w.heap.size + 2) _ _) (vV h3 hsz) (Ctx.cons (uV Kd.string 9 (w.heap.size + 2) _ _) (vV h2 hsz) (HK15.out.below hB)));clear HK15 hB;clear h2 h3 hsz HI
      go_upto_region 17 with fail
      refine absW _ (Ctx.new (cs := [.int .i64 y1, .string y2, .slice Ayk y3.length cyk, .slice Ayl y4.length cyl]) (t := 27) (HK16.out)) ?_;clear HK16;intro w17 hk0;have HK17 := Sdq.mk hk0;clear hk0;cases yh
      ·have h1 := HH.out
       rw [if_neg (by decide)] at h1;clear HH;have HH := Sdq.mk h1;clear h1
       go_upto_region 19 with fail
       refine absW _ (HK17.out) ?_;clear HK17;intro w18 hk0;have HK18 := Sdq.mk hk0;clear hk0;obtain ⟨cb390, cb391, cb392, cb393, cb394⟩ := blk5 HK18.out.2.2.2.2.2.2.2.2.2.2.2.2.2.2.2.2.2.2.2.1;have fb39 := Ctx.frz HK18.out.2.2.2.2.2.2.2.2.2.2.2.2.2.2.2.2.2.2.2.1;obtain ⟨cb370, cb371, cb372, cb373, cb374, cb375, cb376, cb377, cb378, cb379⟩ := blk10 HK18.out.2.2.2.2.2.2.2.2.2.2.2.2.2.2.2.2.2.2.2.2.1;have fb37 := Ctx.frz HK18.out.2.2.2.2.2.2.2.2.2.2.2.2.2.2.2.2.2.2.2.2.1;obtain ⟨cg100, cg101, cg102, cg103, cg104⟩ := blk5 HK18.out.2.2.2.2.2.2.2.2.2.2.2.2.1;have nb39b37 := Ctx.ne HK18.out.2.2.2.2.2.2.2.2.2.2.2.2.2.2.2.2.2.2.2.1 HK18.out.2.2.2.2.2.2.2.2.2.2.2.2.2.2.2.2.2.2.2.2.1 (by decide);have ng10b37 := Ctx.ne HK18.out.2.2.2.2.2.2.2.2.2.2.2.2.1 HK18.out.2.2.2.2.2.2.2.2.2.2.2.2.2.2.2.2.2.2.2.2.1 (by decide);have ng10b39 := Ctx.ne' HK18.out.2.2.2.2.2.2.2.2.2.2.2.2.1 HK18.out.2.2.2.2.2.2.2.2.2.2.2.2.2.2.2.2.2.2.2.1 (by simp)
       go_region
       go_wp2_with fail
       have hz := Option.some.inj HH.out;subst hz
       have hk := (Ctx.drew HK18.out)
       simp only [← World.setCell_drew];exact rd_end hk.2.2.2.2.2.2.2.2.2.2.2.2.2.2.2.2.2.2.2.2.1 hk.2.2.2.2.2.2.2.2.2.2.2.2.2.2.2.2.2.2.2.1 hk.2.2.2.2.2.2.2.2.2.2.2.2.2.2.2.2.2.2.2.2.2.2.1 vnil vnil vnil vnil hk.2.2.2.2.2.2.2.2.2.2.2.2.2.2.2.1 hk.2.2.2.2.2.2.2.2.2.2.2.2.2.2.1 rfl rfl rfl rfl
      ·have h1 := HH.out
       rw [if_pos (by decide)] at h1;clear HH;have HH := Sdq.mk h1;clear h1
       go_upto_region 18 with fail
       refine absW _ (HK17.out) ?_;clear HK17;intro w18 hk0;have HK18 := Sdq.mk hk0;clear hk0;obtain ⟨cb390, cb391, cb392, cb393, cb394⟩ := blk5 HK18.out.2.2.2.2.2.2.2.2.2.2.2.2.2.2.2.2.2.2.2.1;have fb39 := Ctx.frz HK18.out.2.2.2.2.2.2.2.2.2.2.2.2.2.2.2.2.2.2.2.1;obtain ⟨cb370, cb371, cb372, cb373, cb374, cb375, cb376, cb377, cb378, cb379⟩ := blk10 HK18.out.2.2.2.2.2.2.2.2.2.2.2.2.2.2.2.2.2.2.2.2.1;have fb37 := Ctx.frz HK18.out.2.2.2.2.2.2.2.2.2.2.2.2.2.2.2.2.2.2.2.2.1;have nb39b37 := Ctx.ne HK18.out.2.2.2.2.2.2.2.2.2.2.2.2.2.2.2.2.2.2.2.1 HK18.out.2.2.2.2.2.2.2.2.2.2.2.2.2.2.2.2.2.2.2.2.1 (by decide)
       go_wp2_with fail
       have hz := Option.some.inj HH.out;subst hz;exact rd_end HK18.out.2.2.2.2.2.2.2.2.2.2.2.2.2.2.2.2.2.2.2.2.1 HK18.out.2.2.2.2.2.2.2.2.2.2.2.2.2.2.2.2.2.2.2.1 HK18.out.2.2.2.2.2.2.2.2.2.2.2.2.2.2.2.2.2.2.2.2.2.2.1 vnil vnil vnil vnil vnil vnil rfl rfl rfl rfl
     ·have h1 := HH.out
      rw [if_pos (by decide)] at h1;clear HH;have HH := Sdq.mk h1;clear h1
      go_upto_region 15 with fail
      refine absW _ (HK14.out) ?_;clear HK14;intro w15 hk0;have HK15 := Sdq.mk hk0;clear hk0;obtain ⟨cb390, cb391, cb392, cb393, cb394⟩ := blk5 HK15.out.2.2.2.2.2.2.2.2.2.2.2.2.2.2.2.2.1;have fb39 := Ctx.frz HK15.out.2.2.2.2.2.2.2.2.2.2.2.2.2.2.2.2.1;obtain ⟨cb370, cb371, cb372, cb373, cb374, cb375, cb376, cb377, cb378, cb379⟩ := blk10 HK15.out.2.2.2.2.2.2.2.2.2.2.2.2.2.2.2.2.2.1;have fb37 := Ctx.frz HK15.out.2.2.2.2.2.2.2.2.2.2.2.2.2.2.2.2.2.1;have nb39b37 := Ctx.ne HK15.out.2.2.2.2.2.2.2.2.2.2.2.2.2.2.2.2.1 HK15.out.2.2.2.2.2.2.2.2.2.2.2.2.2.2.2.2.2.1 (by decide)
      go_wp2_with fail
      have hz := Option.some.inj HH.out;subst hz
      exact rd_end HK15.out.2.2.2.2.2.2.2.2.2.2.2.2.2.2.2.2.2.1 HK15.out.2.2.2.2.2.2.2.2.2.2.2.2.2.2.2.2.1 HK15.out.2.2.2.2.2.2.2.2.2.2.2.2.2.2.2.2.2.2.2.1 vnil vnil vnil vnil vnil vnil rfl rfl rfl rfl)
    | (
     have h1 : rpc_Read.replies k p1 p2 p3 p4 i1 i2 i3 i4 false = some r := HH.out;clear HH;unfold rpc_Read.replies at h1;replace h1 := Option.bind_eq_some_iff.mp h1;obtain ⟨⟨x1, x2, x3, x4, xh⟩, hx, h1⟩ := h1;have HH := Sdq.mk h1;have HI := Sdq.mk hx;clear h1 hx;obtain ⟨cg50, cg51, cg52, cg53⟩ := blk4 HK12.out.2.2.2.2.2.2.2.2.2.2.1
     go_wp2_with fail
     refine (json_Get.calls k p1 p2 A2 c2 p3 (fun k => w.heap.size + 2 ≤ k) A3 c3 p4 ⟨#[114, 101, 115, 117, 108, 116]⟩ x1 x2 x3 x4 xh _ (vC HK12.out.2.2.2.2.2.2.2.2.2.2.2.2.1) (vle HK12.out.2.2.2.2.2.2.2.2.2.2.2.2.1) HK12.out.2.2.2.2.2.2.2.2.2.2.2.1 HI.out).mono ?_;rintro e1 w13 ⟨v2, v3, rfl, h2, h3, hB⟩;obtain ⟨Axk, cxk, rfl⟩ := Kd.V_slice h2;obtain ⟨Axl, cxl, rfl⟩ := Kd.V_slice h3;clear cg50 cg51 cg52 cg53;have hsz : w.heap.size + 2 ≤ w12.heap.size := blk_lt HK12.out.2.2.2.2.2.2.2.2.2.2.2.2.2.1;have HK13 := Sdq.mk (Ctx.cons (uV k27 27 (w.heap.size + 2) _ _) (vV h3 hsz) (Ctx.cons (uV Kd.string 9 (w.heap.size + 2) _ _) (vV h2 hsz) (HK12.out.below hB)));clear HK12 hB;clear h2 h3 hsz HI
     go_upto_region 14 with fail
     refine absW _ (Ctx.new (cs := [.int .i64 x1, .string x2, .slice Axk x3.length cxk, .slice Axl x4.length cxl]) (t := 27) (HK13.out)) ?_;clear HK13;intro w14 hk0;have HK14 := Sdq.mk hk0;clear hk0;cases xh
     all_goals
      have h1 := HH.out;rw [if_neg (by decide)] at h1;clear HH;replace h1 := Option.bind_eq_some_iff.mp h1;obtain ⟨⟨y1, y2, y3, y4, yh⟩, hy, h1⟩ := h1;have HH := Sdq.mk h1;have HI := Sdq.mk hy;clear h1 hy
      go_upto_region 16 with fail
      refine absW _ (HK14.out) ?_;clear HK14;intro w15 hk0;have HK15 := Sdq.mk hk0;clear hk0;obtain ⟨cg50, cg51, cg52, cg53⟩ := blk4 HK15.out.2.2.2.2.2.2.2.2.2.2.2.2.2.1
      go_wp2_with fail
      refine (json_Get.calls k p1 p2 A2 c2 p3 (fun k => w.heap.size + 2 ≤ k) A3 c3 p4 ⟨#[101, 114, 114, 111, 114]⟩ y1 y2 y3 y4 yh _ (vC HK15.out.2.2.2.2.2.2.2.2.2.2.2.2.2.2.2.1) (vle HK15.out.2.2.2.2.2.2.2.2.2.2.2.2.2.2.2.1) HK15.out.2.2.2.2.2.2.2.2.2.2.2.2.2.2.1 HI.out).mono ?_;rintro e1 w16 ⟨v2, v3, rfl, h2, h3, hB⟩;obtain ⟨Ayk, cyk, rfl⟩ := Kd.V_slice h2;obtain ⟨Ayl, cyl, rfl⟩ := Kd.V_slice h3;clear cg50 cg51 cg52 cg53;have hsz : w.heap.size + 2 ≤ w15.heap.size := blk_lt HK15.out.2.2.2.2.2.2.2.2.2.2.2.2.2.2.2.2.1;have HK16 := Sdq.mk (Ctx.cons (uV k27 27 (w.heap.size + 2) _ _) (vV h3 hsz) (Ctx.cons (uV Kd.string 9 (w.heap.size + 2) _ _) (vV h2 hsz) (HK15.out.below hB)));clear HK15 hB;clear h2 h3 hsz HI
      go_upto_region 17 with fail
      refine absW _ (Ctx.new (cs := [.int .i64 y1, .string y2, .slice Ayk y3.length cyk, .slice Ayl y4.length cyl]) (t := 27) (HK16.out)) ?_;clear HK16;intro w17 hk0;have HK17 := Sdq.mk hk0;clear hk0;cases yh
      all_goals
       have h1 := HH.out;rw [if_neg (by decide)] at h1;clear HH;have HH := Sdq.mk h1;clear h1
       go_upto_region 19 with fail
       refine absW _ (HK17.out) ?_;clear HK17;intro w18 hk0;have HK18 := Sdq.mk hk0;clear hk0;obtain ⟨cb390, cb391, cb392, cb393, cb394⟩ := blk5 HK18.out.2.2.2.2.2.2.2.2.2.2.2.2.2.2.2.2.2.2.2.1;have fb39 := Ctx.frz HK18.out.2.2.2.2.2.2.2.2.2.2.2.2.2.2.2.2.2.2.2.1;obtain ⟨cb370, cb371, cb372, cb373, cb374, cb375, cb376, cb377, cb378, cb379⟩ := blk10 HK18.out.2.2.2.2.2.2.2.2.2.2.2.2.2.2.2.2.2.2.2.2.1;have fb37 := Ctx.frz HK18.out.2.2.2.2.2.2.2.2.2.2.2.2.2.2.2.2.2.2.2.2.1;obtain ⟨cg100, cg101, cg102, cg103, cg104⟩ := blk5 HK18.out.2.2.2.2.2.2.2.2.2.2.2.2.1;have nb39b37 := Ctx.ne HK18.out.2.2.2.2.2.2.2.2.2.2.2.2.2.2.2.2.2.2.2.1 HK18.out.2.2.2.2.2.2.2.2.2.2.2.2.2.2.2.2.2.2.2.2.1 (by decide);have ng10b37 := Ctx.ne HK18.out.2.2.2.2.2.2.2.2.2.2.2.2.1 HK18.out.2.2.2.2.2.2.2.2.2.2.2.2.2.2.2.2.2.2.2.2.1 (by decide);have ng10b39 := Ctx.ne' HK18.out.2.2.2.2.2.2.2.2.2.2.2.2.1 HK18.out.2.2.2.2.2.2.2.2.2.2.2.2.2.2.2.2.2.2.2.1 (by simp)
       go_region
       go_wp2_with fail
       have hz := Option.some.inj HH.out;subst hz
       have hk := (Ctx.drew HK18.out)
       simp only [← World.setCell_drew]
       exact rd_end hk.2.2.2.2.2.2.2.2.2.2.2.2.2.2.2.2.2.2.2.2.1 hk.2.2.2.2.2.2.2.2.2.2.2.2.2.2.2.2.2.2.2.1 hk.2.2.2.2.2.2.2.2.2.2.2.2.2.2.2.2.2.2.2.2.2.2.1 vnil vnil vnil vnil hk.2.2.2.2.2.2.2.2.2.2.2.2.2.2.2.1 hk.2.2.2.2.2.2.2.2.2.2.2.2.2.2.1 rfl rfl rfl rfl)
  subst r4;have h1 := HH.out;rw [if_neg (by decide)] at h1;clear HH;have HH := Sdq.mk h1;clear h1;by_cases r5 : (m1 != 4) = true
  ·have h1 := HH.out
   rw [if_pos r5] at h1;clear HH;have HH := Sdq.mk h1;clear h1;obtain ⟨cg130, cg131, cg132, cg133⟩ := blk4 HK12.out.1
   go_upto_region 21 with fail
   clear cg130 cg131 cg132 cg133;refine absW _ (HK12.out) ?_;clear HK12;intro w13 hk0;have HK13 := Sdq.mk hk0;clear hk0;obtain ⟨cb390, cb391, cb392, cb393, cb394⟩ := blk5 HK13.out.2.2.2.2.2.2.2.2.2.2.2.2.2.1;have fb39 := Ctx.frz HK13.out.2.2.2.2.2.2.2.2.2.2.2.2.2.1;obtain ⟨cb370, cb371, cb372, cb373, cb374, cb375, cb376, cb377, cb378, cb379⟩ := blk10 HK13.out.2.2.2.2.2.2.2.2.2.2.2.2.2.2.1;have fb37 := Ctx.frz HK13.out.2.2.2.2.2.2.2.2.2.2.2.2.2.2.1;obtain ⟨cg100, cg101, cg102, cg103, cg104⟩ := blk5 HK13.out.2.2.2.2.2.2.1;have nb39b37 := Ctx.ne HK13.out.2.2.2.2.2.2.2.2.2.2.2.2.2.1 HK13.out.2.2.2.2.2.2.2.2.2.2.2.2.2.2.1 (by decide);have ng10b37 := Ctx.ne HK13.out.2.2.2.2.2.2.1 HK13.out.2.2.2.2.2.2.2.2.2.2.2.2.2.2.1 (by decide);have ng10b39 := Ctx.ne' HK13.out.2.2.2.2.2.2.1 HK13.out.2.2.2.2.2.2.2.2.2.2.2.2.2.1 (by simp)
   go_region
   go_wp2_with fail
   have hz := Option.some.inj HH.out;subst hz
   have hk := (Ctx.drew HK13.out)
   simp only [← World.setCell_drew];exact rd_end hk.2.2.2.2.2.2.2.2.2.2.2.2.2.2.1 hk.2.2.2.2.2.2.2.2.2.2.2.2.2.1 hk.2.2.2.2.2.2.2.2.2.2.2.2.2.2.2.2.1 vnil vnil vnil vnil hk.2.2.2.2.2.2.2.2.2.1 hk.2.2.2.2.2.2.2.2.1 rfl rfl rfl rfl
  have h1 := HH.out;rw [if_neg r5] at h1;clear HH;replace r5 := Bool.eq_false_iff.mpr r5;unfold rpc_Read.params at h1;replace h1 := Option.bind_eq_some_iff.mp h1;obtain ⟨⟨z1, z2, z3, z4, zh⟩, hz, h1⟩ := h1;have HH := Sdq.mk h1;have HI := Sdq.mk hz;clear h1 hz;obtain ⟨cg130, cg131, cg132, cg133⟩ := blk4 HK12.out.1
  go_upto_region 22 with fail
  clear cg130 cg131 cg132 cg133;refine absW _ (HK12.out) ?_;clear HK12;intro w13 hk0;have HK13 := Sdq.mk hk0;clear hk0;obtain ⟨cg50, cg51, cg52, cg53⟩ := blk4 HK13.out.2.2.2.2.2.2.2.2.2.2.1
  go_wp2_with fail
  refine (json_Get.calls k p1 p2 A2 c2 p3 (fun k => w.heap.size + 2 ≤ k) A3 c3 p4 ⟨#[112, 97, 114, 97, 109, 115]⟩ z1 z2 z3 z4 zh _ (vC HK13.out.2.2.2.2.2.2.2.2.2.2.2.2.1) (vle HK13.out.2.2.2.2.2.2.2.2.2.2.2.2.1) HK13.out.2.2.2.2.2.2.2.2.2.2.2.1 HI.out).mono ?_;rintro e1 w14 ⟨v2, v3, rfl, h2, h3, hB⟩;obtain ⟨Azk, czk, rfl⟩ := Kd.V_slice h2;obtain ⟨Azl, czl, rfl⟩ := Kd.V_slice h3;clear cg50 cg51 cg52 cg53;have hsz : w.heap.size + 2 ≤ w13.heap.size := blk_lt HK13.out.2.2.2.2.2.2.2.2.2.2.2.2.2.1;have HK14 := Sdq.mk (Ctx.cons (uV k27 27 (w.heap.size + 2) _ _) (vV h3 hsz) (Ctx.cons (uV Kd.string 9 (w.heap.size + 2) _ _) (vV h2 hsz) (HK13.out.below hB)));clear HK13 hB;clear h2 h3 hsz HI
  go_upto_region 23 with fail
  refine absW _ (Ctx.new (cs := [.int .i64 z1, .string z2, .slice Azk z3.length czk, .slice Azl z4.length czl]) (t := 27) (HK14.out)) ?_;clear HK14;intro w15 hk0;have HK15 := Sdq.mk hk0;clear hk0;by_cases r6 : (zh && (z1 != 6 && z1 != 5)) = true
  ·have h1 := HH.out
   rw [if_pos r6] at h1;clear HH;have HH := Sdq.mk h1;clear h1;rw [Bool.and_eq_true, Bool.and_eq_true] at r6;obtain ⟨rfl, r7, r8⟩ := r6;obtain ⟨cg180, cg181, cg182, cg183⟩ := blk4 HK15.out.1
   go_upto_region 24 with fail
   clear cg180 cg181 cg182 cg183;refine absW _ (HK15.out) ?_;clear HK15;intro w16 hk0;have HK16 := Sdq.mk hk0;clear hk0;obtain ⟨cb390, cb391, cb392, cb393, cb394⟩ := blk5 HK16.out.2.2.2.2.2.2.2.2.2.2.2.2.2.2.2.2.1;have fb39 := Ctx.frz HK16.out.2.2.2.2.2.2.2.2.2.2.2.2.2.2.2.2.1;obtain ⟨cb370, cb371, cb372, cb373, cb374, cb375, cb376, cb377, cb378, cb379⟩ := blk10 HK16.out.2.2.2.2.2.2.2.2.2.2.2.2.2.2.2.2.2.1;have fb37 := Ctx.frz HK16.out.2.2.2.2.2.2.2.2.2.2.2.2.2.2.2.2.2.1;obtain ⟨cg100, cg101, cg102, cg103, cg104⟩ := blk5 HK16.out.2.2.2.2.2.2.2.2.2.1;have nb39b37 := Ctx.ne HK16.out.2.2.2.2.2.2.2.2.2.2.2.2.2.2.2.2.1 HK16.out.2.2.2.2.2.2.2.2.2.2.2.2.2.2.2.2.2.1 (by decide);have ng10b37 := Ctx.ne HK16.out.2.2.2.2.2.2.2.2.2.1 HK16.out.2.2.2.2.2.2.2.2.2.2.2.2.2.2.2.2.2.1 (by decide);have ng10b39 := Ctx.ne' HK16.out.2.2.2.2.2.2.2.2.2.1 HK16.out.2.2.2.2.2.2.2.2.2.2.2.2.2.2.2.2.1 (by simp)
   go_region
   go_wp2_with fail
   have hz := Option.some.inj HH.out;subst hz
   have hk := (Ctx.drew HK16.out)
   simp only [← World.setCell_drew];exact rd_end hk.2.2.2.2.2.2.2.2.2.2.2.2.2.2.2.2.2.1 hk.2.2.2.2.2.2.2.2.2.2.2.2.2.2.2.2.1 hk.2.2.2.2.2.2.2.2.2.2.2.2.2.2.2.2.2.2.2.1 vnil vnil vnil vnil hk.2.2.2.2.2.2.2.2.2.2.2.2.1 hk.2.2.2.2.2.2.2.2.2.2.2.1 rfl rfl rfl rfl
  have h1 := HH.out;rw [if_neg r6] at h1;clear HH;have HH := Sdq.mk h1;clear h1
  rcases (show zh = false ∨ (zh = true ∧ (z1 != 6) = false) ∨ (zh = true ∧ (z1 != 6) = true ∧ (z1 != 5) = false) from by revert r6; cases zh <;> cases (z1 != 6) <;> cases (z1 != 5) <;> simp) with r7 | ⟨r7, r8⟩ | ⟨r7, r8, r9⟩
  all_goals
   clear r6;subst r7;obtain ⟨cg180, cg181, cg182, cg183⟩ := blk4 HK15.out.1
   go_upto_region 25 with fail
   clear cg180 cg181 cg182 cg183;refine absW _ (HK15.out) ?_;clear HK15;intro w16 hk0;have HK16 := Sdq.mk hk0;clear hk0;obtain ⟨cg180, cg181, cg182, cg183⟩ := blk4 HK16.out.1;obtain ⟨cg130, cg131, cg132, cg133⟩ := blk4 HK16.out.2.2.2.1;obtain ⟨cg80, cg81, cg82, cg83⟩ := blk4 HK16.out.2.2.2.2.2.2.2.2.2.2.1;obtain ⟨cb390, cb391, cb392, cb393, cb394⟩ := blk5 HK16.out.2.2.2.2.2.2.2.2.2.2.2.2.2.2.2.2.1;have fb39 := Ctx.frz HK16.out.2.2.2.2.2.2.2.2.2.2.2.2.2.2.2.2.1;obtain ⟨cb370, cb371, cb372, cb373, cb374, cb375, cb376, cb377, cb378, cb379⟩ := blk10 HK16.out.2.2.2.2.2.2.2.2.2.2.2.2.2.2.2.2.2.1;have fb37 := Ctx.frz HK16.out.2.2.2.2.2.2.2.2.2.2.2.2.2.2.2.2.2.1;have nb39b37 := Ctx.ne HK16.out.2.2.2.2.2.2.2.2.2.2.2.2.2.2.2.2.1 HK16.out.2.2.2.2.2.2.2.2.2.2.2.2.2.2.2.2.2.1 (by decide);have ng8b37 := Ctx.ne HK16.out.2.2.2.2.2.2.2.2.2.2.1 HK16.out.2.2.2.2.2.2.2.2.2.2.2.2.2.2.2.2.2.1 (by decide);have ng8b39 := Ctx.ne HK16.out.2.2.2.2.2.2.2.2.2.2.1 HK16.out.2.2.2.2.2.2.2.2.2.2.2.2.2.2.2.2.1 (by decide);have ng13b37 := Ctx.ne HK16.out.2.2.2.1 HK16.out.2.2.2.2.2.2.2.2.2.2.2.2.2.2.2.2.2.1 (by decide);have ng13b39 := Ctx.ne HK16.out.2.2.2.1 HK16.out.2.2.2.2.2.2.2.2.2.2.2.2.2.2.2.2.1 (by decide);have ng18b37 := Ctx.ne HK16.out.1 HK16.out.2.2.2.2.2.2.2.2.2.2.2.2.2.2.2.2.2.1 (by decide);have ng18b39 := Ctx.ne HK16.out.1 HK16.out.2.2.2.2.2.2.2.2.2.2.2.2.2.2.2.2.1 (by decide)
   go_wp2_with fail
   clear cg180 cg181 cg182 cg183 cg130 cg131 cg132 cg133 cg80 cg81 cg82 cg83 cb390 cb391 cb392 cb393 cb394 fb39 cb370 cb371 cb372 cb373 cb374 cb375 cb376 cb377 cb378 cb379 fb37 ng8b37 ng8b39 ng13b37 ng13b39 ng18b37 ng18b39
   first
    | (
     have hz := Option.some.inj HH.out;subst hz
     exact rd_end HK16.out.2.2.2.2.2.2.2.2.2.2.2.2.2.2.2.2.2.1 HK16.out.2.2.2.2.2.2.2.2.2.2.2.2.2.2.2.2.1 HK16.out.2.2.2.2.2.2.2.2.2.2.2.2.2.2.2.2.2.2.2.1 HK16.out.2.2.2.2.2.2.2.2.2.2.2.2.1 HK16.out.2.2.2.2.2.2.2.2.2.2.2.1 HK16.out.2.2.1 HK16.out.2.1 vnil vnil rfl rfl rfl rfl)
    | (
     have hz := Option.some.inj HH.out;subst hz
     exact rd_end HK16.out.2.2.2.2.2.2.2.2.2.2.2.2.2.2.2.2.2.1 HK16.out.2.2.2.2.2.2.2.2.2.2.2.2.2.2.2.2.1 HK16.out.2.2.2.2.2.2.2.2.2.2.2.2.2.2.2.2.2.2.2.1 HK16.out.2.2.2.2.2.2.2.2.2.2.2.2.1 HK16.out.2.2.2.2.2.2.2.2.2.2.2.1 HK16.out.2.2.1 HK16.out.2.1 vnil vnil rfl rfl rfl rfl)
end Go.Proofs.YteighppcdpaekaaDoor.P
end
