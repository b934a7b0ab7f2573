/- Walks and words of this session, put together by a program of this session (pack.py). Conditions: as each text says. -/
import Derived.Test.YthpgjgmaamcaoaaDoorV1
import Derived.Test.YthpgjgmaamcaoaaDoorV6
import Derived.Test.YthpgjgmaamcaoaaDoorV9
import Derived.Test.YthpgjgmaamcaoaaDoorV10
set_option linter.unusedVariables false
set_option linter.unusedSimpArgs false
section
namespace Go.Proofs.YthpgjgmaamcaoaaDoor.P
open Go.RowKit Go.Proofs.YthpgjgmaamcaoaaDoorW.PrintWords
abbrev Lai := Nat → Option Nat
def Lai.set (b : Lai) (i g : Nat) : Lai := fun j => if j = i then some g else b j
section
variable {P : Program} {ops : Array Oper} {Q : Exit → Act → World → Prop} {a0 : Act} {C : World → Prop} {G : Nat → Nat → World → Prop} {R : Nat → Lai → Value → World → Prop} {p : List Nat} {Z : Nat → Obj}
def FM (ops : Array Oper) (a0 : Act) (C : World → Prop) (G : Nat → Nat → World → Prop) (p : List Nat) (R : Nat → Lai → Value → World → Prop) (l : Array Bool) (a : Act) (w : World) : Prop :=
 l.size = ops.size ∧ Closed ops l ∧ C w ∧ ∃ (e : Nat → Value) (b : Lai), a = fill (dsts ops) 0 e (lf l) a0 ∧ (∀ i g, b i = some g → i ∈ p ∧ lf l i = true ∧ e i = .pointer (some ⟨g, 0, none⟩) ∧ G i g w ∧ g < w.heap.size) ∧ (∀ i, i ∈ p → b i = none → lf l i = false) ∧ (∀ i j g, b i = some g → b j = some g → i = j) ∧ ∀ j, lf l j = true → j ∉ p → R j b (e j) w
def StepM (P : Program) (ops : Array Oper) (Q : Exit → Act → World → Prop) (a0 : Act) (C : World → Prop) (G : Nat → Nat → World → Prop) (p : List Nat) (R : Nat → Lai → Value → World → Prop) (i : Nat) : Prop :=
 ∀ o, ops[i]? = some o → ∀ (b : Lai) (e : Nat → Value) (a : Act) (w : World), C w → (∀ i g, b i = some g → G i g w ∧ g < w.heap.size) → (∀ x ∈ o.after, Region.binds .any x = true → (x.on ∉ p → R x.on b (e x.on) w) ∧ ∀ t, (ops[x.on]?).bind (·.dst) = some t → a.tmps[t]? = some (e x.on)) →
  (∀ t, some t ∉ dsts ops → a.tmps[t]? = a0.tmps[t]?) → ∀ K : Act → World → Prop, (∀ v w', Below w.heap.size w w' → R i b v w' → K (a.put o.dst v) w') →
  if Region.wanted o (yielded ops a.tmps) = true then Oper.wp P o a w K Q else K (a.put o.dst undef) w
def StepN (P : Program) (ops : Array Oper) (Q : Exit → Act → World → Prop) (C : World → Prop) (G : Nat → Nat → World → Prop) (Z : Nat → Obj) (p : Nat) : Prop :=
 ∀ o, ops[p]? = some o → ∀ (a : Act) (w : World), C w → G p w.heap.size (w.alloc (Z p)) ∧ ∀ K : Act → World → Prop, K (a.put o.dst (.pointer (some ⟨w.heap.size, 0, none⟩))) (w.alloc (Z p)) →
  if Region.wanted o (yielded ops a.tmps) = true then Oper.wp P o a w K Q else K (a.put o.dst undef) w
theorem fm_step (hA : apart (dsts ops) = true) (hT : ∀ t, some t ∈ dsts ops → t < a0.tmps.size) (hC : ∀ w w', C w → Below w.heap.size w w' → C w') (hGb : ∀ i g w w', G i g w → Below w.heap.size w w' → G i g w') (hR : ∀ j b v w w', R j b v w → Below w.heap.size w w' → R j b v w') (hRG : ∀ i j b v w, R j b v w → R j (b.set i w.heap.size) v (w.alloc (Z i)))
  {l : Array Bool} {a : Act} {w : World} {i : Nat} (hI : FM ops a0 C G p R l a w) (hi : i ∈ Region.ready .any ops l) (hS : i ∉ p → StepM P ops Q a0 C G p R i) (hP : i ∈ p → StepN P ops Q C G Z i) {K : Act → World → Prop} (hK : ∀ a' w', FM ops a0 C G p R (l.setIfInBounds i true) a' w' → K a' w') : wpOp P ops Q i K a w := by
 obtain ⟨hs, hc, hCw, e, b, rfl, hb1, hb2, hb3, hr⟩ := hI;obtain ⟨o, ho, hli, hisz, hw⟩ := ready_mem hi hs;have hcl := closed_set hc hisz ho hw
 have hfill : ∀ v, (fill (dsts ops) 0 e (lf l) a0).put o.dst v = fill (dsts ops) 0 (fun j => if j = i then v else e j) (lf (l.setIfInBounds i true)) a0 := fun v => by
  rw [lf_set hisz];have := fill_set (e := e) (l := lf l) (v := v) (dsts ops) 0 i a0 o.dst hA (dst_at ho) (by rw [Nat.zero_add]; exact hli)
  simpa using this
 refine wpOp_step ho (fun K' hK' => ?_);by_cases hip : i ∈ p
 ·have hbn : b i = none := by
   cases hbi : b i with
   | none => rfl
   | some g => have := (hb1 i g hbi).2.1; rw [hli] at this; cases this
  obtain ⟨hG, hP⟩ := hP hip o ho (fill (dsts ops) 0 e (lf l) a0) w hCw;have hbl : Below w.heap.size w (w.alloc (Z i)) := bal (Below.refl _ _) _;have hsz : (w.alloc (Z i)).heap.size = w.heap.size + 1 := World.size_alloc _ _;refine hP K' (hK' _ _ (hK _ _ ⟨by simp [hs], hcl, hC _ _ hCw hbl, _, b.set i w.heap.size, hfill _, fun j g hg => ?_, fun j hj h => ?_, fun j k g h1 h2 => ?_, fun j hj hjp => ?_⟩))
  ·unfold Lai.set at hg
   rw [lf_set hisz]
   dsimp only
   by_cases hji : j = i
   ·subst hji
    rw [if_pos rfl] at hg;obtain rfl := Option.some.inj hg;rw [if_pos rfl, if_pos rfl];exact ⟨hip, rfl, rfl, hG, by omega⟩
   ·rw [if_neg hji] at hg
    rw [if_neg hji, if_neg hji];obtain ⟨h1, h2, h3, h4, h5⟩ := hb1 j g hg;exact ⟨h1, h2, h3, hGb _ _ _ _ h4 hbl, by omega⟩
  ·unfold Lai.set at h
   rw [lf_set hisz]
   dsimp only
   by_cases hji : j = i
   ·rw [if_pos hji] at h; cases h
   ·rw [if_neg hji] at h ⊢
    exact hb2 j hj h
  ·unfold Lai.set at h1 h2
   by_cases hji : j = i
   ·by_cases hki : k = i
    ·rw [hji, hki]
    ·rw [if_pos hji] at h1
     rw [if_neg hki] at h2;have := (hb1 k g h2).2.2.2.2;obtain rfl := Option.some.inj h1
     omega
   ·rw [if_neg hji] at h1
    by_cases hki : k = i
    ·rw [if_pos hki] at h2
     have := (hb1 j g h1).2.2.2.2;obtain rfl := Option.some.inj h2
     omega
    ·rw [if_neg hki] at h2
     exact hb3 j k g h1 h2
  ·rw [lf_set hisz] at hj
   dsimp only at hj ⊢
   have hji : j ≠ i := fun h => hjp (h ▸ hip)
   rw [if_neg hji] at hj ⊢;exact hRG _ _ _ _ _ (hr j hj hjp)
 ·refine hS hip o ho b e _ w hCw (fun j g hg => (hb1 j g hg).2.2.2) (fun x hx hbx => ⟨fun hxp => hr _ (hw x hx hbx) hxp, fun t ht => ?_⟩) (fun t ht => fill_other _ 0 a0 ht) K' (fun v w' hbw hv => hK' _ _ (hK _ _ ⟨by simp [hs], hcl, hC _ _ hCw hbw, _, b, hfill v, fun j g hg => ?_, fun j hj h => ?_, hb3, fun j hj hjp => ?_⟩))
  ·cases hox : ops[x.on]? with
   | none => rw [hox] at ht; simp at ht
   | some y =>
    rw [hox] at ht;have hd := dst_at hox;rw [show y.dst = some t from ht] at hd;have := fill_at (e := e) (l := lf l) (dsts ops) 0 x.on a0 hA hd (by rw [Nat.zero_add]; exact hw x hx hbx) (hT t (List.mem_of_getElem? hd));rw [Nat.zero_add] at this;exact this
  ·obtain ⟨h1, h2, h3, h4, h5⟩ := hb1 j g hg
   have hji : j ≠ i := fun h => hip (h ▸ h1)
   rw [lf_set hisz]
   dsimp only
   rw [if_neg hji, if_neg hji];exact ⟨h1, h2, h3, hGb _ _ _ _ h4 hbw, by have := hbw.size; omega⟩
  ·rw [lf_set hisz]
   dsimp only
   rw [if_neg (show ¬ j = i from fun h => hip (h ▸ hj))];exact hb2 j hj h
  ·rw [lf_set hisz] at hj
   dsimp only at hj ⊢
   by_cases hji : j = i
   ·subst hji; simpa using hv
   ·rw [if_neg hji] at hj ⊢
    exact hR _ _ _ _ _ (hr j hj hjp) hbw
theorem flow_seqM {m : Nat} (hpm : ∀ i ∈ p, i < m) (hmn : m < ops.size) (hM : (List.range m).all (marks ops m (waits ops m)).contains = true) (hCh : ∀ t, m < t → t < ops.size → (waits ops t).contains (t - 1) = true) (hSq : Region.seqB .any ops (ops.size - m) m (headArr ops.size m) = true) (hE : early ops = true) (hA : apart (dsts ops) = true) (hT : ∀ t, some t ∈ dsts ops → t < a0.tmps.size) (hC : ∀ w w', C w → Below w.heap.size w w' → C w') (hGb : ∀ i g w w', G i g w → Below w.heap.size w w' → G i g w') (hR : ∀ j b v w w', R j b v w → Below w.heap.size w w' → R j b v w') (hRG : ∀ i j b v w, R j b v w → R j (b.set i w.heap.size) v (w.alloc (Z i)))
  (hS : ∀ i, i < m → i ∉ p → StepM P ops Q a0 C G p R i) (hP : ∀ i ∈ p, StepN P ops Q C G Z i) (hQ : ∀ (e : Nat → Value) (b : Lai) (w : World), C w → (∀ i ∈ p, ∃ g, b i = some g ∧ e i = .pointer (some ⟨g, 0, none⟩) ∧ G i g w) → (∀ i j g, b i = some g → b j = some g → i = j) → (∀ j, j < m → j ∉ p → R j b (e j) w) → ∀ a, a = fill (dsts ops) 0 e (fun j => decide (j < m)) a0 → wpList P ops Q (ops.toList.drop m) a w) :
  ∀ fuel l a w, FM ops a0 C G p R l a w → (∀ t, m ≤ t → lf l t = false) → cnt (lf l) ops.size = fuel → wpAny P .any ops Q fuel l a w := by
 intro fuel
 induction fuel with
 | zero =>
  intro l a w hI hl hn;have := cnt_pos (hl m (Nat.le_refl _)) ops.size hmn
  omega
 | succ fuel ih =>
  intro l a w hI hl hn;by_cases hall : ∀ j, j < m → lf l j = true
  ·obtain ⟨hs, hc, hCw, e, b, rfl, hb1, hb2, hb3, hr⟩ := hI
   have hlh : ∀ j, j < ops.size → lf l j = decide (j < m) := fun j _ => by
    by_cases hj : j < m
    ·rw [hall j hj]; simp [hj]
    ·rw [hl j (by omega)]; simp [hj]
   have hle := head_eq hs hlh;have hcn := cnt_head ops.size hlh;rw [hcn] at hn
   have hlen : (ops.toList.drop m).length = fuel + 1 := by rw [List.length_drop, Array.length_toList]; exact hn
   rw [← hlen];refine wpAny_of_seq (ops.toList.drop m) m l _ w (fun j => by rw [List.getElem?_drop, Array.getElem?_toList]) (by rw [hlen, hle, ← hn]; exact hSq) ?_;refine hQ e b w hCw (fun i hip => ?_) hb3 (fun j hj hjp => hr j (hall j hj) hjp) _ (fill_congr _ 0 a0 (fun j _ hj => ⟨hlh j (by simpa [dsts] using hj), fun _ => rfl⟩))
   cases hbi : b i with
   | none => have := hb2 i hip hbi; rw [hall i (hpm i hip)] at this; cases this
   | some g => obtain ⟨_, _, h3, h4, _⟩ := hb1 i g hbi; exact ⟨g, rfl, h3, h4⟩
  ·refine ⟨fun hr => ?_, fun i hi => ?_⟩
   ·have := ready_nil hr hE hI.1 m hmn
    rw [hl m (Nat.le_refl _)] at this;cases this
   ·obtain ⟨o, ho, hli, hisz, hw⟩ := ready_mem hi hI.1
    have hnx := cnt_next hi hI.1;have hilt := (Array.getElem?_eq_some_iff.1 ho).1
    have hwl : ∀ x, x ∈ waits ops i → lf l x = true := fun x hx => by
     obtain ⟨o', ho', y, hy, hyb, rfl⟩ := waits_mem hx;obtain rfl := Option.some.inj (ho.symm.trans ho');exact hw y hy hyb
    have him : i < m := by
     refine Classical.byContradiction fun hge => ?_
     by_cases e : i = m
     ·subst e
      exact hall (fun j hj => marks_listed hI.2.1 i _ hwl j (by simpa using List.all_eq_true.1 hM j (List.mem_range.2 hj)))
     ·have h1 := hwl (i - 1) (by simpa using hCh i (by omega) hilt)
      rw [hl (i - 1) (by omega)] at h1;cases h1
    refine fm_step hA hT hC hGb hR hRG hI hi (fun hip => hS i him hip) (hP i) (fun a' w' hI' => ih _ a' w' hI' (fun t ht => ?_) (by omega));rw [lf_set hisz]
    dsimp only
    rw [if_neg (by omega)];exact hl t ht
theorem fm_start {w0 : World} (h : C w0) : FM ops a0 C G p R (Array.replicate ops.size false) a0 w0 := by
 obtain ⟨h1, h2, h3, e, h4, h5⟩ := fi_start (ops := ops) (a0 := a0) (C := C) (R := fun _ _ _ => False) h
 have hl : ∀ j, lf (Array.replicate ops.size false) j = false := fun j => by
  unfold lf;rw [Array.getD_eq_getD_getElem?, Array.getElem?_replicate]
  split <;> rfl
 exact ⟨h1, h2, h3, e, fun _ => none, h4, (fun i g hg => by cases hg), fun i _ _ => hl i, (fun i j g hg => by cases hg), (fun j hj => by rw [hl] at hj; cases hj)⟩
def AtM (P : Program) (ops : Array Oper) (Q : Exit → Act → World → Prop) (D : List (Option Tmp)) (W : List (List Nat)) (a0 : Act) (C : World → Prop) (G : Nat → Nat → World → Prop) (p : List Nat) (R : Nat → Lai → Value → World → Prop) (i : Nat) : Prop :=
 i ∉ p → ∀ (b : Lai) (e : Nat → Value) (a : Act) (w : World), C w → (∀ i g, b i = some g → G i g w ∧ g < w.heap.size) → (∀ j, j ∈ W.getD i [] → (j ∉ p → R j b (e j) w) ∧ ∀ t, D[j]? = some (some t) → a.tmps[t]? = some (e j)) → (∀ t, some t ∉ D → a.tmps[t]? = a0.tmps[t]?) →
  ∀ K : Act → World → Prop, Sdq (∀ v w', Below w.heap.size w w' → R i b v w' → K (a.put (D.getD i none) v) w') →
  match ops[i]? with
  | some o => if Region.wanted o (yielded ops a.tmps) = true then Oper.wp P o a w K Q else K (a.put (D.getD i none) undef) w
  | none => True
theorem AtM.of {D : List (Option Tmp)} {W : List (List Nat)} {i : Nat} (o : Oper) (ho : ops[i]? = some o) (h : ∀ (b : Lai) (e : Nat → Value) (a : Act) (w : World), C w → (∀ i g, b i = some g → G i g w ∧ g < w.heap.size) → (∀ j, j ∈ W.getD i [] → (j ∉ p → R j b (e j) w) ∧ ∀ t, D[j]? = some (some t) → a.tmps[t]? = some (e j)) → (∀ t, some t ∉ D → a.tmps[t]? = a0.tmps[t]?) →
  ∀ K : Act → World → Prop, Sdq (∀ v w', Below w.heap.size w w' → R i b v w' → K (a.put (D.getD i none) v) w') → if Region.wanted o (yielded ops a.tmps) = true then Oper.wp P o a w K Q else K (a.put (D.getD i none) undef) w) : AtM P ops Q D W a0 C G p R i := by
 intro _ b e a w h1 h1' h2 h3 K h4;rw [ho];exact h b e a w h1 h1' h2 h3 K h4
theorem stepm_at {D : List (Option Tmp)} {W : List (List Nat)} (h : tabOf ops = (D, W)) {i : Nat} (hip : i ∉ p) (hs : AtM P ops Q D W a0 C G p R i) : StepM P ops Q a0 C G p R i := by
 intro o ho b e a w hC hG hd hb K hK;have hD : dsts ops = D := congrArg Prod.fst h;have hi := (Array.getElem?_eq_some_iff.1 ho).1;have := hs hip b e a w hC hG (fun j hj => ?_) (fun t ht => hb t (by rw [hD]; exact ht)) K ⟨fun v w' h1 h2 => by rw [dst_tab h ho]; exact hK v w' h1 h2⟩
 ·rw [ho, dst_tab h ho] at this
  exact this
 ·rw [waits_tab h i hi] at hj
  obtain ⟨o', ho', y, hy, hyb, rfl⟩ := waits_mem hj;obtain rfl := Option.some.inj (ho.symm.trans ho');obtain ⟨h1, h2⟩ := hd y hy hyb;refine ⟨h1, fun t ht => h2 t ?_⟩
  cases hy2 : ops[y.on]? with
  | none =>
   rw [← hD] at ht;unfold dsts at ht;rw [List.getElem?_map, Array.getElem?_toList, hy2] at ht
   simp at ht
  | some oy =>
   have := dst_at hy2;rw [hD, ht] at this
   simpa using (Option.some.inj this).symm
theorem flowM {id m n : Nat} {w0 : World} {D : List (Option Tmp)} {W : List (List Nat)} (h : tabOf ops = (D, W)) (hn : ops.size = n) (p : List Nat) (Z : Nat → Obj) (C : World → Prop) (G : Nat → Nat → World → Prop) (R : Nat → Lai → Value → World → Prop) (hm : P.follows .mixedOrders = true)
  (hc : (earlyW W && apart D && D.all (fun d => (d.map fun t => decide (t < a0.tmps.size)).getD true) && (List.range m).all (marksW W m (W.getD m [])).contains && (List.range n).all (fun t => decide (t ≤ m) || (W.getD t []).contains (t - 1)) && decide (m < n) && p.all (fun i => decide (i < m))) = true) (hSq : Region.seqB .any ops (n - m) m (headArr n m) = true)
  (hC : ∀ w w', C w → Below w.heap.size w w' → C w') (hGb : ∀ i g w w', G i g w → Below w.heap.size w w' → G i g w') (hR : ∀ j b v w w', R j b v w → Below w.heap.size w w' → R j b v w') (hRG : ∀ i j b v w, R j b v w → R j (b.set i w.heap.size) v (w.alloc (Z i))) (h0 : C w0)
  (hS : Steps (AtM P ops Q D W a0 C G p R) m) (hP : ∀ i ∈ p, StepN P ops Q C G Z i) (hQ : ∀ (e : Nat → Value) (b : Lai) (w : World), C w → (∀ i ∈ p, ∃ g, b i = some g ∧ e i = .pointer (some ⟨g, 0, none⟩) ∧ G i g w) → (∀ i j g, b i = some g → b j = some g → i = j) → Steps (fun j => j ∉ p → R j b (e j) w) m → ∀ a, a = fill D 0 e (fun j => decide (j < m)) a0 → wpList P ops Q (ops.toList.drop m) a w) : (Code.region id ops true).wp P Q a0 w0 := by
 subst hn;simp only [Bool.and_eq_true, decide_eq_true_eq] at hc;have hD : dsts ops = D := congrArg Prod.fst h;refine wp_region_any hm (flow_seqM (fun i hi => by simpa using List.all_eq_true.1 hc.2 i hi) hc.1.2 (by rw [marks_tab h m _ (by omega), ← waits_tab h m hc.1.2]; exact hc.1.1.1.2) (fun t h1 h2 => ?_) hSq (early_tab h hc.1.1.1.1.1.1) (by rw [hD]; exact hc.1.1.1.1.1.2) (by rw [hD]; exact fun t ht => by have := List.all_eq_true.1 hc.1.1.1.1.2 _ ht; simpa using this) hC hGb hR hRG (fun i hi hip => stepm_at h hip (hS.all i hi)) hP (fun e b w hCw hp hj hr a ha => ?_) _ _ _ _ (fm_start (hC _ _ h0 (below_drew (Below.refl _ _)))) (fun t _ => ?_) (cnt_none _ (fun j _ => ?_)))
 ·have := List.all_eq_true.1 hc.1.1.2 t (List.mem_range.2 h2)
  simp only [Bool.or_eq_true, decide_eq_true_eq] at this;rw [← waits_tab h t h2];exact this.resolve_left (by omega)
 ·rw [hD] at ha
  refine hQ e b w hCw hp hj ?_ a ha
  have hall : ∀ n, n ≤ m → Steps (fun j => j ∉ p → R j b (e j) w) n := fun n => by
   induction n with
   | zero => intro _; trivial
   | succ n ih => intro hn; exact ⟨ih (by omega), hr n (by omega)⟩
  exact hall _ (Nat.le_refl _)
 ·unfold lf; rw [Array.getD_eq_getD_getElem?, Array.getElem?_replicate]; split <;> rfl
 ·unfold lf; rw [Array.getD_eq_getD_getElem?, Array.getElem?_replicate]; split <;> rfl
end
def Rm (l : List UpX) (O : Nat → Prop) (j : Nat) (b : Lai) (v : Value) (w : World) : Prop := match l[j]? with
 | some u => u.p (fun k => O k ∧ ∀ i, b i ≠ some k) v w
 | none => True
theorem Rm.up (l : List UpX) (O : Nat → Prop) (j : Nat) (b : Lai) (v : Value) (w w' : World) (h : Rm l O j b v w) (hb : Below w.heap.size w w') : Rm l O j b v w' := by
 unfold Rm at *
 split
 ·rename_i u hu
  rw [hu] at h;exact u.up _ v w w' h hb
 ·trivial
theorem Rm.laid (l : List UpX) (O : Nat → Prop) (Z : Nat → Obj) (i j : Nat) (b : Lai) (v : Value) (w : World) (h : Rm l O j b v w) : Rm l O j (b.set i w.heap.size) v (w.alloc (Z i)) := by
 unfold Rm at *
 split
 ·rename_i u hu
  rw [hu] at h;refine u.up _ v w _ (u.bd _ _ v w h (fun k hk hlt => ⟨hk.1, fun i' hi' => ?_⟩)) (bal (Below.refl _ _) _);unfold Lai.set at hi'
  split at hi'
  ·have := Option.some.inj hi'; omega
  ·exact hk.2 i' hi'
 ·trivial
end Go.Proofs.YthpgjgmaamcaoaaDoor.P
end
section
namespace Go.Proofs.YthpgjgmaamcaoaaDoor.P
open Go.RowKit Go.Shelf Go.Proofs.YthpgjgmaamcaoaaDoor.P Go.Proofs.YthpgjgmaamcaoaaDoorW.PrintWords Go.Proofs.YthpgjgmaamcaoaaDoorW.PrintLast Go.Proofs.YthpgjgmaamcaoaaDoorW.PrintMore Go.Proofs.YthpgjgmaamcaoaaDoor.Nm
set_option maxRecDepth 100000
set_option linter.unusedVariables false
set_option linter.unusedSimpArgs false
theorem law_sums.tab3 : tabOf (opsOf Tryd.f5 3) = ([some 23, some 24, some 25, some 26, some 7, some 8, none, none], [[], [0], [], [2, 1], [], [], [4, 1, 3, 0, 1, 4, 5], [5, 3, 6, 0, 1, 2, 3, 4, 5, 6]]) := by kernel_rfl
theorem law_sums.tab4 : tabOf (opsOf Tryd.f5 4) = ([some 27, some 28, some 29, some 30, some 31, some 32, some 33, some 34, some 35, some 36, some 37, some 38, some 39, some 40, some 41, some 42, some 43, some 44, some 45, some 46, some 47, some 48, some 49, some 50, some 51, some 52, some 53, some 54, some 55, some 56, some 57, some 58, some 59, some 60, some 61, some 62, some 63, some 64, some 65, some 66, some 6], [[], [0, 0], [1], [1], [2, 3, 1, 1], [1], [1], [5, 6, 4, 1], [4, 7, 7, 1], [1, 8], [9, 8], [10], [10], [11, 12, 10, 10], [10], [10], [14, 15, 13, 10], [13, 16, 16, 10], [10, 17], [18, 17], [19], [19], [20, 21, 19, 19], [19], [19], [24, 22, 19], [23, 25, 25, 19], [22, 26, 26, 19], [19, 27], [28, 27], [29], [29], [30, 31, 29, 29], [29], [33, 32, 29], [29], [35, 34, 29], [34, 36, 36, 29], [32, 37, 29], [29, 38], [39, 37, 0, 1, 2, 3, 4, 5, 6, 7, 8, 9, 10, 11, 12, 13, 14, 15, 16, 17, 18, 19, 20, 21, 22, 23, 24, 25, 26, 27, 28, 29, 30, 31, 32, 33, 34, 35, 36, 37, 38, 39]]) := by kernel_rfl
theorem cf_negl (b : LnP.Ps) (v : Int) : LnP.cf (b.map (fun p : Int × Int => (p.1, -p.2))) v = -LnP.cf b v := by
 induction b with
 | nil => rfl
 | cons q r ih =>
  simp only [List.map_cons, LnP.cf] at ih ⊢;rw [ih]
  split <;> omega
theorem nrm_diff (a b : LnP.Ps) : LnP.nrm (a ++ b.map (fun p : Int × Int => (p.1, -p.2))) = [] ↔ LnP.nrm a = LnP.nrm b := by
 constructor
 ·intro h
  refine LnP.nrm_congr (fun v => ?_);have h1 := LnP.cf_nrm v (a ++ b.map (fun p : Int × Int => (p.1, -p.2)));rw [h, LnP.cf_append, cf_negl] at h1;have : LnP.cf [] v = 0 := rfl
  omega
 ·intro h
  refine (LnP.nrm_congr (b := []) (fun v => ?_)).trans rfl;have h1 := LnP.cf_nrm v a;have h2 := LnP.cf_nrm v b;rw [h] at h1;rw [LnP.cf_append, cf_negl]
  show _ = 0
  omega
theorem same_iff (a b : LnP.Ps) (k l : Int) : decide (LnP.nrm (a ++ b.map (fun p : Int × Int => (p.1, -p.2))) = [] ∧ k - l = 0) = decide (k = l ∧ LnP.nrm a = LnP.nrm b) := by
 refine decide_eq_decide.2 ?_;rw [nrm_diff]
 constructor
 ·rintro ⟨h1, h2⟩; exact ⟨by omega, h1⟩
 ·rintro ⟨h1, h2⟩; exact ⟨h2, by omega⟩
theorem two_laid {W : World} {g h t : Nat} {z0 z1 z2 : Value} (hz : (uBlk g [z0, z1, z2] t).p W) (hz' : (uBlk h [z0, z1, z2] t).p W) (hgh : g ≠ h) {c0 c1 c2 e0 e1 e2 : Value} {x y : TR} {O : Nat → Prop} (hO : ∀ k, O k → k ≠ g ∧ k ≠ h) (kx : Kv kTR O W (.agg #[c0, c1, c2]) x) (ky : Kv kTR O W (.agg #[e0, e1, e2]) y) (wf : World)
  (hw : wf = (((((W.setCell ⟨g, 0, none⟩ c0).setCell ⟨g, 1, none⟩ c1).setCell ⟨g, 2, none⟩ c2).setCell ⟨h, 0, none⟩ e0).setCell ⟨h, 1, none⟩ e1).setCell ⟨h, 2, none⟩ e2) :
  (uBlk h [e0, e1, e2] t).p wf ∧ (uBlk g [c0, c1, c2] t).p wf ∧ Kv kTR O wf (.agg #[c0, c1, c2]) x ∧ Kv kTR O wf (.agg #[e0, e1, e2]) y ∧ (∀ b cs u, (uBlk b cs u).p W → b ≠ g → b ≠ h → (uBlk b cs u).p wf) ∧ ∀ w0 : World, Below w0.heap.size w0 W → w0.heap.size ≤ g → w0.heap.size ≤ h → Below w0.heap.size w0 wf := by
 subst hw
 have hk1 : ∀ k, O k → k ≠ g := fun k hk => (hO k hk).1
 have hk2 : ∀ k, O k → k ≠ h := fun k hk => (hO k hk).2
 have fr : ∀ {d : TR} {v : Value}, Kv kTR O W v d → Kv kTR O ((((((W.setCell ⟨g, 0, none⟩ c0).setCell ⟨g, 1, none⟩ c1).setCell ⟨g, 2, none⟩ c2).setCell ⟨h, 0, none⟩ e0).setCell ⟨h, 1, none⟩ e1).setCell ⟨h, 2, none⟩ e2) v d := fun hv =>
  ((((((hv.far (p := ⟨g, 0, none⟩) hk1 c0).far (p := ⟨g, 1, none⟩) hk1 c1).far (p := ⟨g, 2, none⟩) hk1 c2).far (p := ⟨h, 0, none⟩) hk2 e0).far (p := ⟨h, 1, none⟩) hk2 e1).far (p := ⟨h, 2, none⟩) hk2 e2)
 have hb3 : ∀ (b : Nat) (cs : List Value) (u : Nat) (W : World), (uBlk b cs u).p W → b ≠ g → (uBlk b cs u).p (((W.setCell ⟨g, 0, none⟩ c0).setCell ⟨g, 1, none⟩ c1).setCell ⟨g, 2, none⟩ c2) := fun b cs u W hb hn => blk_far (blk_far (blk_far hb (p := ⟨g, 0, none⟩) hn c0) (p := ⟨g, 1, none⟩) hn c1) (p := ⟨g, 2, none⟩) hn c2
 have hb4 : ∀ (b : Nat) (cs : List Value) (u : Nat) (W : World), (uBlk b cs u).p W → b ≠ h → (uBlk b cs u).p (((W.setCell ⟨h, 0, none⟩ e0).setCell ⟨h, 1, none⟩ e1).setCell ⟨h, 2, none⟩ e2) := fun b cs u W hb hn => blk_far (blk_far (blk_far hb (p := ⟨h, 0, none⟩) hn e0) (p := ⟨h, 1, none⟩) hn e1) (p := ⟨h, 2, none⟩) hn e2
 refine ⟨Ctx.put (Ctx.put (Ctx.put (hb3 h _ _ W hz' (Ne.symm hgh)) 0 e0) 1 e1) 2 e2, hb4 g _ _ _ (Ctx.put (Ctx.put (Ctx.put hz 0 c0) 1 c1) 2 c2) hgh, fr kx, fr ky, fun b cs u hb h1 h2 => hb4 b cs u _ (hb3 b cs u W hb h1) h2, fun w0 hb h1 h2 => ?_⟩;exact bstq (bstq (bstq (bstq (bstq (bstq hb h1) h1) h1) h2) h2) h2
theorem tb_both {k : Int} {l : LnP.Ps} (hk : (k.natAbs : Int) ≤ 12 * (K4 * K4)) (hl : l.length ≤ 24) (h : ∀ p ∈ l, (p.2.natAbs : Int) ≤ 12 * (K4 * K4)) : (Big (can k) ∧ Dec (cn k)) ∧ (∀ p ∈ LnP.nrm l, Big (can p.2) ∧ Dec (cn p.2)) ∧ (LnP.nrm l).length ≤ 39 :=
 ⟨both_of (by generalize K4 * K4 = X at *; omega), nrm_both hl h, Nat.le_trans (LnP.nrm_len _) (by omega)⟩
theorem K4_le : K4 ≤ 6 * (K4 * K4) := by rw [K4_val]; decide
theorem kk_pos : (0 : Int) ≤ K4 * K4 := by rw [K4_val]; decide
theorem app_ps {x y : TB} (hx : Lite x) (hy : Lite y) (dx : Lim x) (dy : Lim y) : (psB x.f1 ++ psB y.f1).length ≤ 24 ∧ ∀ p ∈ psB x.f1 ++ psB y.f1, (p.2.natAbs : Int) ≤ 12 * (K4 * K4) := by
 refine ⟨by rw [List.length_append, psB_len, psB_len]; have := hx.1; have := hy.1; omega, fun p hp => ?_⟩;have hk := K4_le;have h0 := kk_pos
 rcases List.mem_append.1 hp with hp | hp
 ·have := lite_ps hx dx p hp; generalize K4 * K4 = X at *; omega
 ·have := lite_ps hy dy p hp; generalize K4 * K4 = X at *; omega
theorem neg_ps {x y : TB} (hx : Lite x) (hy : Lite y) (dx : Lim x) (dy : Lim y) : (psB x.f1 ++ (psB y.f1).map (fun p : Int × Int => (p.1, -p.2))).length ≤ 24 ∧ ∀ p ∈ psB x.f1 ++ (psB y.f1).map (fun p : Int × Int => (p.1, -p.2)), (p.2.natAbs : Int) ≤ 12 * (K4 * K4) := by
 refine ⟨by rw [List.length_append, List.length_map, psB_len, psB_len]; have := hx.1; have := hy.1; omega, fun p hp => ?_⟩;have hk := K4_le;have h0 := kk_pos
 rcases List.mem_append.1 hp with hp | hp
 ·have := lite_ps hx dx p hp; generalize K4 * K4 = X at *; omega
 ·obtain ⟨q, hq, rfl⟩ := List.mem_map.1 hp
  have := lite_ps hy dy q hq
  show ((-q.2).natAbs : Int) ≤ _
  generalize K4 * K4 = X at *; omega
theorem two_const {x y : TB} (hx : Lite x) (hy : Lite y) (dx : Lim x) (dy : Lim y) : ((bv x.f0 + bv y.f0).natAbs : Int) ≤ 12 * (K4 * K4) ∧ ((bv x.f0 - bv y.f0).natAbs : Int) ≤ 12 * (K4 * K4) := by
 have h1 := bv_K dx.c hx.2.1;have h2 := bv_K dy.c hy.2.1;have hk := K4_le;have h0 := kk_pos;generalize K4 * K4 = X at *
 constructor <;> omega
theorem scl_both {x : TB} {n : S24} (hx : Lite x) (dx : Lim x) (hn : Dg B32 n.f1 ∧ n.f1.length ≤ 4) : (Big (can (bv x.f0 * bv n)) ∧ Dec (cn (bv x.f0 * bv n))) ∧ (∀ p ∈ LnP.nrm ((psB x.f1).map (fun p => (p.1, p.2 * bv n))), Big (can p.2) ∧ Dec (cn p.2)) ∧ (LnP.nrm ((psB x.f1).map (fun p => (p.1, p.2 * bv n)))).length ≤ 39 := by
 have h0 := kk_pos;refine tb_both ?_ (by rw [List.length_map, psB_len]; have := hx.1; omega) (fun p hp => ?_)
 ·have h1 := mul_abs (bv_K dx.c hx.2.1) (bv_K hn.1 hn.2)
  generalize K4 * K4 = X at *; omega
 ·obtain ⟨q, hq, rfl⟩ := List.mem_map.1 hp
  have h1 := mul_abs (lite_ps hx dx q hq) (bv_K hn.1 hn.2)
  show ((q.2 * bv n).natAbs : Int) ≤ _
  generalize K4 * K4 = X at *; omega
theorem law_smallT {v : Value} {x : S24} {w0 : World} {b : Bool} (h : Kv k24 (fun _ => True) w0 v x) (hb : decide (x.f1.length ≤ 4) = b) :
  Calls Tryd.prog 21 #[v] w0 fun e w' => e = .returned (.bool b) ∧ Below w0.heap.size w0 w' := hb ▸ law_small v x w0 h
theorem K4_ten : K4 ≤ 10 ^ 40 := by rw [K4_val]; decide
theorem norm_din {x : TB} (hx : Lite x) (dx : Lim x) : R.DIn 42 (R.tt (bv x.f0) (LnP.nrm (psB x.f1))) :=
 R.tt_in (L := 40) (by rw [psB_len]; have := hx.1; omega) (fun p hp => Int.le_trans (lite_ps hx dx p hp) K4_ten) (Nat.le_trans (cn_K (bv_K dx.c hx.2.1)) (by decide)) (by decide)
set_option maxHeartbeats 6400000 in
theorem law_sums_x (u v z : Value) (x y : TB) (n : S24) (w0 : World) (h : Kv kTB (fun _ => True) w0 u x) (h' : Kv kTB (fun _ => True) w0 v y) (hz : Kv k24 (fun _ => True) w0 z n) (hT : TabOk w0) (hx : ¬Lite x) :
  Calls Tryd.prog 5 #[u, v, z] w0 fun e w' => e = .returned (.bool true) ∧ Below w0.heap.size w0 w' := by
 obtain ⟨A, c, B, d, rfl, -, -⟩ := h.openTB;obtain ⟨A2, c2, B2, d2, rfl, -, -⟩ := h'.openTB;obtain ⟨A3, c3, rfl, -, -⟩ := hz.openB;have C := Ctx.new (cs := [.bool n.f0, .slice A3 n.f1.length c3]) (t := 24) (Ctx.new (cs := [.bool y.f0.f0, .slice A2 y.f0.f1.length c2, .slice B2 y.f1.length d2]) (t := 27) (Ctx.new (cs := [.bool x.f0.f0, .slice A x.f0.f1.length c, .slice B x.f1.length d]) (t := 27) (Ctx.cons (uB w0) (Below.refl _ _) (Ctx.cons (uK kTB (fun _ => True) (.agg #[.bool x.f0.f0, .slice A x.f0.f1.length c, .slice B x.f1.length d]) x) h (Ctx.cons (uK kTB (fun _ => True) (.agg #[.bool y.f0.f0, .slice A2 y.f0.f1.length c2, .slice B2 y.f1.length d2]) y) h' (Ctx.cons (uK k24 (fun _ => True) (.agg #[.bool n.f0, .slice A3 n.f1.length c3]) n) hz (Ctx.cons uTab hT Ctx.nil)))))));simp only [World.size_alloc] at C;have hIn := Sdq.mk (And.intro h (And.intro h' (And.intro hz hT)));clear h h' hz hT;go_enter Tryd.func5, Tryd.ntmps5
 go_upto_region 1 with fail
 refine absW _ C ?_;clear C;intro w1 C;have y1 := Ctx.blk C.2.2.1 0 rfl;have y2 := Ctx.blk C.2.2.1 1 rfl;have y3 := Ctx.blk C.2.2.1 2 rfl;have C := Sdq.mk C;go_wp2_with (first | (go_at_call 10; refine (law_summed _ C2.2.2.2.2.2.2.2.1).mono ?_; rintro e5 w5 ⟨rfl, hb5⟩; have C5 := C2.below hb5) | (go_at_call 9; refine (law_lightT C.out.2.2.2.2.1 (x := x) (b := false) (by simpa using hx)).mono ?_; rintro e2 w2 ⟨rfl, hb2⟩; have C2 := C.out.below hb2; have z1 := Ctx.blk C2.2.1 0 rfl; have z2 := Ctx.blk C2.2.1 1 rfl; have z3 := Ctx.blk C2.2.1 2 rfl; clear y1 y2 y3) | fail);go_ret;exact ⟨rfl, C5.2.2.2.1⟩
set_option maxHeartbeats 6400000 in
theorem law_sums_y (u v z : Value) (x y : TB) (n : S24) (w0 : World) (h : Kv kTB (fun _ => True) w0 u x) (h' : Kv kTB (fun _ => True) w0 v y) (hz : Kv k24 (fun _ => True) w0 z n) (hT : TabOk w0) (hx : Lite x) (hy : ¬Lite y) :
  Calls Tryd.prog 5 #[u, v, z] w0 fun e w' => e = .returned (.bool true) ∧ Below w0.heap.size w0 w' := by
 obtain ⟨A, c, B, d, rfl, -, -⟩ := h.openTB;obtain ⟨A2, c2, B2, d2, rfl, -, -⟩ := h'.openTB;obtain ⟨A3, c3, rfl, -, -⟩ := hz.openB;have C := Ctx.new (cs := [.bool n.f0, .slice A3 n.f1.length c3]) (t := 24) (Ctx.new (cs := [.bool y.f0.f0, .slice A2 y.f0.f1.length c2, .slice B2 y.f1.length d2]) (t := 27) (Ctx.new (cs := [.bool x.f0.f0, .slice A x.f0.f1.length c, .slice B x.f1.length d]) (t := 27) (Ctx.cons (uB w0) (Below.refl _ _) (Ctx.cons (uK kTB (fun _ => True) (.agg #[.bool x.f0.f0, .slice A x.f0.f1.length c, .slice B x.f1.length d]) x) h (Ctx.cons (uK kTB (fun _ => True) (.agg #[.bool y.f0.f0, .slice A2 y.f0.f1.length c2, .slice B2 y.f1.length d2]) y) h' (Ctx.cons (uK k24 (fun _ => True) (.agg #[.bool n.f0, .slice A3 n.f1.length c3]) n) hz (Ctx.cons uTab hT Ctx.nil)))))));simp only [World.size_alloc] at C;have hIn := Sdq.mk (And.intro h (And.intro h' (And.intro hz hT)));clear h h' hz hT;go_enter Tryd.func5, Tryd.ntmps5
 go_upto_region 1 with fail
 refine absW _ C ?_;clear C;intro w1 C;have y1 := Ctx.blk C.2.2.1 0 rfl;have y2 := Ctx.blk C.2.2.1 1 rfl;have y3 := Ctx.blk C.2.2.1 2 rfl;have C := Sdq.mk C;go_wp2_with (first | (go_at_call 10; refine (law_summed _ C3.2.2.2.2.2.2.2.1).mono ?_; rintro e5 w5 ⟨rfl, hb5⟩; have C5 := C3.below hb5) | (go_at_call 9; refine (law_lightT C2.2.2.2.2.2.1 (x := y) (b := false) (by simpa using hy)).mono ?_; rintro e3 w3 ⟨rfl, hb3⟩; have C3 := C2.below hb3; clear z1 z2 z3; have v1 := Ctx.blk C3.1 0 rfl; have v2 := Ctx.blk C3.1 1 rfl) | (go_at_call 9; refine (law_lightT C.out.2.2.2.2.1 (x := x) (b := true) (by simpa using hx)).mono ?_; rintro e2 w2 ⟨rfl, hb2⟩; have C2 := C.out.below hb2; have z1 := Ctx.blk C2.2.1 0 rfl; have z2 := Ctx.blk C2.2.1 1 rfl; have z3 := Ctx.blk C2.2.1 2 rfl; clear y1 y2 y3) | fail);go_ret;exact ⟨rfl, C5.2.2.2.1⟩
set_option maxHeartbeats 6400000 in
theorem law_sums_n (u v z : Value) (x y : TB) (n : S24) (w0 : World) (h : Kv kTB (fun _ => True) w0 u x) (h' : Kv kTB (fun _ => True) w0 v y) (hz : Kv k24 (fun _ => True) w0 z n) (hT : TabOk w0) (hx : Lite x) (hy : Lite y) (hn : ¬ n.f1.length ≤ 4) :
  Calls Tryd.prog 5 #[u, v, z] w0 fun e w' => e = .returned (.bool true) ∧ Below w0.heap.size w0 w' := by
 obtain ⟨A, c, B, d, rfl, -, -⟩ := h.openTB;obtain ⟨A2, c2, B2, d2, rfl, -, -⟩ := h'.openTB;obtain ⟨A3, c3, rfl, -, -⟩ := hz.openB;have C := Ctx.new (cs := [.bool n.f0, .slice A3 n.f1.length c3]) (t := 24) (Ctx.new (cs := [.bool y.f0.f0, .slice A2 y.f0.f1.length c2, .slice B2 y.f1.length d2]) (t := 27) (Ctx.new (cs := [.bool x.f0.f0, .slice A x.f0.f1.length c, .slice B x.f1.length d]) (t := 27) (Ctx.cons (uB w0) (Below.refl _ _) (Ctx.cons (uK kTB (fun _ => True) (.agg #[.bool x.f0.f0, .slice A x.f0.f1.length c, .slice B x.f1.length d]) x) h (Ctx.cons (uK kTB (fun _ => True) (.agg #[.bool y.f0.f0, .slice A2 y.f0.f1.length c2, .slice B2 y.f1.length d2]) y) h' (Ctx.cons (uK k24 (fun _ => True) (.agg #[.bool n.f0, .slice A3 n.f1.length c3]) n) hz (Ctx.cons uTab hT Ctx.nil)))))));simp only [World.size_alloc] at C;have hIn := Sdq.mk (And.intro h (And.intro h' (And.intro hz hT)));clear h h' hz hT;go_enter Tryd.func5, Tryd.ntmps5
 go_upto_region 1 with fail
 refine absW _ C ?_;clear C;intro w1 C;have y1 := Ctx.blk C.2.2.1 0 rfl;have y2 := Ctx.blk C.2.2.1 1 rfl;have y3 := Ctx.blk C.2.2.1 2 rfl;have C := Sdq.mk C;go_wp2_with (first | (go_at_call 10; refine (law_summed _ C4.2.2.2.2.2.2.2.1).mono ?_; rintro e5 w5 ⟨rfl, hb5⟩; have C5 := C4.below hb5) | (go_at_call 21; refine (law_smallT C3.2.2.2.2.2.2.1 (x := n) (b := false) (by simpa using hn)).mono ?_; rintro e4 w4 ⟨rfl, hb4⟩; have C4 := C3.below hb4; clear v1 v2) | (go_at_call 9; refine (law_lightT C2.2.2.2.2.2.1 (x := y) (b := true) (by simpa using hy)).mono ?_; rintro e3 w3 ⟨rfl, hb3⟩; have C3 := C2.below hb3; clear z1 z2 z3; have v1 := Ctx.blk C3.1 0 rfl; have v2 := Ctx.blk C3.1 1 rfl) | (go_at_call 9; refine (law_lightT C.out.2.2.2.2.1 (x := x) (b := true) (by simpa using hx)).mono ?_; rintro e2 w2 ⟨rfl, hb2⟩; have C2 := C.out.below hb2; have z1 := Ctx.blk C2.2.1 0 rfl; have z2 := Ctx.blk C2.2.1 1 rfl; have z3 := Ctx.blk C2.2.1 2 rfl; clear y1 y2 y3) | fail);go_ret;exact ⟨rfl, C5.2.2.2.1⟩
set_option maxHeartbeats 6400000 in
theorem law_sums_l (u v z : Value) (x y : TB) (n : S24) (w0 : World) (h : Kv kTB (fun _ => True) w0 u x) (h' : Kv kTB (fun _ => True) w0 v y) (hz : Kv k24 (fun _ => True) w0 z n) (hT : TabOk w0) (hx : Lite x) (hy : Lite y) (hn : n.f1.length ≤ 4) (dx : Lim x) (dy : Lim y) (dn : Dg B32 n.f1) :
  Calls Tryd.prog 5 #[u, v, z] w0 fun e w' => e = .returned (.bool true) ∧ Below w0.heap.size w0 w' := by
 obtain ⟨A, c, B, d, rfl, -, -⟩ := h.openTB;obtain ⟨A2, c2, B2, d2, rfl, -, -⟩ := h'.openTB;obtain ⟨A3, c3, rfl, -, -⟩ := hz.openB;have C := Ctx.new (cs := [.bool n.f0, .slice A3 n.f1.length c3]) (t := 24) (Ctx.new (cs := [.bool y.f0.f0, .slice A2 y.f0.f1.length c2, .slice B2 y.f1.length d2]) (t := 27) (Ctx.new (cs := [.bool x.f0.f0, .slice A x.f0.f1.length c, .slice B x.f1.length d]) (t := 27) (Ctx.cons (uB w0) (Below.refl _ _) (Ctx.cons (uK kTB (fun _ => True) (.agg #[.bool x.f0.f0, .slice A x.f0.f1.length c, .slice B x.f1.length d]) x) h (Ctx.cons (uK kTB (fun _ => True) (.agg #[.bool y.f0.f0, .slice A2 y.f0.f1.length c2, .slice B2 y.f1.length d2]) y) h' (Ctx.cons (uK k24 (fun _ => True) (.agg #[.bool n.f0, .slice A3 n.f1.length c3]) n) hz (Ctx.cons uTab hT Ctx.nil)))))));simp only [World.size_alloc] at C;have hIn := Sdq.mk (And.intro h (And.intro h' (And.intro hz hT)));clear h h' hz hT;have hbx := Sdq.mk (lite_bin hx dx);have hby := Sdq.mk (lite_bin hy dy);have hnx := Sdq.mk (lin_nin (lite_lin hx dx));have hny := Sdq.mk (lin_nin (lite_lin hy dy));have hsx := Sdq.mk (lin_sin (lite_lin hx dx));have hsy := Sdq.mk (lin_sin (lite_lin hy dy));have hxy := Sdq.mk (show x.f1.length + y.f1.length ≤ 39 by have := hx.1; have := hy.1; omega);have htc := two_const hx hy dx dy;have hap := app_ps hx hy dx dy;have hnp := neg_ps hx hy dx dy;have hba := Sdq.mk (tb_both htc.1 hap.1 hap.2);have hbs := Sdq.mk (tb_both htc.2 hnp.1 hnp.2);have hbc := Sdq.mk (scl_both hx dx ⟨dn, hn⟩);have hcc := Sdq.mk hba.out.1.1;have hnn := Sdq.mk (show Dg B32 n.f1 ∧ n.f1.length ≤ 400 from ⟨dn, by omega⟩);have hnb := Sdq.mk (show Big n from ⟨dn, by omega⟩)
 have hlo : (R.ofT x).f1.length + (R.ofT y).f1.length ≤ 39 := by rw [ofT_len, ofT_len]; exact hxy.out
 have hra := Sdq.mk (fun (w : World) {p q : Value} (hp : Kv kTR (fun _ => True) w p (R.ofT x)) (hq : Kv kTR (fun _ => True) w q (R.ofT y)) => by
  have h1 := R.r11_Add (fun _ => True) p q (R.ofT x) (R.ofT y) 40 w (fun _ _ => trivial) hp hq (lite_din hx dx) (lite_din hy dy) hlo (by decide);rw [nv_ofT, nv_ofT, psR_ofT, psR_ofT] at h1
  exact h1)
 have hrs := Sdq.mk (fun (w : World) {p q : Value} (hp : Kv kTR (fun _ => True) w p (R.ofT x)) (hq : Kv kTR (fun _ => True) w q (R.ofT y)) => by
  have h1 := R.r11_Sub (fun _ => True) p q (R.ofT x) (R.ofT y) 40 w (fun _ _ => trivial) hp hq (lite_din hx dx) (lite_din hy dy) hlo (by decide);rw [nv_ofT, nv_ofT, psR_ofT, psR_ofT] at h1
  exact h1)
 have hrc := Sdq.mk (fun (w : World) {p : Value} (q : Value) (hp : Kv kTR (fun _ => True) w p (R.ofT x)) (hq : Kv k34 (fun _ => True) w q (cn (bv n))) => by
  have h1 := R.r11_Scale (fun _ => True) p q (R.ofT x) (cn (bv n)) 40 40 w (fun _ _ => trivial) hp hq (lite_din hx dx) ⟨cn_dg _, cn_K (bv_K dn hn)⟩ (by decide);rw [nv_ofT, nv_cn, psR_ofT] at h1
  exact h1)
 obtain ⟨s, hs⟩ : ∃ s, s = decide (bv x.f0 = bv y.f0 ∧ LnP.nrm (psB x.f1) = LnP.nrm (psB y.f1)) := ⟨_, rfl⟩
 have hq2 := Sdq.mk (fun (w : World) (p q : Value) (hp : Kv kTR (fun _ => True) w p (R.tt (bv x.f0) (LnP.nrm (psB x.f1)))) (hq : Kv kTR (fun _ => True) w q (R.tt (bv y.f0) (LnP.nrm (psB y.f1)))) => by
  have h1 := R.r11_Same p q _ _ 42 w hp hq (norm_din hx dx) (norm_din hy dy) (by decide);rw [show nv (R.tt (bv x.f0) (LnP.nrm (psB x.f1))).f0 = bv x.f0 from nv_cn _, show nv (R.tt (bv y.f0) (LnP.nrm (psB y.f1))).f0 = bv y.f0 from nv_cn _, show R.psR (R.tt (bv x.f0) (LnP.nrm (psB x.f1))).f1 = LnP.nrm (psB x.f1) from R.psR_cp _, show R.psR (R.tt (bv y.f0) (LnP.nrm (psB y.f1))).f1 = LnP.nrm (psB y.f1) from R.psR_cp _, ← hs] at h1
  exact h1.mono (fun e w' he => (⟨_, he.1, rfl, he.2⟩ : ∃ v, e = Ending.returned v ∧ v = Value.bool s ∧ Below w.heap.size w w')))
 go_enter Tryd.func5, Tryd.ntmps5
 go_upto_region 1 with fail
 refine absW _ C ?_;clear C;intro w1 C;have y1 := Ctx.blk C.2.2.1 0 rfl;have y2 := Ctx.blk C.2.2.1 1 rfl;have y3 := Ctx.blk C.2.2.1 2 rfl;have C := Sdq.mk C
 go_upto_region 3 with (first | (go_at_call 21; refine (law_smallT C3.2.2.2.2.2.2.1 (x := n) (b := true) (by simpa using hn)).mono ?_; rintro e4 w4 ⟨rfl, hb4⟩; have C4 := C3.below hb4; clear v1 v2) | (go_at_call 9; refine (law_lightT C2.2.2.2.2.2.1 (x := y) (b := true) (by simpa using hy)).mono ?_; rintro e3 w3 ⟨rfl, hb3⟩; have C3 := C2.below hb3; clear z1 z2 z3; have v1 := Ctx.blk C3.1 0 rfl; have v2 := Ctx.blk C3.1 1 rfl) | (go_at_call 9; refine (law_lightT C.out.2.2.2.2.1 (x := x) (b := true) (by simpa using hx)).mono ?_; rintro e2 w2 ⟨rfl, hb2⟩; have C2 := C.out.below hb2; have z1 := Ctx.blk C2.2.1 0 rfl; have z2 := Ctx.blk C2.2.1 1 rfl; have z3 := Ctx.blk C2.2.1 2 rfl; clear y1 y2 y3) | fail)
 clear C C2 C3 hb2 hb3 hb4;have hfr := Sdq.mk (fun (w : World) (hC : Ctx [uBlk (w0.heap.size + 2) [.bool n.f0, .slice A3 n.f1.length c3] 24, uBlk (w0.heap.size + 1) [.bool y.f0.f0, .slice A2 y.f0.f1.length c2, .slice B2 y.f1.length d2] 27, uBlk w0.heap.size [.bool x.f0.f0, .slice A x.f0.f1.length c, .slice B x.f1.length d] 27, uB w0, uK kTB (fun _ => True) (.agg #[.bool x.f0.f0, .slice A x.f0.f1.length c, .slice B x.f1.length d]) x, uK kTB (fun _ => True) (.agg #[.bool y.f0.f0, .slice A2 y.f0.f1.length c2, .slice B2 y.f1.length d2]) y, uK k24 (fun _ => True) (.agg #[.bool n.f0, .slice A3 n.f1.length c3]) n, uTab] w) (b : Lai) (hG : ∀ i g, b i = some g → ((w0.heap.size + 3 ≤ g ∧ (uBlk g [.bool false, .slice none 0 0, .slice none 0 0] 37).p w) ∧ g < w.heap.size)) (k : Nat) (hk : w.heap.size ≤ k) => (show w0.heap.size + 3 ≤ k ∧ ∀ i, b i ≠ some k from ⟨by have := blk_lt (show w.heap[w0.heap.size + 2]? = _ from hC.1); omega, fun i hi => by have := (hG i k hi).2; omega⟩))
 have hq1 := Sdq.mk (fun (g7 g8 : Nat) (A7 : Option Addr) (c7 : Nat) (B7 : Option Addr) (d7 : Nat) (A8 : Option Addr) (c8 : Nat) (B8 : Option Addr) (d8 : Nat) (w : World) (hC : Ctx [uBlk g8 [.bool (R.ofT y).f0.f0, .slice A8 (R.ofT y).f0.f1.length c8, .slice B8 (R.ofT y).f1.length d8] 37, uBlk g7 [.bool (R.ofT x).f0.f0, .slice A7 (R.ofT x).f0.f1.length c7, .slice B7 (R.ofT x).f1.length d7] 37, uK kTR (fun _ => True) (.agg #[.bool (R.ofT x).f0.f0, .slice A7 (R.ofT x).f0.f1.length c7, .slice B7 (R.ofT x).f1.length d7]) (R.ofT x), uK kTR (fun _ => True) (.agg #[.bool (R.ofT y).f0.f0, .slice A8 (R.ofT y).f0.f1.length c8, .slice B8 (R.ofT y).f1.length d8]) (R.ofT y), uBlk (w0.heap.size + 2) [.bool n.f0, .slice A3 n.f1.length c3] 24, uBlk (w0.heap.size + 1) [.bool y.f0.f0, .slice A2 y.f0.f1.length c2, .slice B2 y.f1.length d2] 27, uBlk w0.heap.size [.bool x.f0.f0, .slice A x.f0.f1.length c, .slice B x.f1.length d] 27, uB w0, uK kTB (fun _ => True) (.agg #[.bool x.f0.f0, .slice A x.f0.f1.length c, .slice B x.f1.length d]) x, uK kTB (fun _ => True) (.agg #[.bool y.f0.f0, .slice A2 y.f0.f1.length c2, .slice B2 y.f1.length d2]) y, uK k24 (fun _ => True) (.agg #[.bool n.f0, .slice A3 n.f1.length c3]) n, uTab] w) => by
  have h1 := lin_Equal _ _ x y w hC.2.2.2.2.2.2.2.2.1 hC.2.2.2.2.2.2.2.2.2.1 hsx.out hsy.out hxy.out;rw [same_iff, ← hs] at h1
  exact h1.mono (fun e w' he => (⟨_, he.1, rfl, he.2⟩ : ∃ v, e = Ending.returned v ∧ v = Value.bool s ∧ Below w.heap.size w w')))
 have hrn := Sdq.mk (fun (g7 g8 : Nat) (A7 : Option Addr) (c7 : Nat) (B7 : Option Addr) (d7 : Nat) (A8 : Option Addr) (c8 : Nat) (B8 : Option Addr) (d8 : Nat) (w : World) (hC : Ctx [uBlk g8 [.bool (R.ofT y).f0.f0, .slice A8 (R.ofT y).f0.f1.length c8, .slice B8 (R.ofT y).f1.length d8] 37, uBlk g7 [.bool (R.ofT x).f0.f0, .slice A7 (R.ofT x).f0.f1.length c7, .slice B7 (R.ofT x).f1.length d7] 37, uK kTR (fun _ => True) (.agg #[.bool (R.ofT x).f0.f0, .slice A7 (R.ofT x).f0.f1.length c7, .slice B7 (R.ofT x).f1.length d7]) (R.ofT x), uK kTR (fun _ => True) (.agg #[.bool (R.ofT y).f0.f0, .slice A8 (R.ofT y).f0.f1.length c8, .slice B8 (R.ofT y).f1.length d8]) (R.ofT y), uBlk (w0.heap.size + 2) [.bool n.f0, .slice A3 n.f1.length c3] 24, uBlk (w0.heap.size + 1) [.bool y.f0.f0, .slice A2 y.f0.f1.length c2, .slice B2 y.f1.length d2] 27, uBlk w0.heap.size [.bool x.f0.f0, .slice A x.f0.f1.length c, .slice B x.f1.length d] 27, uB w0, uK kTB (fun _ => True) (.agg #[.bool x.f0.f0, .slice A x.f0.f1.length c, .slice B x.f1.length d]) x, uK kTB (fun _ => True) (.agg #[.bool y.f0.f0, .slice A2 y.f0.f1.length c2, .slice B2 y.f1.length d2]) y, uK k24 (fun _ => True) (.agg #[.bool n.f0, .slice A3 n.f1.length c3]) n, uTab] w) => by
  have h1 := R.r11_Norm (fun _ => True) _ (R.ofT x) 40 w (fun _ _ => trivial) hC.2.2.1 (lite_din hx dx) (by decide);rw [nv_ofT, psR_ofT] at h1
  exact h1)
 have hrm := Sdq.mk (fun (g7 g8 : Nat) (A7 : Option Addr) (c7 : Nat) (B7 : Option Addr) (d7 : Nat) (A8 : Option Addr) (c8 : Nat) (B8 : Option Addr) (d8 : Nat) (w : World) (hC : Ctx [uBlk g8 [.bool (R.ofT y).f0.f0, .slice A8 (R.ofT y).f0.f1.length c8, .slice B8 (R.ofT y).f1.length d8] 37, uBlk g7 [.bool (R.ofT x).f0.f0, .slice A7 (R.ofT x).f0.f1.length c7, .slice B7 (R.ofT x).f1.length d7] 37, uK kTR (fun _ => True) (.agg #[.bool (R.ofT x).f0.f0, .slice A7 (R.ofT x).f0.f1.length c7, .slice B7 (R.ofT x).f1.length d7]) (R.ofT x), uK kTR (fun _ => True) (.agg #[.bool (R.ofT y).f0.f0, .slice A8 (R.ofT y).f0.f1.length c8, .slice B8 (R.ofT y).f1.length d8]) (R.ofT y), uBlk (w0.heap.size + 2) [.bool n.f0, .slice A3 n.f1.length c3] 24, uBlk (w0.heap.size + 1) [.bool y.f0.f0, .slice A2 y.f0.f1.length c2, .slice B2 y.f1.length d2] 27, uBlk w0.heap.size [.bool x.f0.f0, .slice A x.f0.f1.length c, .slice B x.f1.length d] 27, uB w0, uK kTB (fun _ => True) (.agg #[.bool x.f0.f0, .slice A x.f0.f1.length c, .slice B x.f1.length d]) x, uK kTB (fun _ => True) (.agg #[.bool y.f0.f0, .slice A2 y.f0.f1.length c2, .slice B2 y.f1.length d2]) y, uK k24 (fun _ => True) (.agg #[.bool n.f0, .slice A3 n.f1.length c3]) n, uTab] w) => by
  have h1 := R.r11_Norm (fun _ => True) _ (R.ofT y) 40 w (fun _ _ => trivial) hC.2.2.2.1 (lite_din hy dy) (by decide);rw [nv_ofT, psR_ofT] at h1
  exact h1)
 clear hs htc hap hnp hlo;refine absW _ C4 ?_;clear C4;intro w6 C;refine flowM (m := 6) (n := 8) law_sums.tab3 rfl [4, 5] (fun _ => .cells #[.bool false, .slice none 0 0, .slice none 0 0] 37 (0, 0)) (Ctx _) (fun _ g W => w0.heap.size + 3 ≤ g ∧ (uBlk g [.bool false, .slice none 0 0, .slice none 0 0] 37).p W) (Rm [xEq (.agg #[.bool x.f0.f0, .slice A x.f0.f1.length c, .slice B x.f1.length d]), xKd kTR (R.ofT x), xEq (.agg #[.bool y.f0.f0, .slice A2 y.f0.f1.length c2, .slice B2 y.f1.length d2]), xKd kTR (R.ofT y), xEq undef, xEq undef] (fun k => w0.heap.size + 3 ≤ k)) rfl (by kernel_rfl) (by kernel_rfl) (fun _ _ h hb => h.below hb) (fun _ g _ _ h hb => ⟨h.1, (uBlk g _ _).up _ _ h.2 hb⟩) (Rm.up _ _) (Rm.laid _ _ _) C ⟨⟨⟨⟨⟨⟨trivial, ?_⟩, ?_⟩, ?_⟩, ?_⟩, fun h => absurd (by decide) h⟩, fun h => absurd (by decide) h⟩ ?_ ?_
 ·refine AtM.of _ rfl (fun b e_ a w hC hG hd hb K hK => ?_)
  have b3 : a.tmps[3]? = some (.pointer (some ⟨w0.heap.size, 0, none⟩)) := hb 3 (by decide);have cc0 : w.cell? ⟨w0.heap.size, 0, none⟩ = some (.bool x.f0.f0) := Ctx.blk hC.2.2.1 0 rfl;have cc1 : w.cell? ⟨w0.heap.size, 1, none⟩ = some (.slice A x.f0.f1.length c) := Ctx.blk hC.2.2.1 1 rfl;have cc2 : w.cell? ⟨w0.heap.size, 2, none⟩ = some (.slice B x.f1.length d) := Ctx.blk hC.2.2.1 2 rfl;refine value_ (w1 := w) (v := .agg #[.bool x.f0.f0, .slice A x.f0.f1.length c, .slice B x.f1.length d]) (by rfl) rfl ?_ (hK.out _ _ (Below.refl _ _) rfl);clear hC hG hd hb hK
  first | (go_simp; done) | (go_simp; rfl)
 ·refine AtM.of _ rfl (fun b e_ a w hC hG hd hb K hK => ?_)
  have q23 := (hd 0 (by decide)).2 23 rfl;rw [show e_ 0 = _ from ((hd 0 (by decide)).1 (by decide))] at q23;refine goes_ Tryd.func14 (by kernel_rfl) rfl #[.agg #[.bool x.f0.f0, .slice A x.f0.f1.length c, .slice B x.f1.length d]] (by rfl) rfl rfl (by first | (simp [Act.eval, q23]; done) | (simp [Act.eval, q23]; rfl)) ?_;refine (R.law_of (fun k => w0.heap.size + 3 ≤ k ∧ ∀ i, b i ≠ some k) _ x w (hfr.out w hC b hG) hC.2.2.2.2.1 hbx.out).mono ?_;rintro en w' ⟨v, rfl, hv, hb'⟩;exact ⟨v, rfl, hK.out v w' hb' hv⟩
 ·refine AtM.of _ rfl (fun b e_ a w hC hG hd hb K hK => ?_)
  have b4 : a.tmps[4]? = some (.pointer (some ⟨w0.heap.size + 1, 0, none⟩)) := hb 4 (by decide);have cc0 : w.cell? ⟨w0.heap.size + 1, 0, none⟩ = some (.bool y.f0.f0) := Ctx.blk hC.2.1 0 rfl;have cc1 : w.cell? ⟨w0.heap.size + 1, 1, none⟩ = some (.slice A2 y.f0.f1.length c2) := Ctx.blk hC.2.1 1 rfl;have cc2 : w.cell? ⟨w0.heap.size + 1, 2, none⟩ = some (.slice B2 y.f1.length d2) := Ctx.blk hC.2.1 2 rfl;refine value_ (w1 := w) (v := .agg #[.bool y.f0.f0, .slice A2 y.f0.f1.length c2, .slice B2 y.f1.length d2]) (by rfl) rfl ?_ (hK.out _ _ (Below.refl _ _) rfl);clear hC hG hd hb hK
  first | (go_simp; done) | (go_simp; rfl)
 ·refine AtM.of _ rfl (fun b e_ a w hC hG hd hb K hK => ?_)
  have q25 := (hd 2 (by decide)).2 25 rfl;rw [show e_ 2 = _ from ((hd 2 (by decide)).1 (by decide))] at q25;refine goes_ Tryd.func14 (by kernel_rfl) rfl #[.agg #[.bool y.f0.f0, .slice A2 y.f0.f1.length c2, .slice B2 y.f1.length d2]] (by rfl) rfl rfl (by first | (simp [Act.eval, q25]; done) | (simp [Act.eval, q25]; rfl)) ?_;refine (R.law_of (fun k => w0.heap.size + 3 ≤ k ∧ ∀ i, b i ≠ some k) _ y w (hfr.out w hC b hG) hC.2.2.2.2.2.1 hby.out).mono ?_;rintro en w' ⟨v, rfl, hv, hb'⟩;exact ⟨v, rfl, hK.out v w' hb' hv⟩
 ·intro i hi
  have hi2 : i = 4 ∨ i = 5 := by simpa using hi
  rcases hi2 with rfl | rfl
  ·intro o ho a w hC
   obtain rfl := Option.some.inj (ho.symm.trans (by rfl));refine ⟨⟨by have := blk_lt (show w.heap[w0.heap.size + 2]? = _ from hC.1); omega, blk_new w _⟩, fun K hK => ?_⟩;refine value_ (w1 := w.alloc (.cells #[.bool false, .slice none 0 0, .slice none 0 0] 37 (0, 0))) (v := .pointer (some ⟨w.heap.size, 0, none⟩)) (by rfl) rfl ?_ hK;clear hC
   first | (go_simp; done) | (go_simp; rfl)
  ·intro o ho a w hC
   obtain rfl := Option.some.inj (ho.symm.trans (by rfl));refine ⟨⟨by have := blk_lt (show w.heap[w0.heap.size + 2]? = _ from hC.1); omega, blk_new w _⟩, fun K hK => ?_⟩;refine value_ (w1 := w.alloc (.cells #[.bool false, .slice none 0 0, .slice none 0 0] 37 (0, 0))) (v := .pointer (some ⟨w.heap.size, 0, none⟩)) (by rfl) rfl ?_ hK;clear hC
   first | (go_simp; done) | (go_simp; rfl)
 ·intro e_ b w10 hC hp hinj hr a ha
  obtain ⟨g7, hb7, he4, hB7, hG7⟩ := hp 4 (by decide);obtain ⟨g8, hb8, he5, hB8, hG8⟩ := hp 5 (by decide)
  have h78 : g7 ≠ g8 := fun h => absurd (hinj 4 5 g7 hb7 (h ▸ hb8)) (by decide)
  obtain ⟨A7, c7, B7, d7, he1, -, -⟩ := Kv.openTR (hr.1.1.1.1.2 (by decide));obtain ⟨A8, c8, B8, d8, he3, -, -⟩ := Kv.openTR (hr.1.1.2 (by decide));have k7 : Kv kTR (fun k => w0.heap.size + 3 ≤ k ∧ ∀ i, b i ≠ some k) w10 (e_ 1) (R.ofT x) := hr.1.1.1.1.2 (by decide);have k8 : Kv kTR (fun k => w0.heap.size + 3 ≤ k ∧ ∀ i, b i ≠ some k) w10 (e_ 3) (R.ofT y) := hr.1.1.2 (by decide);rw [he1] at k7;rw [he3] at k8;simp only [fill, Act.put, he1, he3, he4, he5, Nat.reduceAdd, Nat.reduceLT, decide_true, decide_false, if_true, Bool.false_eq_true, if_false, List.setIfInBounds_toArray, List.set_cons_zero, List.set_cons_succ] at ha;subst ha;clear hr he1 he3 he4 he5 hp hinj;have E := Sdq.mk (two_laid hG7 hG8 h78 (O := (fun k => w0.heap.size + 3 ≤ k ∧ ∀ i, b i ≠ some k)) (fun k hk => ⟨fun h => hk.2 4 (h ▸ hb7), fun h => hk.2 5 (h ▸ hb8)⟩) k7 k8 _ rfl);have hBB := Sdq.mk (And.intro hB7 hB8);have hCC := Sdq.mk hC;have p0 := Ctx.blk hG7 0 rfl;have p1 := Ctx.blk hG7 1 rfl;have p2 := Ctx.blk hG7 2 rfl;have q0 := Ctx.blk hG8 0 rfl;have q1 := Ctx.blk hG8 1 rfl;have q2 := Ctx.blk hG8 2 rfl;have f0 := Ctx.frz hG7 0;have f1 := Ctx.frz hG7 1;have f2 := Ctx.frz hG7 2;have e0 := Ctx.frz hG8 0;have e1 := Ctx.frz hG8 1;have e2 := Ctx.frz hG8 2;have hne := Sdq.mk h78;clear hC k7 k8 C hG7 hG8 hb7 hb8 hB7 hB8 hfr;simp only [List.drop_succ_cons, List.drop_zero]
  go_upto_region 4 with fail
  have E := E.out;clear p0 p1 p2 q0 q1 q2 f0 f1 f2 e0 e1 e2;generalize World.setCell _ _ _ = wf at E ⊢;obtain ⟨b8, b7, kx, ky, far, hbel⟩ := E;have hB := hBB.out;have hb0 := hbel w0 hCC.out.2.2.2.1 (by omega) (by omega)
  have C4 : Ctx [uBlk g8 [.bool (R.ofT y).f0.f0, .slice A8 (R.ofT y).f0.f1.length c8, .slice B8 (R.ofT y).f1.length d8] 37, uBlk g7 [.bool (R.ofT x).f0.f0, .slice A7 (R.ofT x).f0.f1.length c7, .slice B7 (R.ofT x).f1.length d7] 37, uK kTR (fun _ => True) (.agg #[.bool (R.ofT x).f0.f0, .slice A7 (R.ofT x).f0.f1.length c7, .slice B7 (R.ofT x).f1.length d7]) (R.ofT x), uK kTR (fun _ => True) (.agg #[.bool (R.ofT y).f0.f0, .slice A8 (R.ofT y).f0.f1.length c8, .slice B8 (R.ofT y).f1.length d8]) (R.ofT y), uBlk (w0.heap.size + 2) [.bool n.f0, .slice A3 n.f1.length c3] 24, uBlk (w0.heap.size + 1) [.bool y.f0.f0, .slice A2 y.f0.f1.length c2, .slice B2 y.f1.length d2] 27, uBlk w0.heap.size [.bool x.f0.f0, .slice A x.f0.f1.length c, .slice B x.f1.length d] 27, uB w0, uK kTB (fun _ => True) (.agg #[.bool x.f0.f0, .slice A x.f0.f1.length c, .slice B x.f1.length d]) x, uK kTB (fun _ => True) (.agg #[.bool y.f0.f0, .slice A2 y.f0.f1.length c2, .slice B2 y.f1.length d2]) y, uK k24 (fun _ => True) (.agg #[.bool n.f0, .slice A3 n.f1.length c3]) n, uTab] wf := ⟨b8, b7, kx.mono (fun _ _ => trivial), ky.mono (fun _ _ => trivial), far _ _ _ hCC.out.1 (by omega) (by omega), far _ _ _ hCC.out.2.1 (by omega) (by omega), far _ _ _ hCC.out.2.2.1 (by omega) (by omega), hb0, hIn.out.1.below hb0, hIn.out.2.1.below hb0, hIn.out.2.2.1.below hb0, hIn.out.2.2.2.below hb0, trivial⟩
  have hq1 := Sdq.mk (hq1.out g7 g8 A7 c7 B7 d7 A8 c8 B8 d8);have hrn := Sdq.mk (hrn.out g7 g8 A7 c7 B7 d7 A8 c8 B8 d8);have hrm := Sdq.mk (hrm.out g7 g8 A7 c7 B7 d7 A8 c8 B8 d8);clear b8 b7 kx ky far hbel hB hBB hb0 hCC hne hIn;refine absW _ C4 ?_;clear C4;intro w11 C;refine flowT (n := 41) law_sums.tab4 rfl (Ctx _) (Rl [uEq (.bool true), uEq (.bool true), uEq (.agg #[.bool x.f0.f0, .slice A x.f0.f1.length c, .slice B x.f1.length d]), uEq (.agg #[.bool y.f0.f0, .slice A2 y.f0.f1.length c2, .slice B2 y.f1.length d2]), uKd kTB (fun _ => True) (tt (bv x.f0 + bv y.f0) (LnP.nrm (psB x.f1 ++ psB y.f1))), uEq (.agg #[.bool (R.ofT x).f0.f0, .slice A7 (R.ofT x).f0.f1.length c7, .slice B7 (R.ofT x).f1.length d7]), uEq (.agg #[.bool (R.ofT y).f0.f0, .slice A8 (R.ofT y).f0.f1.length c8, .slice B8 (R.ofT y).f1.length d8]), uKd kTR (fun _ => True) (R.tt (bv x.f0 + bv y.f0) (LnP.nrm (psB x.f1 ++ psB y.f1))), uEq (.bool true), uEq (.bool true), uEq (.bool true), uEq (.agg #[.bool x.f0.f0, .slice A x.f0.f1.length c, .slice B x.f1.length d]), uEq (.agg #[.bool y.f0.f0, .slice A2 y.f0.f1.length c2, .slice B2 y.f1.length d2]), uKd kTB (fun _ => True) (tt (bv x.f0 - bv y.f0) (LnP.nrm (psB x.f1 ++ (psB y.f1).map (fun p : Int × Int => (p.1, -p.2))))), uEq (.agg #[.bool (R.ofT x).f0.f0, .slice A7 (R.ofT x).f0.f1.length c7, .slice B7 (R.ofT x).f1.length d7]), uEq (.agg #[.bool (R.ofT y).f0.f0, .slice A8 (R.ofT y).f0.f1.length c8, .slice B8 (R.ofT y).f1.length d8]), uKd kTR (fun _ => True) (R.tt (bv x.f0 - bv y.f0) (LnP.nrm (psB x.f1 ++ (psB y.f1).map (fun p : Int × Int => (p.1, -p.2))))), uEq (.bool true), uEq (.bool true), uEq (.bool true), uEq (.agg #[.bool x.f0.f0, .slice A x.f0.f1.length c, .slice B x.f1.length d]), uEq (.agg #[.bool n.f0, .slice A3 n.f1.length c3]), uKd kTB (fun _ => True) (tt (bv x.f0 * bv n) (LnP.nrm ((psB x.f1).map (fun p => (p.1, p.2 * bv n))))), uEq (.agg #[.bool (R.ofT x).f0.f0, .slice A7 (R.ofT x).f0.f1.length c7, .slice B7 (R.ofT x).f1.length d7]), uEq (.agg #[.bool n.f0, .slice A3 n.f1.length c3]), uKd k34 (fun _ => True) (cn (bv n)), uKd kTR (fun _ => True) (R.tt (bv x.f0 * bv n) (LnP.nrm ((psB x.f1).map (fun p => (p.1, p.2 * bv n))))), uEq (.bool true), uEq (.bool true), uEq (.bool true), uEq (.agg #[.bool x.f0.f0, .slice A x.f0.f1.length c, .slice B x.f1.length d]), uEq (.agg #[.bool y.f0.f0, .slice A2 y.f0.f1.length c2, .slice B2 y.f1.length d2]), uEq (.bool s), uEq (.agg #[.bool (R.ofT x).f0.f0, .slice A7 (R.ofT x).f0.f1.length c7, .slice B7 (R.ofT x).f1.length d7]), uKd kTR (fun _ => True) (R.tt (bv x.f0) (LnP.nrm (psB x.f1))), uEq (.agg #[.bool (R.ofT y).f0.f0, .slice A8 (R.ofT y).f0.f1.length c8, .slice B8 (R.ofT y).f1.length d8]), uKd kTR (fun _ => True) (R.tt (bv y.f0) (LnP.nrm (psB y.f1))), uEq (.bool s), uEq (.bool true), uEq (.bool true), uEq (.bool true)]) rfl (by kernel_rfl) (fun _ _ h hb => h.below hb) (Rl.up _) C ⟨⟨⟨⟨⟨⟨⟨⟨⟨⟨⟨⟨⟨⟨⟨⟨⟨⟨⟨⟨⟨⟨⟨⟨⟨⟨⟨⟨⟨⟨⟨⟨⟨⟨⟨⟨⟨⟨⟨⟨⟨trivial, ?_⟩, ?_⟩, ?_⟩, ?_⟩, ?_⟩, ?_⟩, ?_⟩, ?_⟩, ?_⟩, ?_⟩, ?_⟩, ?_⟩, ?_⟩, ?_⟩, ?_⟩, ?_⟩, ?_⟩, ?_⟩, ?_⟩, ?_⟩, ?_⟩, ?_⟩, ?_⟩, ?_⟩, ?_⟩, ?_⟩, ?_⟩, ?_⟩, ?_⟩, ?_⟩, ?_⟩, ?_⟩, ?_⟩, ?_⟩, ?_⟩, ?_⟩, ?_⟩, ?_⟩, ?_⟩, ?_⟩, ?_⟩ ?_
  ·refine At.of _ rfl (fun e_ a w hC hd hb K hK => ?_)
   refine goes_ Tryd.func10 (by kernel_rfl) rfl #[] (by rfl) rfl rfl (by first | (simp [Act.eval]; done) | (simp [Act.eval]; rfl)) ?_;refine (law_summedT w hC.2.2.2.2.2.2.2.2.2.2.2.1).mono ?_;rintro en w' ⟨v, rfl, hv, hb'⟩;exact ⟨v, rfl, hK.out v w' hb' hv⟩
  ·refine At.of _ rfl (fun e_ a w hC hd hb K hK => ?_)
   have q27 := (hd 0 (by decide)).2 27 rfl;rw [show e_ 0 = _ from (hd 0 (by decide)).1] at q27;refine value_ (w1 := w) (v := .bool true) (by rfl) rfl ?_ (hK.out _ _ (Below.refl _ _) rfl);clear hC hd hb hK hbx hby hnx hny hxy hcc hra hba hsx hsy hrs hbs hnn hnb hrc hbc hq1 hrn hrm hq2
   first | (go_simp; done) | (go_simp; rfl)
  ·refine At.of _ rfl (fun e_ a w hC hd hb K hK => ?_)
   have gg28 := (hd 1 (by decide)).2 28 rfl;rw [show e_ 1 = _ from (hd 1 (by decide)).1] at gg28;have b3 : a.tmps[3]? = some (.pointer (some ⟨w0.heap.size, 0, none⟩)) := hb 3 (by decide);have cc0 : w.cell? ⟨w0.heap.size, 0, none⟩ = some (.bool x.f0.f0) := Ctx.blk hC.2.2.2.2.2.2.1 0 rfl;have cc1 : w.cell? ⟨w0.heap.size, 1, none⟩ = some (.slice A x.f0.f1.length c) := Ctx.blk hC.2.2.2.2.2.2.1 1 rfl;have cc2 : w.cell? ⟨w0.heap.size, 2, none⟩ = some (.slice B x.f1.length d) := Ctx.blk hC.2.2.2.2.2.2.1 2 rfl;refine value_ (w1 := w) (v := .agg #[.bool x.f0.f0, .slice A x.f0.f1.length c, .slice B x.f1.length d]) (by simp [Region.wanted, yielded, gg28]) rfl ?_ (hK.out _ _ (Below.refl _ _) rfl);clear hC hd hb hK hbx hby hnx hny hxy hcc hra hba hsx hsy hrs hbs hnn hnb hrc hbc hq1 hrn hrm hq2
   first | (go_simp; done) | (go_simp; rfl)
  ·refine At.of _ rfl (fun e_ a w hC hd hb K hK => ?_)
   have gg28 := (hd 1 (by decide)).2 28 rfl;rw [show e_ 1 = _ from (hd 1 (by decide)).1] at gg28;have b4 : a.tmps[4]? = some (.pointer (some ⟨w0.heap.size + 1, 0, none⟩)) := hb 4 (by decide);have cc0 : w.cell? ⟨w0.heap.size + 1, 0, none⟩ = some (.bool y.f0.f0) := Ctx.blk hC.2.2.2.2.2.1 0 rfl;have cc1 : w.cell? ⟨w0.heap.size + 1, 1, none⟩ = some (.slice A2 y.f0.f1.length c2) := Ctx.blk hC.2.2.2.2.2.1 1 rfl;have cc2 : w.cell? ⟨w0.heap.size + 1, 2, none⟩ = some (.slice B2 y.f1.length d2) := Ctx.blk hC.2.2.2.2.2.1 2 rfl;refine value_ (w1 := w) (v := .agg #[.bool y.f0.f0, .slice A2 y.f0.f1.length c2, .slice B2 y.f1.length d2]) (by simp [Region.wanted, yielded, gg28]) rfl ?_ (hK.out _ _ (Below.refl _ _) rfl);clear hC hd hb hK hbx hby hnx hny hxy hcc hra hba hsx hsy hrs hbs hnn hnb hrc hbc hq1 hrn hrm hq2
   first | (go_simp; done) | (go_simp; rfl)
  ·refine At.of _ rfl (fun e_ a w hC hd hb K hK => ?_)
   have gg28 := (hd 1 (by decide)).2 28 rfl;rw [show e_ 1 = _ from (hd 1 (by decide)).1] at gg28;have q29 := (hd 2 (by decide)).2 29 rfl;rw [show e_ 2 = _ from (hd 2 (by decide)).1] at q29;have q30 := (hd 3 (by decide)).2 30 rfl;rw [show e_ 3 = _ from (hd 3 (by decide)).1] at q30;refine goes_ Tryd.func18 (by kernel_rfl) rfl #[.agg #[.bool x.f0.f0, .slice A x.f0.f1.length c, .slice B x.f1.length d], .agg #[.bool y.f0.f0, .slice A2 y.f0.f1.length c2, .slice B2 y.f1.length d2]] (by simp [Region.wanted, yielded, gg28]) rfl rfl (by first | (simp [Act.eval, q29, q30]; done) | (simp [Act.eval, q29, q30]; rfl)) ?_;refine (lin_Add (fun _ => True) _ _ x y w (fun _ _ => trivial) hC.2.2.2.2.2.2.2.2.1 hC.2.2.2.2.2.2.2.2.2.1 hnx.out hny.out hxy.out hcc.out).mono ?_;rintro en w' ⟨v, rfl, hv, hb'⟩;exact ⟨v, rfl, hK.out v w' hb' hv⟩
  ·refine At.of _ rfl (fun e_ a w hC hd hb K hK => ?_)
   have gg28 := (hd 1 (by decide)).2 28 rfl;rw [show e_ 1 = _ from (hd 1 (by decide)).1] at gg28;have b7 : a.tmps[7]? = some (.pointer (some ⟨g7, 0, none⟩)) := hb 7 (by decide);have cc0 : w.cell? ⟨g7, 0, none⟩ = some (.bool (R.ofT x).f0.f0) := Ctx.blk hC.2.1 0 rfl;have cc1 : w.cell? ⟨g7, 1, none⟩ = some (.slice A7 (R.ofT x).f0.f1.length c7) := Ctx.blk hC.2.1 1 rfl;have cc2 : w.cell? ⟨g7, 2, none⟩ = some (.slice B7 (R.ofT x).f1.length d7) := Ctx.blk hC.2.1 2 rfl;refine value_ (w1 := w) (v := .agg #[.bool (R.ofT x).f0.f0, .slice A7 (R.ofT x).f0.f1.length c7, .slice B7 (R.ofT x).f1.length d7]) (by simp [Region.wanted, yielded, gg28]) rfl ?_ (hK.out _ _ (Below.refl _ _) rfl);clear hC hd hb hK hbx hby hnx hny hxy hcc hra hba hsx hsy hrs hbs hnn hnb hrc hbc hq1 hrn hrm hq2
   first | (go_simp; done) | (go_simp; rfl)
  ·refine At.of _ rfl (fun e_ a w hC hd hb K hK => ?_)
   have gg28 := (hd 1 (by decide)).2 28 rfl;rw [show e_ 1 = _ from (hd 1 (by decide)).1] at gg28;have b8 : a.tmps[8]? = some (.pointer (some ⟨g8, 0, none⟩)) := hb 8 (by decide);have cc0 : w.cell? ⟨g8, 0, none⟩ = some (.bool (R.ofT y).f0.f0) := Ctx.blk hC.1 0 rfl;have cc1 : w.cell? ⟨g8, 1, none⟩ = some (.slice A8 (R.ofT y).f0.f1.length c8) := Ctx.blk hC.1 1 rfl;have cc2 : w.cell? ⟨g8, 2, none⟩ = some (.slice B8 (R.ofT y).f1.length d8) := Ctx.blk hC.1 2 rfl;refine value_ (w1 := w) (v := .agg #[.bool (R.ofT y).f0.f0, .slice A8 (R.ofT y).f0.f1.length c8, .slice B8 (R.ofT y).f1.length d8]) (by simp [Region.wanted, yielded, gg28]) rfl ?_ (hK.out _ _ (Below.refl _ _) rfl);clear hC hd hb hK hbx hby hnx hny hxy hcc hra hba hsx hsy hrs hbs hnn hnb hrc hbc hq1 hrn hrm hq2
   first | (go_simp; done) | (go_simp; rfl)
  ·refine At.of _ rfl (fun e_ a w hC hd hb K hK => ?_)
   have gg28 := (hd 1 (by decide)).2 28 rfl;rw [show e_ 1 = _ from (hd 1 (by decide)).1] at gg28;have q32 := (hd 5 (by decide)).2 32 rfl;rw [show e_ 5 = _ from (hd 5 (by decide)).1] at q32;have q33 := (hd 6 (by decide)).2 33 rfl;rw [show e_ 6 = _ from (hd 6 (by decide)).1] at q33;refine goes_ Tryd.func22 (by kernel_rfl) rfl #[.agg #[.bool (R.ofT x).f0.f0, .slice A7 (R.ofT x).f0.f1.length c7, .slice B7 (R.ofT x).f1.length d7], .agg #[.bool (R.ofT y).f0.f0, .slice A8 (R.ofT y).f0.f1.length c8, .slice B8 (R.ofT y).f1.length d8]] (by simp [Region.wanted, yielded, gg28]) rfl rfl (by first | (simp [Act.eval, q32, q33]; done) | (simp [Act.eval, q32, q33]; rfl)) ?_;refine (hra.out w hC.2.2.1 hC.2.2.2.1).mono ?_;rintro en w' ⟨v, rfl, hv, hb'⟩;exact ⟨v, rfl, hK.out v w' hb' hv⟩
  ·refine At.of _ rfl (fun e_ a w hC hd hb K hK => ?_)
   have gg28 := (hd 1 (by decide)).2 28 rfl;rw [show e_ 1 = _ from (hd 1 (by decide)).1] at gg28;have q31 := (hd 4 (by decide)).2 31 rfl;have q34 := (hd 7 (by decide)).2 34 rfl;refine goes_ Tryd.func11 (by kernel_rfl) rfl #[e_ 4, e_ 7] (by simp [Region.wanted, yielded, gg28]) rfl rfl (by first | (simp [Act.eval, q31, q34]; done) | (simp [Act.eval, q31, q34]; rfl)) ?_;refine (law_sameB _ _ _ _ w (hd 4 (by decide)).1 (hd 7 (by decide)).1 hba.out).mono ?_;rintro en w' ⟨v, rfl, hv, hb'⟩;exact ⟨v, rfl, hK.out v w' hb' hv⟩
  ·refine At.of _ rfl (fun e_ a w hC hd hb K hK => ?_)
   have q28 := (hd 1 (by decide)).2 28 rfl;rw [show e_ 1 = _ from (hd 1 (by decide)).1] at q28;have q35 := (hd 8 (by decide)).2 35 rfl;rw [show e_ 8 = _ from (hd 8 (by decide)).1] at q35;refine value_ (w1 := w) (v := .bool true) (by rfl) rfl ?_ (hK.out _ _ (Below.refl _ _) rfl);clear hC hd hb hK hbx hby hnx hny hxy hcc hra hba hsx hsy hrs hbs hnn hnb hrc hbc hq1 hrn hrm hq2
   first | (go_simp; done) | (go_simp; rfl)
  ·refine At.of _ rfl (fun e_ a w hC hd hb K hK => ?_)
   have q36 := (hd 9 (by decide)).2 36 rfl;rw [show e_ 9 = _ from (hd 9 (by decide)).1] at q36;refine value_ (w1 := w) (v := .bool true) (by rfl) rfl ?_ (hK.out _ _ (Below.refl _ _) rfl);clear hC hd hb hK hbx hby hnx hny hxy hcc hra hba hsx hsy hrs hbs hnn hnb hrc hbc hq1 hrn hrm hq2
   first | (go_simp; done) | (go_simp; rfl)
  ·refine At.of _ rfl (fun e_ a w hC hd hb K hK => ?_)
   have gg37 := (hd 10 (by decide)).2 37 rfl;rw [show e_ 10 = _ from (hd 10 (by decide)).1] at gg37;have b3 : a.tmps[3]? = some (.pointer (some ⟨w0.heap.size, 0, none⟩)) := hb 3 (by decide);have cc0 : w.cell? ⟨w0.heap.size, 0, none⟩ = some (.bool x.f0.f0) := Ctx.blk hC.2.2.2.2.2.2.1 0 rfl;have cc1 : w.cell? ⟨w0.heap.size, 1, none⟩ = some (.slice A x.f0.f1.length c) := Ctx.blk hC.2.2.2.2.2.2.1 1 rfl;have cc2 : w.cell? ⟨w0.heap.size, 2, none⟩ = some (.slice B x.f1.length d) := Ctx.blk hC.2.2.2.2.2.2.1 2 rfl;refine value_ (w1 := w) (v := .agg #[.bool x.f0.f0, .slice A x.f0.f1.length c, .slice B x.f1.length d]) (by simp [Region.wanted, yielded, gg37]) rfl ?_ (hK.out _ _ (Below.refl _ _) rfl);clear hC hd hb hK hbx hby hnx hny hxy hcc hra hba hsx hsy hrs hbs hnn hnb hrc hbc hq1 hrn hrm hq2
   first | (go_simp; done) | (go_simp; rfl)
  ·refine At.of _ rfl (fun e_ a w hC hd hb K hK => ?_)
   have gg37 := (hd 10 (by decide)).2 37 rfl;rw [show e_ 10 = _ from (hd 10 (by decide)).1] at gg37;have b4 : a.tmps[4]? = some (.pointer (some ⟨w0.heap.size + 1, 0, none⟩)) := hb 4 (by decide);have cc0 : w.cell? ⟨w0.heap.size + 1, 0, none⟩ = some (.bool y.f0.f0) := Ctx.blk hC.2.2.2.2.2.1 0 rfl;have cc1 : w.cell? ⟨w0.heap.size + 1, 1, none⟩ = some (.slice A2 y.f0.f1.length c2) := Ctx.blk hC.2.2.2.2.2.1 1 rfl;have cc2 : w.cell? ⟨w0.heap.size + 1, 2, none⟩ = some (.slice B2 y.f1.length d2) := Ctx.blk hC.2.2.2.2.2.1 2 rfl;refine value_ (w1 := w) (v := .agg #[.bool y.f0.f0, .slice A2 y.f0.f1.length c2, .slice B2 y.f1.length d2]) (by simp [Region.wanted, yielded, gg37]) rfl ?_ (hK.out _ _ (Below.refl _ _) rfl);clear hC hd hb hK hbx hby hnx hny hxy hcc hra hba hsx hsy hrs hbs hnn hnb hrc hbc hq1 hrn hrm hq2
   first | (go_simp; done) | (go_simp; rfl)
  ·refine At.of _ rfl (fun e_ a w hC hd hb K hK => ?_)
   have gg37 := (hd 10 (by decide)).2 37 rfl;rw [show e_ 10 = _ from (hd 10 (by decide)).1] at gg37;have q38 := (hd 11 (by decide)).2 38 rfl;rw [show e_ 11 = _ from (hd 11 (by decide)).1] at q38;have q39 := (hd 12 (by decide)).2 39 rfl;rw [show e_ 12 = _ from (hd 12 (by decide)).1] at q39;refine goes_ Tryd.func19 (by kernel_rfl) rfl #[.agg #[.bool x.f0.f0, .slice A x.f0.f1.length c, .slice B x.f1.length d], .agg #[.bool y.f0.f0, .slice A2 y.f0.f1.length c2, .slice B2 y.f1.length d2]] (by simp [Region.wanted, yielded, gg37]) rfl rfl (by first | (simp [Act.eval, q38, q39]; done) | (simp [Act.eval, q38, q39]; rfl)) ?_;refine (lin_Sub (fun _ => True) _ _ x y w (fun _ _ => trivial) hC.2.2.2.2.2.2.2.2.1 hC.2.2.2.2.2.2.2.2.2.1 hsx.out hsy.out hxy.out).mono ?_;rintro en w' ⟨v, rfl, hv, hb'⟩;exact ⟨v, rfl, hK.out v w' hb' hv⟩
  ·refine At.of _ rfl (fun e_ a w hC hd hb K hK => ?_)
   have gg37 := (hd 10 (by decide)).2 37 rfl;rw [show e_ 10 = _ from (hd 10 (by decide)).1] at gg37;have b7 : a.tmps[7]? = some (.pointer (some ⟨g7, 0, none⟩)) := hb 7 (by decide);have cc0 : w.cell? ⟨g7, 0, none⟩ = some (.bool (R.ofT x).f0.f0) := Ctx.blk hC.2.1 0 rfl;have cc1 : w.cell? ⟨g7, 1, none⟩ = some (.slice A7 (R.ofT x).f0.f1.length c7) := Ctx.blk hC.2.1 1 rfl;have cc2 : w.cell? ⟨g7, 2, none⟩ = some (.slice B7 (R.ofT x).f1.length d7) := Ctx.blk hC.2.1 2 rfl;refine value_ (w1 := w) (v := .agg #[.bool (R.ofT x).f0.f0, .slice A7 (R.ofT x).f0.f1.length c7, .slice B7 (R.ofT x).f1.length d7]) (by simp [Region.wanted, yielded, gg37]) rfl ?_ (hK.out _ _ (Below.refl _ _) rfl);clear hC hd hb hK hbx hby hnx hny hxy hcc hra hba hsx hsy hrs hbs hnn hnb hrc hbc hq1 hrn hrm hq2
   first | (go_simp; done) | (go_simp; rfl)
  ·refine At.of _ rfl (fun e_ a w hC hd hb K hK => ?_)
   have gg37 := (hd 10 (by decide)).2 37 rfl;rw [show e_ 10 = _ from (hd 10 (by decide)).1] at gg37;have b8 : a.tmps[8]? = some (.pointer (some ⟨g8, 0, none⟩)) := hb 8 (by decide);have cc0 : w.cell? ⟨g8, 0, none⟩ = some (.bool (R.ofT y).f0.f0) := Ctx.blk hC.1 0 rfl;have cc1 : w.cell? ⟨g8, 1, none⟩ = some (.slice A8 (R.ofT y).f0.f1.length c8) := Ctx.blk hC.1 1 rfl;have cc2 : w.cell? ⟨g8, 2, none⟩ = some (.slice B8 (R.ofT y).f1.length d8) := Ctx.blk hC.1 2 rfl;refine value_ (w1 := w) (v := .agg #[.bool (R.ofT y).f0.f0, .slice A8 (R.ofT y).f0.f1.length c8, .slice B8 (R.ofT y).f1.length d8]) (by simp [Region.wanted, yielded, gg37]) rfl ?_ (hK.out _ _ (Below.refl _ _) rfl);clear hC hd hb hK hbx hby hnx hny hxy hcc hra hba hsx hsy hrs hbs hnn hnb hrc hbc hq1 hrn hrm hq2
   first | (go_simp; done) | (go_simp; rfl)
  ·refine At.of _ rfl (fun e_ a w hC hd hb K hK => ?_)
   have gg37 := (hd 10 (by decide)).2 37 rfl;rw [show e_ 10 = _ from (hd 10 (by decide)).1] at gg37;have q41 := (hd 14 (by decide)).2 41 rfl;rw [show e_ 14 = _ from (hd 14 (by decide)).1] at q41;have q42 := (hd 15 (by decide)).2 42 rfl;rw [show e_ 15 = _ from (hd 15 (by decide)).1] at q42;refine goes_ Tryd.func23 (by kernel_rfl) rfl #[.agg #[.bool (R.ofT x).f0.f0, .slice A7 (R.ofT x).f0.f1.length c7, .slice B7 (R.ofT x).f1.length d7], .agg #[.bool (R.ofT y).f0.f0, .slice A8 (R.ofT y).f0.f1.length c8, .slice B8 (R.ofT y).f1.length d8]] (by simp [Region.wanted, yielded, gg37]) rfl rfl (by first | (simp [Act.eval, q41, q42]; done) | (simp [Act.eval, q41, q42]; rfl)) ?_;refine (hrs.out w hC.2.2.1 hC.2.2.2.1).mono ?_;rintro en w' ⟨v, rfl, hv, hb'⟩;exact ⟨v, rfl, hK.out v w' hb' hv⟩
  ·refine At.of _ rfl (fun e_ a w hC hd hb K hK => ?_)
   have gg37 := (hd 10 (by decide)).2 37 rfl;rw [show e_ 10 = _ from (hd 10 (by decide)).1] at gg37;have q40 := (hd 13 (by decide)).2 40 rfl;have q43 := (hd 16 (by decide)).2 43 rfl;refine goes_ Tryd.func11 (by kernel_rfl) rfl #[e_ 13, e_ 16] (by simp [Region.wanted, yielded, gg37]) rfl rfl (by first | (simp [Act.eval, q40, q43]; done) | (simp [Act.eval, q40, q43]; rfl)) ?_;refine (law_sameB _ _ _ _ w (hd 13 (by decide)).1 (hd 16 (by decide)).1 hbs.out).mono ?_;rintro en w' ⟨v, rfl, hv, hb'⟩;exact ⟨v, rfl, hK.out v w' hb' hv⟩
  ·refine At.of _ rfl (fun e_ a w hC hd hb K hK => ?_)
   have q37 := (hd 10 (by decide)).2 37 rfl;rw [show e_ 10 = _ from (hd 10 (by decide)).1] at q37;have q44 := (hd 17 (by decide)).2 44 rfl;rw [show e_ 17 = _ from (hd 17 (by decide)).1] at q44;refine value_ (w1 := w) (v := .bool true) (by rfl) rfl ?_ (hK.out _ _ (Below.refl _ _) rfl);clear hC hd hb hK hbx hby hnx hny hxy hcc hra hba hsx hsy hrs hbs hnn hnb hrc hbc hq1 hrn hrm hq2
   first | (go_simp; done) | (go_simp; rfl)
  ·refine At.of _ rfl (fun e_ a w hC hd hb K hK => ?_)
   have q45 := (hd 18 (by decide)).2 45 rfl;rw [show e_ 18 = _ from (hd 18 (by decide)).1] at q45;refine value_ (w1 := w) (v := .bool true) (by rfl) rfl ?_ (hK.out _ _ (Below.refl _ _) rfl);clear hC hd hb hK hbx hby hnx hny hxy hcc hra hba hsx hsy hrs hbs hnn hnb hrc hbc hq1 hrn hrm hq2
   first | (go_simp; done) | (go_simp; rfl)
  ·refine At.of _ rfl (fun e_ a w hC hd hb K hK => ?_)
   have gg46 := (hd 19 (by decide)).2 46 rfl;rw [show e_ 19 = _ from (hd 19 (by decide)).1] at gg46;have b3 : a.tmps[3]? = some (.pointer (some ⟨w0.heap.size, 0, none⟩)) := hb 3 (by decide);have cc0 : w.cell? ⟨w0.heap.size, 0, none⟩ = some (.bool x.f0.f0) := Ctx.blk hC.2.2.2.2.2.2.1 0 rfl;have cc1 : w.cell? ⟨w0.heap.size, 1, none⟩ = some (.slice A x.f0.f1.length c) := Ctx.blk hC.2.2.2.2.2.2.1 1 rfl;have cc2 : w.cell? ⟨w0.heap.size, 2, none⟩ = some (.slice B x.f1.length d) := Ctx.blk hC.2.2.2.2.2.2.1 2 rfl;refine value_ (w1 := w) (v := .agg #[.bool x.f0.f0, .slice A x.f0.f1.length c, .slice B x.f1.length d]) (by simp [Region.wanted, yielded, gg46]) rfl ?_ (hK.out _ _ (Below.refl _ _) rfl);clear hC hd hb hK hbx hby hnx hny hxy hcc hra hba hsx hsy hrs hbs hnn hnb hrc hbc hq1 hrn hrm hq2
   first | (go_simp; done) | (go_simp; rfl)
  ·refine At.of _ rfl (fun e_ a w hC hd hb K hK => ?_)
   have gg46 := (hd 19 (by decide)).2 46 rfl;rw [show e_ 19 = _ from (hd 19 (by decide)).1] at gg46;have b5 : a.tmps[5]? = some (.pointer (some ⟨w0.heap.size + 2, 0, none⟩)) := hb 5 (by decide);have cc0 : w.cell? ⟨w0.heap.size + 2, 0, none⟩ = some (.bool n.f0) := Ctx.blk hC.2.2.2.2.1 0 rfl;have cc1 : w.cell? ⟨w0.heap.size + 2, 1, none⟩ = some (.slice A3 n.f1.length c3) := Ctx.blk hC.2.2.2.2.1 1 rfl;refine value_ (w1 := w) (v := .agg #[.bool n.f0, .slice A3 n.f1.length c3]) (by simp [Region.wanted, yielded, gg46]) rfl ?_ (hK.out _ _ (Below.refl _ _) rfl);clear hC hd hb hK hbx hby hnx hny hxy hcc hra hba hsx hsy hrs hbs hnn hnb hrc hbc hq1 hrn hrm hq2
   first | (go_simp; done) | (go_simp; rfl)
  ·refine At.of _ rfl (fun e_ a w hC hd hb K hK => ?_)
   have gg46 := (hd 19 (by decide)).2 46 rfl;rw [show e_ 19 = _ from (hd 19 (by decide)).1] at gg46;have q47 := (hd 20 (by decide)).2 47 rfl;rw [show e_ 20 = _ from (hd 20 (by decide)).1] at q47;have q48 := (hd 21 (by decide)).2 48 rfl;rw [show e_ 21 = _ from (hd 21 (by decide)).1] at q48;refine goes_ Tryd.func24 (by kernel_rfl) rfl #[.agg #[.bool x.f0.f0, .slice A x.f0.f1.length c, .slice B x.f1.length d], .agg #[.bool n.f0, .slice A3 n.f1.length c3]] (by simp [Region.wanted, yielded, gg46]) rfl rfl (by first | (simp [Act.eval, q47, q48]; done) | (simp [Act.eval, q47, q48]; rfl)) ?_;refine (lin_Scale (fun _ => True) _ _ x n w (fun _ _ => trivial) hC.2.2.2.2.2.2.2.2.1 hC.2.2.2.2.2.2.2.2.2.2.1 hsx.out hnn.out).mono ?_;rintro en w' ⟨v, rfl, hv, hb'⟩;exact ⟨v, rfl, hK.out v w' hb' hv⟩
  ·refine At.of _ rfl (fun e_ a w hC hd hb K hK => ?_)
   have gg46 := (hd 19 (by decide)).2 46 rfl;rw [show e_ 19 = _ from (hd 19 (by decide)).1] at gg46;have b7 : a.tmps[7]? = some (.pointer (some ⟨g7, 0, none⟩)) := hb 7 (by decide);have cc0 : w.cell? ⟨g7, 0, none⟩ = some (.bool (R.ofT x).f0.f0) := Ctx.blk hC.2.1 0 rfl;have cc1 : w.cell? ⟨g7, 1, none⟩ = some (.slice A7 (R.ofT x).f0.f1.length c7) := Ctx.blk hC.2.1 1 rfl;have cc2 : w.cell? ⟨g7, 2, none⟩ = some (.slice B7 (R.ofT x).f1.length d7) := Ctx.blk hC.2.1 2 rfl;refine value_ (w1 := w) (v := .agg #[.bool (R.ofT x).f0.f0, .slice A7 (R.ofT x).f0.f1.length c7, .slice B7 (R.ofT x).f1.length d7]) (by simp [Region.wanted, yielded, gg46]) rfl ?_ (hK.out _ _ (Below.refl _ _) rfl);clear hC hd hb hK hbx hby hnx hny hxy hcc hra hba hsx hsy hrs hbs hnn hnb hrc hbc hq1 hrn hrm hq2
   first | (go_simp; done) | (go_simp; rfl)
  ·refine At.of _ rfl (fun e_ a w hC hd hb K hK => ?_)
   have gg46 := (hd 19 (by decide)).2 46 rfl;rw [show e_ 19 = _ from (hd 19 (by decide)).1] at gg46;have b5 : a.tmps[5]? = some (.pointer (some ⟨w0.heap.size + 2, 0, none⟩)) := hb 5 (by decide);have cc0 : w.cell? ⟨w0.heap.size + 2, 0, none⟩ = some (.bool n.f0) := Ctx.blk hC.2.2.2.2.1 0 rfl;have cc1 : w.cell? ⟨w0.heap.size + 2, 1, none⟩ = some (.slice A3 n.f1.length c3) := Ctx.blk hC.2.2.2.2.1 1 rfl;refine value_ (w1 := w) (v := .agg #[.bool n.f0, .slice A3 n.f1.length c3]) (by simp [Region.wanted, yielded, gg46]) rfl ?_ (hK.out _ _ (Below.refl _ _) rfl);clear hC hd hb hK hbx hby hnx hny hxy hcc hra hba hsx hsy hrs hbs hnn hnb hrc hbc hq1 hrn hrm hq2
   first | (go_simp; done) | (go_simp; rfl)
  ·refine At.of _ rfl (fun e_ a w hC hd hb K hK => ?_)
   have gg46 := (hd 19 (by decide)).2 46 rfl;rw [show e_ 19 = _ from (hd 19 (by decide)).1] at gg46;have q51 := (hd 24 (by decide)).2 51 rfl;rw [show e_ 24 = _ from (hd 24 (by decide)).1] at q51;refine goes_ Tryd.func26 (by kernel_rfl) rfl #[.agg #[.bool n.f0, .slice A3 n.f1.length c3]] (by simp [Region.wanted, yielded, gg46]) rfl rfl (by first | (simp [Act.eval, q51]; done) | (simp [Act.eval, q51]; rfl)) ?_;refine (law_num (fun _ => True) _ n w (fun _ _ => trivial) hC.2.2.2.2.2.2.2.2.2.2.1 hnb.out).mono ?_;rintro en w' ⟨v, rfl, hv, hb'⟩;exact ⟨v, rfl, hK.out v w' hb' hv⟩
  ·refine At.of _ rfl (fun e_ a w hC hd hb K hK => ?_)
   have gg46 := (hd 19 (by decide)).2 46 rfl;rw [show e_ 19 = _ from (hd 19 (by decide)).1] at gg46;have q50 := (hd 23 (by decide)).2 50 rfl;rw [show e_ 23 = _ from (hd 23 (by decide)).1] at q50;have q52 := (hd 25 (by decide)).2 52 rfl;refine goes_ Tryd.func25 (by kernel_rfl) rfl #[.agg #[.bool (R.ofT x).f0.f0, .slice A7 (R.ofT x).f0.f1.length c7, .slice B7 (R.ofT x).f1.length d7], e_ 25] (by simp [Region.wanted, yielded, gg46]) rfl rfl (by first | (simp [Act.eval, q50, q52]; done) | (simp [Act.eval, q50, q52]; rfl)) ?_;refine (hrc.out w _ hC.2.2.1 (hd 25 (by decide)).1).mono ?_;rintro en w' ⟨v, rfl, hv, hb'⟩;exact ⟨v, rfl, hK.out v w' hb' hv⟩
  ·refine At.of _ rfl (fun e_ a w hC hd hb K hK => ?_)
   have gg46 := (hd 19 (by decide)).2 46 rfl;rw [show e_ 19 = _ from (hd 19 (by decide)).1] at gg46;have q49 := (hd 22 (by decide)).2 49 rfl;have q53 := (hd 26 (by decide)).2 53 rfl;refine goes_ Tryd.func11 (by kernel_rfl) rfl #[e_ 22, e_ 26] (by simp [Region.wanted, yielded, gg46]) rfl rfl (by first | (simp [Act.eval, q49, q53]; done) | (simp [Act.eval, q49, q53]; rfl)) ?_;refine (law_sameB _ _ _ _ w (hd 22 (by decide)).1 (hd 26 (by decide)).1 hbc.out).mono ?_;rintro en w' ⟨v, rfl, hv, hb'⟩;exact ⟨v, rfl, hK.out v w' hb' hv⟩
  ·refine At.of _ rfl (fun e_ a w hC hd hb K hK => ?_)
   have q46 := (hd 19 (by decide)).2 46 rfl;rw [show e_ 19 = _ from (hd 19 (by decide)).1] at q46;have q54 := (hd 27 (by decide)).2 54 rfl;rw [show e_ 27 = _ from (hd 27 (by decide)).1] at q54;refine value_ (w1 := w) (v := .bool true) (by rfl) rfl ?_ (hK.out _ _ (Below.refl _ _) rfl);clear hC hd hb hK hbx hby hnx hny hxy hcc hra hba hsx hsy hrs hbs hnn hnb hrc hbc hq1 hrn hrm hq2
   first | (go_simp; done) | (go_simp; rfl)
  ·refine At.of _ rfl (fun e_ a w hC hd hb K hK => ?_)
   have q55 := (hd 28 (by decide)).2 55 rfl;rw [show e_ 28 = _ from (hd 28 (by decide)).1] at q55;refine value_ (w1 := w) (v := .bool true) (by rfl) rfl ?_ (hK.out _ _ (Below.refl _ _) rfl);clear hC hd hb hK hbx hby hnx hny hxy hcc hra hba hsx hsy hrs hbs hnn hnb hrc hbc hq1 hrn hrm hq2
   first | (go_simp; done) | (go_simp; rfl)
  ·refine At.of _ rfl (fun e_ a w hC hd hb K hK => ?_)
   have gg56 := (hd 29 (by decide)).2 56 rfl;rw [show e_ 29 = _ from (hd 29 (by decide)).1] at gg56;have b3 : a.tmps[3]? = some (.pointer (some ⟨w0.heap.size, 0, none⟩)) := hb 3 (by decide);have cc0 : w.cell? ⟨w0.heap.size, 0, none⟩ = some (.bool x.f0.f0) := Ctx.blk hC.2.2.2.2.2.2.1 0 rfl;have cc1 : w.cell? ⟨w0.heap.size, 1, none⟩ = some (.slice A x.f0.f1.length c) := Ctx.blk hC.2.2.2.2.2.2.1 1 rfl;have cc2 : w.cell? ⟨w0.heap.size, 2, none⟩ = some (.slice B x.f1.length d) := Ctx.blk hC.2.2.2.2.2.2.1 2 rfl;refine value_ (w1 := w) (v := .agg #[.bool x.f0.f0, .slice A x.f0.f1.length c, .slice B x.f1.length d]) (by simp [Region.wanted, yielded, gg56]) rfl ?_ (hK.out _ _ (Below.refl _ _) rfl);clear hC hd hb hK hbx hby hnx hny hxy hcc hra hba hsx hsy hrs hbs hnn hnb hrc hbc hq1 hrn hrm hq2
   first | (go_simp; done) | (go_simp; rfl)
  ·refine At.of _ rfl (fun e_ a w hC hd hb K hK => ?_)
   have gg56 := (hd 29 (by decide)).2 56 rfl;rw [show e_ 29 = _ from (hd 29 (by decide)).1] at gg56;have b4 : a.tmps[4]? = some (.pointer (some ⟨w0.heap.size + 1, 0, none⟩)) := hb 4 (by decide);have cc0 : w.cell? ⟨w0.heap.size + 1, 0, none⟩ = some (.bool y.f0.f0) := Ctx.blk hC.2.2.2.2.2.1 0 rfl;have cc1 : w.cell? ⟨w0.heap.size + 1, 1, none⟩ = some (.slice A2 y.f0.f1.length c2) := Ctx.blk hC.2.2.2.2.2.1 1 rfl;have cc2 : w.cell? ⟨w0.heap.size + 1, 2, none⟩ = some (.slice B2 y.f1.length d2) := Ctx.blk hC.2.2.2.2.2.1 2 rfl;refine value_ (w1 := w) (v := .agg #[.bool y.f0.f0, .slice A2 y.f0.f1.length c2, .slice B2 y.f1.length d2]) (by simp [Region.wanted, yielded, gg56]) rfl ?_ (hK.out _ _ (Below.refl _ _) rfl);clear hC hd hb hK hbx hby hnx hny hxy hcc hra hba hsx hsy hrs hbs hnn hnb hrc hbc hq1 hrn hrm hq2
   first | (go_simp; done) | (go_simp; rfl)
  ·refine At.of _ rfl (fun e_ a w hC hd hb K hK => ?_)
   have gg56 := (hd 29 (by decide)).2 56 rfl;rw [show e_ 29 = _ from (hd 29 (by decide)).1] at gg56;have q57 := (hd 30 (by decide)).2 57 rfl;rw [show e_ 30 = _ from (hd 30 (by decide)).1] at q57;have q58 := (hd 31 (by decide)).2 58 rfl;rw [show e_ 31 = _ from (hd 31 (by decide)).1] at q58;refine goes_ Tryd.func27 (by kernel_rfl) rfl #[.agg #[.bool x.f0.f0, .slice A x.f0.f1.length c, .slice B x.f1.length d], .agg #[.bool y.f0.f0, .slice A2 y.f0.f1.length c2, .slice B2 y.f1.length d2]] (by simp [Region.wanted, yielded, gg56]) rfl rfl (by first | (simp [Act.eval, q57, q58]; done) | (simp [Act.eval, q57, q58]; rfl)) ?_;refine (hq1.out w hC).mono ?_;rintro en w' ⟨v, rfl, hv, hb'⟩;exact ⟨v, rfl, hK.out v w' hb' hv⟩
  ·refine At.of _ rfl (fun e_ a w hC hd hb K hK => ?_)
   have gg56 := (hd 29 (by decide)).2 56 rfl;rw [show e_ 29 = _ from (hd 29 (by decide)).1] at gg56;have b7 : a.tmps[7]? = some (.pointer (some ⟨g7, 0, none⟩)) := hb 7 (by decide);have cc0 : w.cell? ⟨g7, 0, none⟩ = some (.bool (R.ofT x).f0.f0) := Ctx.blk hC.2.1 0 rfl;have cc1 : w.cell? ⟨g7, 1, none⟩ = some (.slice A7 (R.ofT x).f0.f1.length c7) := Ctx.blk hC.2.1 1 rfl;have cc2 : w.cell? ⟨g7, 2, none⟩ = some (.slice B7 (R.ofT x).f1.length d7) := Ctx.blk hC.2.1 2 rfl;refine value_ (w1 := w) (v := .agg #[.bool (R.ofT x).f0.f0, .slice A7 (R.ofT x).f0.f1.length c7, .slice B7 (R.ofT x).f1.length d7]) (by simp [Region.wanted, yielded, gg56]) rfl ?_ (hK.out _ _ (Below.refl _ _) rfl);clear hC hd hb hK hbx hby hnx hny hxy hcc hra hba hsx hsy hrs hbs hnn hnb hrc hbc hq1 hrn hrm hq2
   first | (go_simp; done) | (go_simp; rfl)
  ·refine At.of _ rfl (fun e_ a w hC hd hb K hK => ?_)
   have gg56 := (hd 29 (by decide)).2 56 rfl;rw [show e_ 29 = _ from (hd 29 (by decide)).1] at gg56;have q60 := (hd 33 (by decide)).2 60 rfl;rw [show e_ 33 = _ from (hd 33 (by decide)).1] at q60;refine goes_ Tryd.func29 (by kernel_rfl) rfl #[.agg #[.bool (R.ofT x).f0.f0, .slice A7 (R.ofT x).f0.f1.length c7, .slice B7 (R.ofT x).f1.length d7]] (by simp [Region.wanted, yielded, gg56]) rfl rfl (by first | (simp [Act.eval, q60]; done) | (simp [Act.eval, q60]; rfl)) ?_;refine (hrn.out w hC).mono ?_;rintro en w' ⟨v, rfl, hv, hb'⟩;exact ⟨v, rfl, hK.out v w' hb' hv⟩
  ·refine At.of _ rfl (fun e_ a w hC hd hb K hK => ?_)
   have gg56 := (hd 29 (by decide)).2 56 rfl;rw [show e_ 29 = _ from (hd 29 (by decide)).1] at gg56;have b8 : a.tmps[8]? = some (.pointer (some ⟨g8, 0, none⟩)) := hb 8 (by decide);have cc0 : w.cell? ⟨g8, 0, none⟩ = some (.bool (R.ofT y).f0.f0) := Ctx.blk hC.1 0 rfl;have cc1 : w.cell? ⟨g8, 1, none⟩ = some (.slice A8 (R.ofT y).f0.f1.length c8) := Ctx.blk hC.1 1 rfl;have cc2 : w.cell? ⟨g8, 2, none⟩ = some (.slice B8 (R.ofT y).f1.length d8) := Ctx.blk hC.1 2 rfl;refine value_ (w1 := w) (v := .agg #[.bool (R.ofT y).f0.f0, .slice A8 (R.ofT y).f0.f1.length c8, .slice B8 (R.ofT y).f1.length d8]) (by simp [Region.wanted, yielded, gg56]) rfl ?_ (hK.out _ _ (Below.refl _ _) rfl);clear hC hd hb hK hbx hby hnx hny hxy hcc hra hba hsx hsy hrs hbs hnn hnb hrc hbc hq1 hrn hrm hq2
   first | (go_simp; done) | (go_simp; rfl)
  ·refine At.of _ rfl (fun e_ a w hC hd hb K hK => ?_)
   have gg56 := (hd 29 (by decide)).2 56 rfl;rw [show e_ 29 = _ from (hd 29 (by decide)).1] at gg56;have q62 := (hd 35 (by decide)).2 62 rfl;rw [show e_ 35 = _ from (hd 35 (by decide)).1] at q62;refine goes_ Tryd.func29 (by kernel_rfl) rfl #[.agg #[.bool (R.ofT y).f0.f0, .slice A8 (R.ofT y).f0.f1.length c8, .slice B8 (R.ofT y).f1.length d8]] (by simp [Region.wanted, yielded, gg56]) rfl rfl (by first | (simp [Act.eval, q62]; done) | (simp [Act.eval, q62]; rfl)) ?_;refine (hrm.out w hC).mono ?_;rintro en w' ⟨v, rfl, hv, hb'⟩;exact ⟨v, rfl, hK.out v w' hb' hv⟩
  ·refine At.of _ rfl (fun e_ a w hC hd hb K hK => ?_)
   have gg56 := (hd 29 (by decide)).2 56 rfl;rw [show e_ 29 = _ from (hd 29 (by decide)).1] at gg56;have q61 := (hd 34 (by decide)).2 61 rfl;have q63 := (hd 36 (by decide)).2 63 rfl;refine goes_ Tryd.func28 (by kernel_rfl) rfl #[e_ 34, e_ 36] (by simp [Region.wanted, yielded, gg56]) rfl rfl (by first | (simp [Act.eval, q61, q63]; done) | (simp [Act.eval, q61, q63]; rfl)) ?_;refine (hq2.out w _ _ (hd 34 (by decide)).1 (hd 36 (by decide)).1).mono ?_;rintro en w' ⟨v, rfl, hv, hb'⟩;exact ⟨v, rfl, hK.out v w' hb' hv⟩
  ·refine At.of _ rfl (fun e_ a w hC hd hb K hK => ?_)
   have gg56 := (hd 29 (by decide)).2 56 rfl;rw [show e_ 29 = _ from (hd 29 (by decide)).1] at gg56;have q59 := (hd 32 (by decide)).2 59 rfl;rw [show e_ 32 = _ from (hd 32 (by decide)).1] at q59;have q64 := (hd 37 (by decide)).2 64 rfl;rw [show e_ 37 = _ from (hd 37 (by decide)).1] at q64;refine value_ (w1 := w) (v := .bool true) (by simp [Region.wanted, yielded, gg56]) rfl ?_ (hK.out _ _ (Below.refl _ _) rfl);clear hC hd hb hK hbx hby hnx hny hxy hcc hra hba hsx hsy hrs hbs hnn hnb hrc hbc hq1 hrn hrm hq2
   first | (go_simp; done) | (go_simp; rfl)
  ·refine At.of _ rfl (fun e_ a w hC hd hb K hK => ?_)
   have q56 := (hd 29 (by decide)).2 56 rfl;rw [show e_ 29 = _ from (hd 29 (by decide)).1] at q56;have q65 := (hd 38 (by decide)).2 65 rfl;rw [show e_ 38 = _ from (hd 38 (by decide)).1] at q65;refine value_ (w1 := w) (v := .bool true) (by rfl) rfl ?_ (hK.out _ _ (Below.refl _ _) rfl);clear hC hd hb hK hbx hby hnx hny hxy hcc hra hba hsx hsy hrs hbs hnn hnb hrc hbc hq1 hrn hrm hq2
   first | (go_simp; done) | (go_simp; rfl)
  ·refine At.of _ rfl (fun e_ a w hC hd hb K hK => ?_)
   have q66 := (hd 39 (by decide)).2 66 rfl;rw [show e_ 39 = _ from (hd 39 (by decide)).1] at q66;refine value_ (w1 := w) (v := .bool true) (by rfl) rfl ?_ (hK.out _ _ (Below.refl _ _) rfl);clear hC hd hb hK hbx hby hnx hny hxy hcc hra hba hsx hsy hrs hbs hnn hnb hrc hbc hq1 hrn hrm hq2
   first | (go_simp; done) | (go_simp; rfl)
  ·intro e_ w12 hC hr
   have r40 : e_ 40 = .bool true := hr.2;simp only [fill, Act.put, r40, if_true, List.setIfInBounds_toArray, List.set_cons_zero, List.set_cons_succ];have hb10 := hC.2.2.2.2.2.2.2.1;clear hr r40 hC
   go_wp2_with fail
   go_ret;exact ⟨rfl, hb10⟩
theorem law_sums (u v z : Value) (x y : TB) (n : S24) (w0 : World) (h : Kv kTB (fun _ => True) w0 u x) (h' : Kv kTB (fun _ => True) w0 v y) (hz : Kv k24 (fun _ => True) w0 z n) (hT : TabOk w0) (dx : Lim x) (dy : Lim y) (dn : Dg B32 n.f1) :
  Calls Tryd.prog 5 #[u, v, z] w0 fun e w' => e = .returned (.bool true) ∧ Below w0.heap.size w0 w' := by
 by_cases hx : Lite x
 ·by_cases hy : Lite y
  ·by_cases hn : n.f1.length ≤ 4
   ·exact law_sums_l u v z x y n w0 h h' hz hT hx hy hn dx dy dn
   ·exact law_sums_n u v z x y n w0 h h' hz hT hx hy hn
  ·exact law_sums_y u v z x y n w0 h h' hz hT hx hy
 ·exact law_sums_x u v z x y n w0 h h' hz hT hx
end Go.Proofs.YthpgjgmaamcaoaaDoor.P
end
section
namespace Go.Proofs.YthpgjgmaamcaoaaDoor.lsums
open Go.ChangeShapes Go.WideShapes Go.ChangeAt Go.RowKit Go.Proofs.YthpgjgmaamcaoaaDoorW.PrintWords Go.Proofs.YthpgjgmaamcaoaaDoor.P Go.Proofs.YthpgjgmaamcaoaaDoor.laidThree
open Go.ChangeMaps (open_string shut_string)
set_option linter.unusedVariables false
set_option maxRecDepth 100000
theorem own : ownKnob Tryd.prog.godebug = none := by kernel_rfl
theorem laidOut : laidOutB Tryd.prog = true := by kernel_rfl
theorem openArgB {H : Type} {enc : TypeId × Value → H} {W : World} {sp : Nat → Bool} {held : Bool} {b0 : Nat} {v : Value} {d : DataW H} {p : List MemPlace} (hv : Value.okWide Tryd.prog W .any b0 24 v) (h : DataW.Trod enc Tryd.prog W 0 sp held 24 v d p) :
  ∃ s : S24, Kv k24 (fun _ => True) W v s ∧ Go.Proofs.YthpgjgmaamcaoaaDoor.Nm.Dg B32 s.f1 := by
 obtain ⟨cs, rfl, hsz⟩ := okWide_struct Tryd.underlying24 hv;obtain ⟨fuel, hf⟩ := h;obtain ⟨s, hs, hd⟩ := openB hf;exact ⟨s, ⟨_, by simp [Value.cells], kv_of k24_heap hs⟩, hd⟩
theorem contract (H : Type) (enc : TypeId × Value → H) (W : World) (base : Nat) (args : Array Value) (ds gs : List (DataW H)) (before : List MemPlace)
  (hval0 : ∀ (j : Nat) t v, Tryd.f5.params[j]? = some t → args[j]? = some v → Value.okWide Tryd.prog W .any base t v)
  (hW : DataW.Whole enc Tryd.prog Tryd.f5.params.toList Rows.linearSumsSpec.vars false W args.toList ds gs before) (hL : laidMetH Tryd.prog Rows.linearSumsRow.laid W) :
  Calls Tryd.prog 5 args W fun e W' => ∃ v, e = .returned v ∧ Rows.linearSumsSpec.post enc Tryd.prog Tryd.f5 false true false false W args v W' := by
 have hval := hval0;have hW' := hW;obtain ⟨p, q, hA0, hV, rfl, hfz, hnd⟩ := hW;have hA : DataW.TrodAll enc Tryd.prog W 0 (fun _ => true) true Tryd.f5.params.toList args.toList ds p := hA0;rw [Tryd.params5] at hA hval;obtain ⟨v0, vs0, d0, ds0, p0, q0, hargs, rfl, rfl, h0, r0⟩ := trodAll_cons hA;obtain ⟨v1, vs1, d1, ds1, p1, q1, rfl, rfl, rfl, h1, r1⟩ := trodAll_cons r0;obtain ⟨v2, vs2, d2, ds2, p2, q2, rfl, rfl, rfl, h2, r2⟩ := trodAll_cons r1;obtain ⟨rfl, rfl, rfl⟩ := trodAll_nil r2
 obtain rfl : args = #[v0, v1, v2] := by cases args; simp_all
 obtain ⟨rfl, rfl⟩ := trodVars_none hV;have k0 := h0
 have lt0 : ∀ x ∈ p0, x.block < W.heap.size := by obtain ⟨m, hm⟩ := k0; exact DataW.trod_lt m _ _ _ hm
 have k1 := h1
 have lt1 : ∀ x ∈ p1, x.block < W.heap.size := by obtain ⟨m, hm⟩ := k1; exact DataW.trod_lt m _ _ _ hm
 have k2 := h2
 have lt2 : ∀ x ∈ p2, x.block < W.heap.size := by obtain ⟨m, hm⟩ := k2; exact DataW.trod_lt m _ _ _ hm
 obtain ⟨s0, x0, g0⟩ := openArgT (hval 0 27 v0 rfl rfl) h0;obtain ⟨s1, x1, g1⟩ := openArgT (hval 1 27 v1 rfl rfl) h1;obtain ⟨s2, x2, g2⟩ := openArgB (hval 2 24 v2 rfl rfl) h2;have hT := tabs (W := W) hL;clear hA0 hval0
 refine (law_sums v0 v1 v2 s0 s1 s2 W x0 x1 x2 hT ⟨g0.c, g0.p⟩ ⟨g1.c, g1.p⟩ g2).mono fun e W' ⟨he, bel⟩ => ?_
 subst he;exact ⟨_, rfl, _, _, _, [], _, [], hW', trodAll_mk1 (shut_bool Tryd.underlying4 _), (trodAll_cons_mk (Below.trod laidOut (by kernel_rfl) (of_decide_eq_true (by kernel_rfl)) k0 bel lt0) (trodAll_cons_mk (Below.trod laidOut (by kernel_rfl) (of_decide_eq_true (by kernel_rfl)) k1 bel lt1) (trodAll_cons_mk (Below.trod laidOut (by kernel_rfl) (of_decide_eq_true (by kernel_rfl)) k2 bel lt2) trodAll_mk0))), rfl, bel.frame _, fun h => by cases h⟩
theorem laid_met (os : Os) : laidMet Tryd.prog Rows.linearSumsRow.laid ((laidWorld os).forCall (fun _ _ => 0) ⟨#[], #[.agg #[.bool false, .slice none 0 0, .slice none 0 0], .agg #[.bool false, .slice none 0 0, .slice none 0 0], .agg #[.bool false, .slice none 0 0]], []⟩).memory :=
 laidMet_of_run' 8 (by kernel_rfl) (by kernel_rfl)
theorem reads (os : Os) {H : Type} (enc : TypeId × Value → H) : ∃ places, DataW.whole enc Tryd.prog ((laidWorld os).forCall (fun _ _ => 0) ⟨#[], #[.agg #[.bool false, .slice none 0 0, .slice none 0 0], .agg #[.bool false, .slice none 0 0, .slice none 0 0], .agg #[.bool false, .slice none 0 0]], []⟩).memory Tryd.f5.params.toList Rows.linearSumsSpec.vars false (#[.agg #[.bool false, .slice none 0 0, .slice none 0 0], .agg #[.bool false, .slice none 0 0, .slice none 0 0], .agg #[.bool false, .slice none 0 0]] : Array Value).toList 8 = some ([.agg [.agg [.lit (.bool false), .nil], .nil], .agg [.agg [.lit (.bool false), .nil], .nil], .agg [.lit (.bool false), .nil]], [], places) :=
 ⟨[], by kernel_rfl⟩
theorem lifted (os : Os) (started : os.Started) (H : Type) (enc : TypeId × Value → H) (F : Stop.Interp) :
  ReturnsInHanded {} Tryd.checked os 5 .any ((OpenSpec.ofChange Rows.linearSumsSpec).preRow enc Tryd.prog Tryd.f5 Rows.linearSumsRow.domain false Rows.linearSumsRow.laid) (((OpenSpec.ofChange Rows.linearSumsSpec).at F).post enc Tryd.prog Tryd.f5 false true false false) := by
 obtain ⟨places, hx⟩ := reads os enc
 refine returnsInHanded_of_row (C := Tryd.checked) (s := OpenSpec.ofChange Rows.linearSumsSpec) own started (by kernel_rfl) Tryd.func5
  (witness_row_atRef (enc := enc) (C := Tryd.checked) false (laidWorld os) #[.agg #[.bool false, .slice none 0 0, .slice none 0 0], .agg #[.bool false, .slice none 0 0, .slice none 0 0], .agg #[.bool false, .slice none 0 0]] rfl (by kernel_rfl) (by kernel_rfl) (by kernel_rfl)
   (OpenSpec.preRow_of_cond 8 hx (by kernel_rfl) (fun k hk => by cases hk) (by kernel_rfl) (laid_met os))) ?_
 intro W base args ds gs before hval hW _ _ _ hL _ _;exact contract H enc W base args ds gs before hval hW hL
theorem said : Rows.LinearSumsSaid :=
 OpenClaim.holds_of_cond 5 Tryd.f5 rfl rfl rfl rfl rfl rfl rfl ⟨rfl, rfl, rfl, rfl, rfl⟩ rfl rfl rfl rfl rfl (by kernel_rfl) Tryd.func5 (by kernel_rfl)
  (of_decide_eq_true (by kernel_rfl)) (by unfold Func.isWrapper; first | (rw [if_pos (by decide +kernel)]; kernel_rfl) | (rw [if_neg (by decide +kernel)]; exact ⟨rfl, rfl⟩))
  (fun os started H enc _ F => by rw [OpenClaim.pre_eq_preRow]; exact lifted os started H enc F)
theorem plain (f : FuncId) (fn : Func) (hf : Tryd.pinned.checked.prog.funcNamed "whetstone/whetstonelaw11.LinearSums" = some f) (hfn : Tryd.pinned.checked.prog.funcs[f]? = some fn) :
  false = Tryd.pinned.checked.prog.looks [] ∧ ∀ (j : Nat) t, fn.params[j]? = some t → Tryd.pinned.checked.prog.wantsStandIn t = false := by
 obtain rfl : f = 5 := Option.some.inj ((show Tryd.prog.funcNamed "whetstone/whetstonelaw11.LinearSums" = some 5 by kernel_rfl).symm.trans hf) |>.symm
 obtain rfl : fn = Tryd.f5 := (Option.some.inj (Tryd.func5.symm.trans hfn)).symm;refine ⟨by kernel_rfl, fun j t ht => ?_⟩;rw [Tryd.params5] at ht
 obtain rfl | rfl | rfl : t = 27 ∨ t = 27 ∨ t = 24 := by simpa using Array.mem_of_getElem? ht
 ·exact (show Tryd.prog.wantsStandIn 27 = false by kernel_rfl)
 ·exact (show Tryd.prog.wantsStandIn 27 = false by kernel_rfl)
 ·exact (show Tryd.prog.wantsStandIn 24 = false by kernel_rfl)
theorem card : Rows.LinearSumsCardSaid :=
 Claim7.holds_tied_plain_at .later [] _ _ _ _ said (fun _ h => by cases h) (by kernel_rfl) (fun _ h => by cases h) linearSums_row_tie rfl ⟨rfl, rfl⟩ (by kernel_rfl) rfl plain (by kernel_rfl)
end Go.Proofs.YthpgjgmaamcaoaaDoor.lsums
namespace Go.Proofs.YthpgjgmaamcaoaaDoor
theorem linearSumsCard_holds : Rows.LinearSumsCardSaid := lsums.card
#print axioms linearSumsCard_holds
end Go.Proofs.YthpgjgmaamcaoaaDoor
end
