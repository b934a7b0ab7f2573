/- Walks and words of this session, put together by a program of this session (pack.py). Conditions: as each text says. -/
import Derived.RangeFuncNested
import Derived.Shelf.Strings.Builder1
import Derived.Shelf.Strings.BuilderF
import Derived.Shelf.Strings.BuilderK
import Derived.Shelf.Strconv.Itoa0
import Derived.Shelf.Strconv.Itoa1
import Derived.Shelf.LaysM
import Derived.Shelf.Strconv.Itoa2
import Derived.Shelf.Strconv.Itoa3
import Derived.Test.YthpgjgmaamcaoaaDoorProg
import Derived.Test.YthpgjgmaamcaoaaDoorE1
import Derived.Test.YthpgjgmaamcaoaaDoorE3
import Derived.Test.YthpgjgmaamcaoaaDoorE4
import Derived.Test.YthpgjgmaamcaoaaDoorE5
import Derived.Test.YthpgjgmaamcaoaaDoorE6
set_option linter.unusedVariables false
set_option linter.unusedSimpArgs false
section
namespace Go.Proofs.YthpgjgmaamcaoaaDoor.P
open Go.RowKit Go.Proofs.YthpgjgmaamcaoaaDoorW.PrintWords
section
variable {P : Program} {ops : Array Oper} {Q : Exit → Act → World → Prop}
def StepD (P : Program) (ops : Array Oper) (Q : Exit → Act → World → Prop) (a0 : Act) (C : World → Prop) (R : (Nat → Value) → Nat → Value → World → Prop) (i : Nat) : Prop :=
 ∀ o, ops[i]? = some o → ∀ (e : Nat → Value) (a : Act) (w : World), C w → (∀ x ∈ o.after, Region.binds .any x = true → R e x.on (e x.on) w ∧ ∀ t, (ops[x.on]?).bind (·.dst) = some t → a.tmps[t]? = some (e x.on)) →
  (∀ t, some t ∉ dsts ops → a.tmps[t]? = a0.tmps[t]?) → ∀ K : Act → World → Prop, (∀ v w', Below w.heap.size w w' → R e i v w' → K (a.put o.dst v) w') →
  if Region.wanted o (yielded ops a.tmps) = true then Oper.wp P o a w K Q else K (a.put o.dst undef) w
def FID (ops : Array Oper) (a0 : Act) (C : World → Prop) (R : (Nat → Value) → Nat → Value → World → Prop) (l : Array Bool) (a : Act) (w : World) : Prop :=
 l.size = ops.size ∧ Closed ops l ∧ C w ∧ ∃ e, a = fill (dsts ops) 0 e (lf l) a0 ∧ ∀ j, lf l j = true → R e j (e j) w
variable {a0 : Act} {C : World → Prop} {R : (Nat → Value) → Nat → Value → World → Prop}
theorem fid_step (hA : apart (dsts ops) = true) (hT : ∀ t, some t ∈ dsts ops → t < a0.tmps.size) (hC : ∀ w w', C w → Below w.heap.size w w' → C w') (hR : ∀ e j v w w', R e j v w → Below w.heap.size w w' → R e j v w') (hdep : ∀ i, i < ops.size → ∀ e e' : Nat → Value, (∀ j, j ∈ waits ops i → e j = e' j) → ∀ v w, R e i v w → R e' i v w)
  (hE : early ops = true) {l : Array Bool} {a : Act} {w : World} {i : Nat} (hI : FID ops a0 C R l a w) (hi : i ∈ Region.ready .any ops l) (hS : StepD P ops Q a0 C R i) {K : Act → World → Prop} (hK : ∀ a' w', FID ops a0 C R (l.setIfInBounds i true) a' w' → K a' w') : wpOp P ops Q i K a w := by
 obtain ⟨hs, hc, hCw, e, rfl, hr⟩ := hI;obtain ⟨o, ho, hli, hisz, hw⟩ := ready_mem hi hs;refine wpOp_step ho (fun K' hK' => ?_);refine hS o ho e _ w hCw (fun x hx hb => ⟨hr _ (hw x hx hb), fun t ht => ?_⟩) (fun t ht => fill_other _ 0 a0 ht) K' (fun v w' hb hv => hK' _ _ (hK _ _ ?_))
 ·cases hox : ops[x.on]? with
  | none => rw [hox] at ht; simp at ht
  | some y =>
   rw [hox] at ht;have hd := dst_at hox;rw [show y.dst = some t from ht] at hd;have := fill_at (e := e) (l := lf l) (dsts ops) 0 x.on a0 hA hd (by rw [Nat.zero_add]; exact hw x hx hb) (hT t (List.mem_of_getElem? hd));rw [Nat.zero_add] at this;exact this
 ·refine ⟨by simp [hs], ?_, hC _ _ hCw hb, fun j => if j = i then v else e j, ?_, fun j hj => ?_⟩
  ·intro k hk x hx
   rw [lf_set hisz] at hk ⊢
   dsimp only at hk ⊢
   by_cases hxi : x = i
   ·rw [if_pos hxi]
   ·rw [if_neg hxi]
    by_cases hki : k = i
    ·subst hki
     obtain ⟨o', ho', y, hy, hyb, rfl⟩ := waits_mem hx;obtain rfl := Option.some.inj (ho.symm.trans ho');exact hw y hy hyb
    ·rw [if_neg hki] at hk
     exact hc k hk x hx
  ·rw [lf_set hisz]
   have := fill_set (e := e) (l := lf l) (v := v) (dsts ops) 0 i a0 o.dst hA (dst_at ho) (by rw [Nat.zero_add]; exact hli)
   simpa using this
  ·have hdj : ∀ j, lf l j = true ∨ j = i → ∀ y, y ∈ waits ops j → (if y = i then v else e y) = e y := fun j hj y hy => by
    refine if_neg (fun hyi => ?_);rw [hyi] at hy
    rcases hj with hj | hj
    ·have := hc j hj i hy
     rw [hli] at this;cases this
    ·rw [hj] at hy
     obtain ⟨o', ho', z, hz, hzb, hzz⟩ := waits_mem hy;obtain rfl := Option.some.inj (ho.symm.trans ho');have h1 := List.all_eq_true.1 hE i (List.mem_range.2 (Array.getElem?_eq_some_iff.1 ho).1);rw [ho] at h1;simp only [Option.map_some, Option.getD_some] at h1;have h2 := Array.all_eq_true'.1 h1 z hz;simp only [hzb, Bool.not_true, Bool.false_or, decide_eq_true_eq] at h2
     omega
   rw [lf_set hisz] at hj
   dsimp only at hj
   by_cases hji : j = i
   ·subst hji
    refine hdep j (Array.getElem?_eq_some_iff.1 ho).1 e _ (fun y hy => (hdj j (.inr rfl) y hy).symm) _ _ ?_
    simpa using hv
   ·rw [if_neg hji] at hj
    have hjn : j < ops.size := by
     refine Classical.byContradiction fun hge => ?_
     unfold lf at hj;rw [Array.getD_eq_getD_getElem?, Array.getElem?_eq_none (by omega)] at hj;cases hj
    have h3 := hdep j hjn e (fun j => if j = i then v else e j) (fun y hy => (hdj j (.inl hj) y hy).symm) _ _ (hR e j _ _ _ (hr j hj) hb)
    simpa [hji] using h3
theorem fid_start {w0 : World} (h : C w0) : FID ops a0 C R (Array.replicate ops.size false) a0 w0 := by
 have hl : ∀ j, lf (Array.replicate ops.size false) j = false := fun j => by
  unfold lf;rw [Array.getD_eq_getD_getElem?];rw [Array.getElem?_replicate]
  split <;> rfl
 refine ⟨by simp, fun k hk => ?_, h, fun _ => undef, ?_, fun j hj => ?_⟩
 ·rw [hl] at hk; cases hk
 ·have : ∀ (D : List (Option Tmp)) (k : Nat), fill D k (fun _ => undef) (lf (Array.replicate ops.size false)) a0 = a0 := fun D => by
   induction D with
   | nil => intro _; rfl
   | cons d D ih => intro k; simp only [fill, hl, Bool.false_eq_true, if_false]; exact ih _
  rw [this]
 ·rw [hl] at hj; cases hj
theorem flowD_seq {m : Nat} (hmn : m < ops.size) (hM : (List.range m).all (marks ops m (waits ops m)).contains = true) (hCh : ∀ t, m < t → t < ops.size → (waits ops t).contains (t - 1) = true) (hSq : Region.seqB .any ops (ops.size - m) m (headArr ops.size m) = true) (hE : early ops = true) (hA : apart (dsts ops) = true) (hT : ∀ t, some t ∈ dsts ops → t < a0.tmps.size) (hC : ∀ w w', C w → Below w.heap.size w w' → C w') (hR : ∀ e j v w w', R e j v w → Below w.heap.size w w' → R e j v w') (hdep : ∀ i, i < ops.size → ∀ e e' : Nat → Value, (∀ j, j ∈ waits ops i → e j = e' j) → ∀ v w, R e i v w → R e' i v w)
  (hS : ∀ i, i < m → StepD P ops Q a0 C R i) (hQ : ∀ e w, C w → (∀ j, j < m → R e j (e j) w) → ∀ a, a = fill (dsts ops) 0 e (fun j => decide (j < m)) a0 → wpList P ops Q (ops.toList.drop m) a w) :
  ∀ fuel l a w, FID ops a0 C R l a w → (∀ t, m ≤ t → lf l t = false) → cnt (lf l) ops.size = fuel → wpAny P .any ops Q fuel l a w := by
 intro fuel
 induction fuel with
 | zero =>
  intro l a w hI hl hn;have := cnt_pos (hl m (Nat.le_refl _)) ops.size hmn
  omega
 | succ fuel ih =>
  intro l a w hI hl hn;by_cases hall : ∀ j, j < m → lf l j = true
  ·obtain ⟨hs, hc, hCw, e, rfl, hr⟩ := hI
   have hlh : ∀ j, j < ops.size → lf l j = decide (j < m) := fun j _ => by
    by_cases hj : j < m
    ·rw [hall j hj]; simp [hj]
    ·rw [hl j (by omega)]; simp [hj]
   have hle := head_eq hs hlh;have hcn := cnt_head ops.size hlh;rw [hcn] at hn
   have hlen : (ops.toList.drop m).length = fuel + 1 := by rw [List.length_drop, Array.length_toList]; exact hn
   rw [← hlen];refine wpAny_of_seq (ops.toList.drop m) m l _ w (fun j => by rw [List.getElem?_drop, Array.getElem?_toList]) (by rw [hlen, hle, ← hn]; exact hSq) ?_;exact hQ e w hCw (fun j hj => hr j (hall j hj)) _ (fill_congr _ 0 a0 (fun j _ hj => ⟨hlh j (by simpa [dsts] using hj), fun _ => rfl⟩))
  ·refine ⟨fun hr => ?_, fun i hi => ?_⟩
   ·have := ready_nil hr hE hI.1 m hmn
    rw [hl m (Nat.le_refl _)] at this;cases this
   ·obtain ⟨o, ho, hli, hisz, hw⟩ := ready_mem hi hI.1
    have hnx := cnt_next hi hI.1;have hilt := (Array.getElem?_eq_some_iff.1 ho).1
    have hwl : ∀ x, x ∈ waits ops i → lf l x = true := fun x hx => by
     obtain ⟨o', ho', y, hy, hyb, rfl⟩ := waits_mem hx;obtain rfl := Option.some.inj (ho.symm.trans ho');exact hw y hy hyb
    have him : i < m := by
     refine Classical.byContradiction fun hge => ?_
     by_cases e : i = m
     ·subst e
      exact hall (fun j hj => marks_listed hI.2.1 i _ hwl j (by simpa using List.all_eq_true.1 hM j (List.mem_range.2 hj)))
     ·have h1 := hwl (i - 1) (by simpa using hCh i (by omega) hilt)
      rw [hl (i - 1) (by omega)] at h1;cases h1
    refine fid_step hA hT hC hR hdep hE hI hi (hS i him) (fun a' w' hI' => ih _ a' w' hI' (fun t ht => ?_) (by omega));rw [lf_set hisz]
    dsimp only
    rw [if_neg (by omega)];exact hl t ht
def AtD (P : Program) (ops : Array Oper) (Q : Exit → Act → World → Prop) (D : List (Option Tmp)) (W : List (List Nat)) (a0 : Act) (C : World → Prop) (R : (Nat → Value) → Nat → Value → World → Prop) (i : Nat) : Prop :=
 ∀ (e : Nat → Value) (a : Act) (w : World), C w → (∀ j, j ∈ W.getD i [] → R e j (e j) w ∧ ∀ t, D[j]? = some (some t) → a.tmps[t]? = some (e j)) → (∀ t, some t ∉ D → a.tmps[t]? = a0.tmps[t]?) →
  ∀ K : Act → World → Prop, Sdq (∀ v w', Below w.heap.size w w' → R e i v w' → K (a.put (D.getD i none) v) w') →
  match ops[i]? with
  | some o => if Region.wanted o (yielded ops a.tmps) = true then Oper.wp P o a w K Q else K (a.put (D.getD i none) undef) w
  | none => True
theorem stepd_at {D : List (Option Tmp)} {W : List (List Nat)} (h : tabOf ops = (D, W)) {i : Nat} (hs : AtD P ops Q D W a0 C R i) : StepD P ops Q a0 C R i := by
 intro o ho e a w hC hd hb K hK;have hD : dsts ops = D := congrArg Prod.fst h;have hi := (Array.getElem?_eq_some_iff.1 ho).1;have := hs e a w hC (fun j hj => ?_) (fun t ht => hb t (by rw [hD]; exact ht)) K ⟨fun v w' h1 h2 => by rw [dst_tab h ho]; exact hK v w' h1 h2⟩
 ·rw [ho, dst_tab h ho] at this
  exact this
 ·rw [waits_tab h i hi] at hj
  obtain ⟨o', ho', y, hy, hyb, rfl⟩ := waits_mem hj;obtain rfl := Option.some.inj (ho.symm.trans ho');obtain ⟨h1, h2⟩ := hd y hy hyb;refine ⟨h1, fun t ht => h2 t ?_⟩
  cases hy2 : ops[y.on]? with
  | none =>
   rw [← hD] at ht;unfold dsts at ht;rw [List.getElem?_map, Array.getElem?_toList, hy2] at ht
   simp at ht
  | some oy =>
   have := dst_at hy2;rw [hD, ht] at this
   simpa using (Option.some.inj this).symm
theorem flowD {id m n : Nat} {w0 : World} {D : List (Option Tmp)} {W : List (List Nat)} (h : tabOf ops = (D, W)) (hn : ops.size = n) (C : World → Prop) (R : (Nat → Value) → Nat → Value → World → Prop) (hm : P.follows .mixedOrders = true)
  (hc : (earlyW W && apart D && D.all (fun d => (d.map fun t => decide (t < a0.tmps.size)).getD true) && (List.range m).all (marksW W m (W.getD m [])).contains && (List.range n).all (fun t => decide (t ≤ m) || (W.getD t []).contains (t - 1)) && decide (m < n)) = true) (hSq : Region.seqB .any ops (n - m) m (headArr n m) = true)
  (hC : ∀ w w', C w → Below w.heap.size w w' → C w') (hR : ∀ e j v w w', R e j v w → Below w.heap.size w w' → R e j v w') (hdep : ∀ i, i < n → ∀ e e' : Nat → Value, (∀ j, j ∈ W.getD i [] → e j = e' j) → ∀ v w, R e i v w → R e' i v w) (h0 : C w0)
  (hS : Steps (AtD P ops Q D W a0 C R) m) (hQ : ∀ e w, C w → Steps (fun j => R e j (e j) w) m → ∀ a, a = fill D 0 e (fun j => decide (j < m)) a0 → wpList P ops Q (ops.toList.drop m) a w) : (Code.region id ops true).wp P Q a0 w0 := by
 subst hn;simp only [Bool.and_eq_true, decide_eq_true_eq] at hc;have hD : dsts ops = D := congrArg Prod.fst h;refine wp_region_any hm (flowD_seq hc.2 (by rw [marks_tab h m _ (by omega), ← waits_tab h m hc.2]; exact hc.1.1.2) (fun t h1 h2 => ?_) hSq (early_tab h hc.1.1.1.1.1) (by rw [hD]; exact hc.1.1.1.1.2) (by rw [hD]; exact fun t ht => by have := List.all_eq_true.1 hc.1.1.1.2 _ ht; simpa using this) hC hR (fun i hi e e' he => hdep i hi e e' (fun j hj => he j (by rw [waits_tab h i hi] at hj; exact hj))) (fun i hi => stepd_at h (hS.all i hi)) (fun e w hCw hr a ha => ?_) _ _ _ _ (fid_start (hC _ _ h0 (below_drew (Below.refl _ _)))) (fun t _ => ?_) (cnt_none _ (fun j _ => ?_)))
 ·have := List.all_eq_true.1 hc.1.2 t (List.mem_range.2 h2)
  simp only [Bool.or_eq_true, decide_eq_true_eq] at this;rw [← waits_tab h t h2];exact this.resolve_left (by omega)
 ·rw [hD] at ha
  refine hQ e w hCw ?_ a ha
  have hall : ∀ n, n ≤ m → Steps (fun j => R e j (e j) w) n := fun n => by
   induction n with
   | zero => intro _; trivial
   | succ n ih => intro hn; exact ⟨ih (by omega), hr n (by omega)⟩
  exact hall _ (Nat.le_refl _)
 ·unfold lf; rw [Array.getD_eq_getD_getElem?, Array.getElem?_replicate]; split <;> rfl
 ·unfold lf; rw [Array.getD_eq_getD_getElem?, Array.getElem?_replicate]; split <;> rfl
theorem AtD.of {D : List (Option Tmp)} {W : List (List Nat)} {i : Nat} (o : Oper) (ho : ops[i]? = some o) (h : ∀ (e : Nat → Value) (a : Act) (w : World), C w → (∀ j, j ∈ W.getD i [] → R e j (e j) w ∧ ∀ t, D[j]? = some (some t) → a.tmps[t]? = some (e j)) → (∀ t, some t ∉ D → a.tmps[t]? = a0.tmps[t]?) →
  ∀ K : Act → World → Prop, Sdq (∀ v w', Below w.heap.size w w' → R e i v w' → K (a.put (D.getD i none) v) w') → if Region.wanted o (yielded ops a.tmps) = true then Oper.wp P o a w K Q else K (a.put (D.getD i none) undef) w) : AtD P ops Q D W a0 C R i := by
 intro e a w h1 h2 h3 K h4;rw [ho];exact h e a w h1 h2 h3 K h4
end
end Go.Proofs.YthpgjgmaamcaoaaDoor.P
end
section
namespace Go.Proofs.YthpgjgmaamcaoaaDoor.P
open Go.RowKit Go.Shelf Go.Proofs.YthpgjgmaamcaoaaDoorW.PrintWords Go.Proofs.YthpgjgmaamcaoaaDoorW.PrintLast Go.Proofs.YthpgjgmaamcaoaaDoorW.PrintMore Go.Proofs.YthpgjgmaamcaoaaDoor.Nm
set_option maxRecDepth 100000
set_option linter.unusedVariables false
set_option linter.unusedSimpArgs false
theorem lin_Add.tab1 : tabOf (opsOf Tryd.f18 1) = ([some 5, some 6, some 7, some 8, some 9, some 10, some 11, some 12, some 13, some 14, some 15, some 16, some 17, none], [[], [0], [], [2], [1, 3], [], [5], [6, 4], [], [8], [7, 9, 7], [4, 10], [11, 10], [12, 12, 0, 1, 2, 3, 4, 5, 6, 7, 8, 9, 10, 11, 12]]) := by kernel_rfl
theorem wpl_append_opt {P : Program} {ops : Array Oper} {rest : List Oper} {o : Oper} {a : Act} {Q : Exit → Act → World → Prop} {W : World} (hgd : o.guard = none) (s x : Operand) (t e : TypeId) (i0 : TypeInfo) (z : Value) (bytes : Nat)
  (ho : o.op = .call { callee := .builtin .append, args := #[s, x], argTypes := #[t, t] }) (ht : P.underlying t = some (.slice e)) (hi : P.info? e = some i0) (hz0 : i0.zero = some z) (hz1 : i0.size = 3) (hz2 : i0.bytes = bytes) (hz : z.cells.size = 3)
  (v : Value) (n : Nat) (xs : List Value) (A : Option Addr) (m c : Nat) (news : List Value) (hs : a.eval s = v) (hx : a.eval x = .slice A m c) (base : Nat) (hown : W.ownsRow base e 3 v n xs) (hl : news.length = m * 3)
  (hnews : ∀ ad, A = some ad → ∀ j u, news[j]? = some u → W.cell? (ad.add j) = some u) (hA : A = none → m = 0) (h1 : ∀ u ∈ news, u.oneCell' = true) (h63 : n + m ≤ maxLen) (hbytes : (n + m) * bytes ≤ 140737488355328) (hbase : base ≤ W.heap.size)
  (h : ∀ v' w', w'.ownsRow base e 3 v' (n + m) (xs ++ news) → W.grownBy w' v.ownBlock → wpList P ops Q rest (a.put o.dst v') w') : wpList P ops Q (o :: rest) a W := by
 have hrun : ∃ v1 w1, (Builtin.append_ #[t, t] o.type #[v, .slice A m c]).run P W = .ok v1 w1 ∧ w1.ownsRow base e 3 v1 (n + m) (xs ++ news) ∧ W.grownBy w1 v.ownBlock := by
  rcases A with _ | ad
  ·have h0 := hA rfl
   subst h0;obtain rfl : news = [] := List.eq_nil_of_length_eq_zero (by omega);refine ⟨v, W, ?_, by rw [List.append_nil]; exact hown, World.grownBy.refl W _⟩
   rcases hown.2 with ⟨rfl, hn⟩ | ⟨g, cap, cur, rfl, _, _, hnc, _⟩
   ·simp [Builtin.append_, run_underlying ht, sizeOf, typeInfo, hi, Builtin.lenOf, Builtin.firstCells]
   ·simp [Builtin.append_, run_underlying ht, sizeOf, typeInfo, hi, Builtin.lenOf, Builtin.firstCells, hnc, storeCells]
  ·obtain ⟨v1, w1, hrun, h2, hg, _, _⟩ := run_append_own_at (P := P) W base t o.type e i0 z 3 bytes ht hi hz0 hz1 hz2 hz (by decide) v n xs hown ad m c news hl (hnews ad rfl) h1 h63 hbytes hbase
   exact ⟨v1, w1, hrun, h2, hg⟩
 obtain ⟨v1, w1, hr, h2, h3⟩ := hrun
 refine wpList_plain hgd fun K hK => ?_
 unfold Oper.wp execOp;simp only [ho, resolve, invoke, builtin, Sem.run_bind, Sem.run_pure, Result.andThen_ok, List.map_toArray, List.map_cons, List.map_nil, hs, hx, hr];exact hK _ _ (h v1 w1 h2 h3)
def uClone (b : Nat) (xs : List S44) (c : S24) (z v : Value) : UpP := ⟨fun W => ∃ ps : PE, ps.map Prod.fst = xs ∧ Rp (fun k => k < b) W ps ∧ ∃ base, b < base ∧ base ≤ W.heap.size ∧ W.ownsRow base 44 3 v ps.length ((ps.map Prod.snd).flatMap El.cs) ∧ Kv k24 (fun k => k < base) W z c, fun W W' h hb => by
 obtain ⟨ps, h1, h2, base, h3, h4, h5, h6⟩ := h
 exact ⟨ps, h1, h2.below hb, base, h3, Nat.le_trans h4 hb.size, ownsRow_below h5 hb, h6.below hb⟩⟩
def RlD (l : List ((Nat → Value) → Value → UpP)) (e : Nat → Value) (j : Nat) (v : Value) (w : World) : Prop := match l[j]? with
 | some u => (u e v).p w
 | none => True
theorem RlD.up (l : List ((Nat → Value) → Value → UpP)) (e : Nat → Value) (j : Nat) (v : Value) (w w' : World) (h : RlD l e j v w) (hb : Below w.heap.size w w') : RlD l e j v w' := by
 unfold RlD at *
 split
 ·rename_i u hu
  rw [hu] at h;exact (u e v).up w w' h hb
 ·trivial
theorem row_form {W : World} {base n : Nat} {v : Value} {inner : List Value} (h : W.ownsRow base 44 3 v n inner) : ∃ LA lc, v = .slice LA n lc := by
 rcases h.2 with ⟨rfl, rfl⟩ | ⟨g, cap, cur, rfl, _⟩
 ·exact ⟨_, _, rfl⟩
 ·exact ⟨_, _, rfl⟩
set_option maxHeartbeats 3200000 in
theorem lin_Add (ok : Nat → Prop) (v u : Value) (x y : TB) (w0 : World) (hok : ∀ k, w0.heap.size ≤ k → ok k) (h : Kv kTB (fun _ => True) w0 v x) (h' : Kv kTB (fun _ => True) w0 u y) (hx : NIn x) (hy : NIn y) (hxy : x.f1.length + y.f1.length ≤ 39) (hcc : Big (can (bv x.f0 + bv y.f0))) :
  Calls Tryd.prog 18 #[v, u] w0 (KPost kTB ok w0 (tt (bv x.f0 + bv y.f0) (LnP.nrm (psB x.f1 ++ psB y.f1)))) := by
 obtain ⟨A, c, B, d, rfl, hk, hp⟩ := h.openTB;obtain ⟨A2, c2, B2, d2, rfl, hk2, hp2⟩ := h'.openTB;have C := Ctx.new (cs := [.bool false, .slice none 0 0, .slice none 0 0]) (t := 27) (Ctx.new (cs := [.bool y.f0.f0, .slice A2 y.f0.f1.length c2, .slice B2 y.f1.length d2]) (t := 27) (Ctx.new (cs := [.bool x.f0.f0, .slice A x.f0.f1.length c, .slice B x.f1.length d]) (t := 27) (Ctx.cons (uB w0) (Below.refl _ _) (Ctx.cons (uK k24 (fun _ => True) (.agg #[.bool x.f0.f0, .slice A x.f0.f1.length c]) x.f0) hk (Ctx.cons (uK k24 (fun _ => True) (.agg #[.bool y.f0.f0, .slice A2 y.f0.f1.length c2]) y.f0) hk2 (Ctx.cons (uCv k44 (fun k => k < w0.heap.size) x.f1 (.slice B x.f1.length d)) (hp.within (fun k _ h => h)) (Ctx.cons (uCv k44 (fun k => k < w0.heap.size) y.f1 (.slice B2 y.f1.length d2)) (hp2.within (fun k _ h => h)) Ctx.nil)))))));simp only [World.size_alloc] at C;have hx := Sdq.mk hx;have hy := Sdq.mk hy;have hok := Sdq.mk hok;have hxy := Sdq.mk hxy;have hcc := Sdq.mk hcc
 obtain ⟨rr, hrr⟩ : ∃ rr, rr = tt (bv x.f0 + bv y.f0) (LnP.nrm (psB x.f1 ++ psB y.f1)) := ⟨_, rfl⟩
 rw [← hrr];have HRR := Sdq.mk hrr;clear h h' hk hp hk2 hp2 hrr;go_enter Tryd.func18, Tryd.ntmps18
 go_upto_region 1 with fail
 refine absW _ C ?_;clear C;intro w1 C;refine flowD (m := 10) (n := 14) lin_Add.tab1 rfl (Ctx _) (RlD [fun _ => uEq (.pointer (some ⟨w0.heap.size, 0, none⟩)), fun _ => uEq (.agg #[.bool x.f0.f0, .slice A x.f0.f1.length c]), fun _ => uEq (.pointer (some ⟨w0.heap.size + 1, 0, none⟩)), fun _ => uEq (.agg #[.bool y.f0.f0, .slice A2 y.f0.f1.length c2]), fun _ => uKd k24 (fun k => w0.heap.size + 2 < k) (can (bv x.f0 + bv y.f0)), fun _ => uEq (.pointer (some ⟨w0.heap.size, 2, none⟩)), fun _ => uEq (.slice B x.f1.length d), fun e => uClone (w0.heap.size + 2) x.f1 (can (bv x.f0 + bv y.f0)) (e 4), fun _ => uEq (.pointer (some ⟨w0.heap.size + 1, 2, none⟩)), fun _ => uEq (.slice B2 y.f1.length d2)]) rfl (by kernel_rfl) (by kernel_rfl) (fun _ _ h hb => h.below hb) (RlD.up _) ?_ C ⟨⟨⟨⟨⟨⟨⟨⟨⟨⟨trivial, ?_⟩, ?_⟩, ?_⟩, ?_⟩, ?_⟩, ?_⟩, ?_⟩, ?_⟩, ?_⟩, ?_⟩ ?_
 ·intro i hi e e' he v w h
  have h14 : i = 0 ∨ i = 1 ∨ i = 2 ∨ i = 3 ∨ i = 4 ∨ i = 5 ∨ i = 6 ∨ i = 7 ∨ i = 8 ∨ i = 9 ∨ i = 10 ∨ i = 11 ∨ i = 12 ∨ i = 13 := by omega
  rcases h14 with rfl | rfl | rfl | rfl | rfl | rfl | rfl | rfl | rfl | rfl | rfl | rfl | rfl | rfl
  all_goals first | exact h | (have h4 := he 4 (by decide); show (uClone _ _ _ (e' 4) v).p w; rw [← h4]; exact h)
 ·refine AtD.of _ rfl (fun e_ a w hC hd hb K hK => ?_)
  have b2 : a.tmps[2]? = some (.pointer (some ⟨w0.heap.size, 0, none⟩)) := hb 2 (by decide);refine value_ (w1 := w) (v := .pointer (some ⟨w0.heap.size, 0, none⟩)) (by rfl) rfl ?_ (hK.out _ _ (Below.refl _ _) rfl);clear hC hd hb hK
  first | (go_simp; done) | (go_simp; rfl)
 ·refine AtD.of _ rfl (fun e_ a w hC hd hb K hK => ?_)
  have q5 := (hd 0 (by decide)).2 5 rfl;rw [show e_ 0 = _ from (hd 0 (by decide)).1] at q5;have cc0 : w.cell? ⟨w0.heap.size, 0, none⟩ = some (.bool x.f0.f0) := Ctx.blk hC.2.2.1 0 rfl;have cc1 : w.cell? ⟨w0.heap.size, 1, none⟩ = some (.slice A x.f0.f1.length c) := Ctx.blk hC.2.2.1 1 rfl;refine value_ (w1 := w) (v := .agg #[.bool x.f0.f0, .slice A x.f0.f1.length c]) (by rfl) rfl ?_ (hK.out _ _ (Below.refl _ _) rfl);clear hC hd hb hK
  first | (go_simp; done) | (go_simp; rfl)
 ·refine AtD.of _ rfl (fun e_ a w hC hd hb K hK => ?_)
  have b3 : a.tmps[3]? = some (.pointer (some ⟨w0.heap.size + 1, 0, none⟩)) := hb 3 (by decide);refine value_ (w1 := w) (v := .pointer (some ⟨w0.heap.size + 1, 0, none⟩)) (by rfl) rfl ?_ (hK.out _ _ (Below.refl _ _) rfl);clear hC hd hb hK
  first | (go_simp; done) | (go_simp; rfl)
 ·refine AtD.of _ rfl (fun e_ a w hC hd hb K hK => ?_)
  have q7 := (hd 2 (by decide)).2 7 rfl;rw [show e_ 2 = _ from (hd 2 (by decide)).1] at q7;have cc0 : w.cell? ⟨w0.heap.size + 1, 0, none⟩ = some (.bool y.f0.f0) := Ctx.blk hC.2.1 0 rfl;have cc1 : w.cell? ⟨w0.heap.size + 1, 1, none⟩ = some (.slice A2 y.f0.f1.length c2) := Ctx.blk hC.2.1 1 rfl;refine value_ (w1 := w) (v := .agg #[.bool y.f0.f0, .slice A2 y.f0.f1.length c2]) (by rfl) rfl ?_ (hK.out _ _ (Below.refl _ _) rfl);clear hC hd hb hK
  first | (go_simp; done) | (go_simp; rfl)
 ·refine AtD.of _ rfl (fun e_ a w hC hd hb K hK => ?_)
  have q6 := (hd 1 (by decide)).2 6 rfl;rw [show e_ 1 = _ from (hd 1 (by decide)).1] at q6;have q8 := (hd 3 (by decide)).2 8 rfl;rw [show e_ 3 = _ from (hd 3 (by decide)).1] at q8;refine goes_ Tryd.func38 (by kernel_rfl) rfl #[.agg #[.bool x.f0.f0, .slice A x.f0.f1.length c], .agg #[.bool y.f0.f0, .slice A2 y.f0.f1.length c2]] (by rfl) rfl rfl (by first | (simp [Act.eval, q6, q8]; done) | (simp [Act.eval, q6, q8]; rfl)) ?_;refine (big_Add (fun k => w0.heap.size + 2 < k) _ _ x.f0 y.f0 w (fun k hk => by have := blk_lt (show w.heap[w0.heap.size + 2]? = _ from hC.1); omega) hC.2.2.2.2.1 hC.2.2.2.2.2.1 hx.out.c hy.out.c).mono ?_;rintro en w' ⟨v, rfl, hv, hb'⟩;exact ⟨v, rfl, hK.out v w' hb' hv⟩
 ·refine AtD.of _ rfl (fun e_ a w hC hd hb K hK => ?_)
  have b2 : a.tmps[2]? = some (.pointer (some ⟨w0.heap.size, 0, none⟩)) := hb 2 (by decide);refine value_ (w1 := w) (v := .pointer (some ⟨w0.heap.size, 2, none⟩)) (by rfl) rfl ?_ (hK.out _ _ (Below.refl _ _) rfl);clear hC hd hb hK
  first | (go_simp; done) | (go_simp; rfl)
 ·refine AtD.of _ rfl (fun e_ a w hC hd hb K hK => ?_)
  have q10 := (hd 5 (by decide)).2 10 rfl;rw [show e_ 5 = _ from (hd 5 (by decide)).1] at q10;have cc2 : w.cell? ⟨w0.heap.size, 2, none⟩ = some (.slice B x.f1.length d) := Ctx.blk hC.2.2.1 2 rfl;refine value_ (w1 := w) (v := .slice B x.f1.length d) (by rfl) rfl ?_ (hK.out _ _ (Below.refl _ _) rfl);clear hC hd hb hK
  first | (go_simp; done) | (go_simp; rfl)
 ·refine AtD.of _ rfl (fun e_ a w hC hd hb K hK => ?_)
  have q11 := (hd 6 (by decide)).2 11 rfl;rw [show e_ 6 = _ from (hd 6 (by decide)).1] at q11;refine goes_ Tryd.func46 (by kernel_rfl) rfl #[.slice B x.f1.length d] (by rfl) rfl rfl (by first | (simp [Act.eval, q11]; done) | (simp [Act.eval, q11]; rfl)) ?_;obtain ⟨ps, hps, hR, hcl⟩ := sl_Clone (ok := fun k => k < w0.heap.size) _ x.f1 w hC.2.2.2.2.2.2.1 (by have := hx.out.few; omega);refine hcl.mono ?_;rintro en w' ⟨⟨hbw, v, rfl, hown⟩, -⟩;exact ⟨v, rfl, hK.out v w' hbw ⟨ps, hps, (hR.mono (fun k hk => by omega)).below hbw, w.heap.size, by have := blk_lt (show w.heap[w0.heap.size + 2]? = _ from hC.1); omega, hbw.size, hown, (((hd 4 (by decide)).1 : Kv _ _ _ _ _).within (fun k _ h => h)).below hbw⟩⟩
 ·refine AtD.of _ rfl (fun e_ a w hC hd hb K hK => ?_)
  have b3 : a.tmps[3]? = some (.pointer (some ⟨w0.heap.size + 1, 0, none⟩)) := hb 3 (by decide);refine value_ (w1 := w) (v := .pointer (some ⟨w0.heap.size + 1, 2, none⟩)) (by rfl) rfl ?_ (hK.out _ _ (Below.refl _ _) rfl);clear hC hd hb hK
  first | (go_simp; done) | (go_simp; rfl)
 ·refine AtD.of _ rfl (fun e_ a w hC hd hb K hK => ?_)
  have q13 := (hd 8 (by decide)).2 13 rfl;rw [show e_ 8 = _ from (hd 8 (by decide)).1] at q13;have cc2 : w.cell? ⟨w0.heap.size + 1, 2, none⟩ = some (.slice B2 y.f1.length d2) := Ctx.blk hC.2.1 2 rfl;refine value_ (w1 := w) (v := .slice B2 y.f1.length d2) (by rfl) rfl ?_ (hK.out _ _ (Below.refl _ _) rfl);clear hC hd hb hK
  first | (go_simp; done) | (go_simp; rfl)
 ·intro e_ w10 hC hr a ha
  obtain ⟨ps, hps, hR, base, hbase, hbs, hown, hz4⟩ := hr.1.1.2;obtain ⟨zA, zc, he4, zl, zF⟩ := Kv.openB hz4;have r9 : e_ 9 = .slice B2 y.f1.length d2 := hr.2;obtain ⟨LA, lc, he7⟩ := row_form hown;simp only [fill, Act.put, r9, he4, he7, Nat.reduceAdd, Nat.reduceLT, decide_true, decide_false, if_true, Bool.false_eq_true, if_false, List.setIfInBounds_toArray, List.set_cons_zero, List.set_cons_succ] at ha;subst ha;rw [he7] at hown;rw [he4] at hz4;clear hr r9 he4 he7;obtain ⟨B2', d2', e1, hdl, hF2⟩ := hC.2.2.2.2.2.2.2.1
  injection e1 with e2 _ e3
  subst e2;subst e3;obtain ⟨qs, hqs, hR2, hcell2⟩ := els_of hF2
  have hA2 : B2 = none → y.f1.length = 0 := fun h0 => by
   rcases Nat.eq_zero_or_pos y.f1.length with h1 | h1
   ·exact h1
   ·obtain ⟨ad, _, hA, _⟩ := Kd.F_get hF2 z44 (0 : Int) (by omega) (by omega)
    rw [h0] at hA; cases hA
  have hpl : ps.length = x.f1.length := by rw [← hps]; simp
  have hql : qs.length = y.f1.length := by rw [← hqs]; simp
  obtain ⟨i0, hi, hzz⟩ := Option.map_eq_some_iff.1 infoP;simp only [Prod.mk.injEq] at hzz;obtain ⟨hz1, hz2, hz3⟩ := hzz;have hHI := Sdq.mk (And.intro hi (And.intro hz1 (And.intro hz2 hz3)));have C := Sdq.mk hC;have hA2 := Sdq.mk hA2;have hcell2 := Sdq.mk hcell2;have hfl := Sdq.mk (show ((qs.map Prod.snd).flatMap El.cs).length = y.f1.length * 3 by rw [cs_flat, List.length_map, hql]);have hone := Sdq.mk (cs_one (qs.map Prod.snd));have hown := Sdq.mk hown;have hR := Sdq.mk hR;have hR2 := Sdq.mk hR2;have hpq := Sdq.mk (And.intro hps (And.intro hqs (And.intro hpl (And.intro hql (And.intro hbase hbs)))));have hzc := Sdq.mk (And.intro zl zF);have h39 := Sdq.mk (show ps.length + y.f1.length ≤ 39 by rw [hpl]; exact hxy.out);clear hi hz1 hz2 hz3 hC hF2 hdl hps hqs hpl hql hbase hbs zl zF;simp only [List.drop_succ_cons, List.drop_zero]
  have hNm := Sdq.mk (fun (w11 : World) (L1 : Option Addr) (l1 : Nat) (ho : w11.ownsRow base 44 3 (.slice L1 (ps.length + y.f1.length) l1) (ps.length + y.f1.length) ((ps.map Prod.snd).flatMap El.cs ++ (qs.map Prod.snd).flatMap El.cs)) (hg : w10.grownBy w11 (Value.slice LA ps.length lc).ownBlock) => (show Calls Tryd.prog 17 #[.agg #[.bool (can (bv x.f0 + bv y.f0)).f0, .slice zA (can (bv x.f0 + bv y.f0)).f1.length zc, .slice L1 (ps.length + y.f1.length) l1]] w11 (KPost kTB (fun k => ok k ∧ k ≠ w0.heap.size + 2) w11 rr) ∧ (uBlk (w0.heap.size + 2) [.bool false, .slice none 0 0, .slice none 0 0] 27).p w11 ∧ Below w0.heap.size w0 w11 from by
   obtain ⟨hps, hqs, hpl, hql, hbase, hbs⟩ := hpq.out
   have hob : ∀ k, k < base → some k ≠ (Value.slice LA ps.length lc).ownBlock := fun k hk he => by
    rcases hown.out.2 with ⟨h3, _⟩ | ⟨g', cap', cur, h3, hb, _⟩
    ·rw [h3] at he; cases he
    ·rw [h3] at he; simp only [Value.ownBlock, Option.some.injEq] at he; omega
   have hBW : ∀ k, k < base → w11.heap[k]? = w10.heap[k]? := fun k hk => hg.block k (Nat.lt_of_lt_of_le hk hbs) (hob k hk)
   have hres := (hBW _ hbase).trans C.out.1
   have hbel : Below w0.heap.size w0 w11 := C.out.2.2.2.1.grown hg C.out.2.2.2.1.size (fun k hk => by
    refine Classical.byContradiction fun hn => ?_
    exact hob k (by omega) hk.symm)
   have hrow := ns_row (W := w11) (base := base) (O := fun _ => True) (pv := .slice L1 (ps.length + y.f1.length) l1) (os := (ps ++ qs).map Prod.snd) (xs := (ps ++ qs).map Prod.fst) (by rw [List.map_append, List.flatMap_append, List.length_append, List.length_map, List.length_map, hql]; exact ho) (fun _ _ => trivial) (by simp) (by have := h39.out; simp; omega) (fun i z e hz he => by
    rw [List.getElem?_map] at hz he;obtain ⟨p, hp, rfl⟩ := Option.map_eq_some_iff.1 hz;rw [hp] at he;simp only [Option.map_some, Option.some.injEq] at he;subst he
    rcases List.mem_append.1 (List.mem_of_getElem? hp) with h | h
    ·exact Kd.FK_mono (Kd.FK_step (hR.out p h) (fun k hk _ => hBW k (by omega))) (fun _ _ => trivial)
    ·exact Kd.FK_mono (Kd.FK_step (hR2.out p h) (fun k hk _ => hBW k (by omega))) (fun _ _ => trivial))
   rw [List.map_append, hps, hqs] at hrow;obtain ⟨B3, d3, e3, l3, F3⟩ := hrow;simp only [Value.slice.injEq] at e3;obtain ⟨rfl, hlen, rfl⟩ := e3;refine ⟨?_, hres, hbel⟩
   have hkv : Kv kTB (fun _ => True) w11 (.agg #[.bool (can (bv x.f0 + bv y.f0)).f0, .slice zA (can (bv x.f0 + bv y.f0)).f1.length zc, .slice L1 (ps.length + y.f1.length) l1]) ⟨can (bv x.f0 + bv y.f0), x.f1 ++ y.f1⟩ := by
    rw [hlen];exact ⟨_, rfl, kTB_mkF w11 _ ⟨can (bv x.f0 + bv y.f0), x.f1 ++ y.f1⟩ hzc.out.1 (Kd.F_mono (Kd.F_step hzc.out.2 (fun k hk _ => hBW k hk)) (fun _ _ => trivial)) l3 F3⟩
   have h1 := lin_Norm (fun k => ok k ∧ k ≠ w0.heap.size + 2) _ _ w11 (fun k hk => by have h1 := blk_lt (show w11.heap[w0.heap.size + 2]? = _ from hres); exact ⟨hok.out k (by omega), by omega⟩) hkv ⟨by have := hxy.out; simpa using this, hcc.out, fun p hp => (List.mem_append.1 hp).elim (hx.out.dg p) (hy.out.dg p), fun p hp => (List.mem_append.1 hp).elim (hx.out.len p) (hy.out.len p)⟩;rw [HRR.out]
   dsimp only at h1
   rw [bv_can, show psB (x.f1 ++ y.f1) = psB x.f1 ++ psB y.f1 from List.map_append ..] at h1
   exact h1))
  clear hR hR2 hzc
  go_wp2_with (first
   | ((with_reducible refine gate_builtin (b := .append) (xs := #[.tmp 12, .tmp 14]) rfl ?_); at_builtin; go_loud (refine wpl_append_opt rfl (.tmp 12) (.tmp 14) 25 44 i0 _ 40 rfl undP hHI.out.1 hHI.out.2.1 hHI.out.2.2.1 hHI.out.2.2.2 rfl (.slice LA ps.length lc) ps.length ((ps.map Prod.snd).flatMap El.cs) B2 y.f1.length d2 ((qs.map Prod.snd).flatMap El.cs) rfl rfl base hown.out hfl.out hcell2.out hA2.out hone.out (by have := h39.out; simp only [maxLen]; omega) (by have := h39.out; omega) hpq.out.2.2.2.2.2 ?_; intro v1 w11 hown1 hg1; obtain ⟨L1, l1, hv1⟩ := row_form hown1; subst hv1; have hNw := hNm.out w11 L1 l1 hown1 hg1; clear hown1 hg1; obtain ⟨hN1, hN2, hN3⟩ := hNw; have hN2 := Sdq.mk hN2; have hN3 := Sdq.mk hN3))
   | (go_at_call 17; refine hN1.mono ?_; rintro e2 w2 ⟨v2, rfl, hv2, hb2⟩; obtain ⟨yA, yc, yB, yd, rfl, -, -⟩ := hv2.openTB; have hC3 := And.intro ((uBlk _ _ _).up _ _ hN2.out hb2) (below_step hN3.out hb2); have E := Sdq.mk (end3 (O := fun k => ok k ∧ k ≠ w0.heap.size + 2) (ok := ok) hC3.1 hC3.2 (by omega) (fun k hk => hk) hv2 _ rfl); have r0 := Ctx.blk hC3.1 0 rfl; have r1 := Ctx.blk hC3.1 1 rfl; have r2 := Ctx.blk hC3.1 2 rfl; have f0 := Ctx.frz hC3.1 0; have f1 := Ctx.frz hC3.1 1; have f2 := Ctx.frz hC3.1 2; clear hC3 hv2 hb2))
  have E := E.out;clear r0 r1 r2 f0 f1 f2;generalize World.setCell _ _ _ = wf at E ⊢;obtain ⟨EP, e0, e1, e2⟩ := E;exact bodyPost_ret (by first | (simp [results, Tryd.results18, go_sem, e0, e1, e2]; done) | (simp [results, Tryd.results18, go_sem, e0, e1, e2]; rfl)) rfl EP
end Go.Proofs.YthpgjgmaamcaoaaDoor.P
end
section
namespace Go.Proofs.YthpgjgmaamcaoaaDoor.LnP
theorem one_mem : ∀ {l : Ps}, One l → ∀ p ∈ l, cf l p.1 = p.2
 | q :: r, h, p, hp => by
  rcases List.mem_cons.1 hp with rfl | hp
  ·exact h.head
  ·have h1 := (List.pairwise_cons.1 h.1).1 p hp
   rw [cf_cons, if_neg (by omega), Int.zero_add];exact one_mem h.tail p hp
theorem cf_abs {K : Int} (hK : 0 ≤ K) : ∀ {l : Ps}, (∀ p ∈ l, (p.2.natAbs : Int) ≤ K) → ∀ v, ((cf l v).natAbs : Int) ≤ l.length * K
 | [], _, v => by simp [cf]
 | q :: r, h, v => by
  have h1 := cf_abs hK (l := r) (fun p hp => h p (List.mem_cons_of_mem _ hp)) v;have h2 := h q (List.mem_cons_self ..);rw [cf_cons, List.length_cons, Int.natCast_add, Int.add_mul, show ((1 : Nat) : Int) * K = K by simp]
  split <;> omega
theorem nrm_abs {K : Int} (hK : 0 ≤ K) {l : Ps} (h : ∀ p ∈ l, (p.2.natAbs : Int) ≤ K) : ∀ p ∈ nrm l, (p.2.natAbs : Int) ≤ l.length * K := fun p hp => by
 rw [← one_mem (nrm_one l) p hp, cf_nrm];exact cf_abs hK h p.1
theorem ins_len (p : Int × Int) : ∀ r : Ps, (ins p r).length ≤ r.length + 1
 | [] => by unfold ins; split <;> simp
 | q :: r => by
  have := ins_len p r;unfold ins
  split
  ·split <;> simp
  ·split
   ·split <;> simp <;> omega
   ·simp; omega
theorem nrm_len : ∀ l : Ps, (nrm l).length ≤ l.length
 | [] => Nat.le_refl _
 | p :: r => by
  have h1 := nrm_len r;have h2 := ins_len p (nrm r)
  show (ins p (nrm r)).length ≤ _
  simp only [List.length_cons]
  omega
end Go.Proofs.YthpgjgmaamcaoaaDoor.LnP
end
section
namespace Go.Proofs.YthpgjgmaamcaoaaDoor.P
open Go.RowKit Go.Shelf Go.Proofs.YthpgjgmaamcaoaaDoorW.PrintWords Go.Proofs.YthpgjgmaamcaoaaDoorW.PrintLast Go.Proofs.YthpgjgmaamcaoaaDoorW.PrintMore Go.Proofs.YthpgjgmaamcaoaaDoor.Nm
set_option maxRecDepth 100000
set_option linter.unusedVariables false
set_option linter.unusedSimpArgs false
theorem kv_num {O : Nat → Prop} {W : World} {b : Bool} {A : Option Addr} {c : Nat} {x : S24} (h : Kv k24 O W (.agg #[.bool b, .slice A x.f1.length c]) x) : Kv kTB O W (.agg #[.bool b, .slice A x.f1.length c, .slice none 0 0]) ⟨x, []⟩ := by
 obtain ⟨A', c', he, hl, hF⟩ := h.openB;simp only [Value.agg.injEq, Array.mk.injEq, List.cons.injEq, Value.bool.injEq, Value.slice.injEq, and_true, true_and] at he;obtain ⟨hcb, rfl, rfl⟩ := he;subst hcb;exact ⟨_, rfl, kTB_mkF W _ ⟨x, []⟩ hl hF (Nat.le_refl _) (Kd.F_nil _ _ _)⟩
set_option maxHeartbeats 1600000 in
theorem lin_Of (ok : Nat → Prop) (v : Value) (x : S24) (w0 : World) (hok : ∀ k, w0.heap.size ≤ k → ok k) (h : Kv k24 (fun _ => True) w0 v x) (hx : Big x) :
  Calls Tryd.prog 43 #[v] w0 (KPost kTB ok w0 (tt (bv x) [])) := by
 obtain ⟨xA, xc, rfl, xl, xF⟩ := h.openB;have C := Ctx.new (cs := [.bool false, .slice none 0 0, .slice none 0 0]) (t := 27) (Ctx.new (cs := [.bool x.f0, .slice xA x.f1.length xc]) (t := 24) (Ctx.cons (uB w0) (Below.refl _ _) (Ctx.cons (uK k24 (fun _ => True) (.agg #[.bool x.f0, .slice xA x.f1.length xc]) x) h Ctx.nil)));simp only [World.size_alloc] at C;have hx := Sdq.mk hx;have hok := Sdq.mk hok
 obtain ⟨r, hr⟩ : ∃ r, r = tt (bv x) [] := ⟨_, rfl⟩
 rw [← hr];have HR := Sdq.mk (show (⟨can (bv x), []⟩ : TB) = r from hr.symm);clear h hr xl xF;go_enter Tryd.func43, Tryd.ntmps43
 go_upto_region 1 with fail
 refine absW _ C ?_;clear C;intro w1 C;have y0 := Ctx.blk C.2.1 0 rfl;have y1 := Ctx.blk C.2.1 1 rfl;have hN := big_Norm (fun k => ok k ∧ k ≠ w0.heap.size + 1) (.agg #[.bool x.f0, .slice xA x.f1.length xc]) x w1 (fun k hk => by have := blk_lt (show w1.heap[w0.heap.size + 1]? = _ from C.1); exact ⟨hok.out k (by omega), by omega⟩) C.2.2.2.1 hx.out;have C := Sdq.mk C;go_wp2_with (go_at_call 50; refine hN.mono ?_; rintro e2 w2 ⟨v2, rfl, hv2, hb2⟩; obtain ⟨yA, yc, rfl, -, -⟩ := hv2.openB; have hk2 := kv_num hv2; rw [HR.out] at hk2; have C3 := C.out.below hb2; have E := Sdq.mk (end3 (O := fun k => ok k ∧ k ≠ w0.heap.size + 1) (ok := ok) C3.1 C3.2.2.1 (by omega) (fun k hk => hk) hk2 _ rfl); have r0 := Ctx.blk C3.1 0 rfl; have r1 := Ctx.blk C3.1 1 rfl; have r2 := Ctx.blk C3.1 2 rfl; have f0 := Ctx.frz C3.1 0; have f1 := Ctx.frz C3.1 1; have f2 := Ctx.frz C3.1 2; clear C3 hv2 hk2 hb2);have E := E.out;clear r0 r1 r2 f0 f1 f2;generalize World.setCell _ _ _ = wf at E ⊢;obtain ⟨EP, e0, e1, e2⟩ := E;exact bodyPost_ret (by first | (simp [results, Tryd.results43, go_sem, e0, e1, e2]; done) | (simp [results, Tryd.results43, go_sem, e0, e1, e2]; rfl)) rfl EP
end Go.Proofs.YthpgjgmaamcaoaaDoor.P
end
section
namespace Go.Proofs.YthpgjgmaamcaoaaDoor.P
open Go.RowKit Go.Shelf Go.Proofs.YthpgjgmaamcaoaaDoorW.PrintWords Go.Proofs.YthpgjgmaamcaoaaDoorW.PrintLast Go.Proofs.YthpgjgmaamcaoaaDoorW.PrintMore Go.Proofs.YthpgjgmaamcaoaaDoor.Nm
set_option maxRecDepth 100000
set_option linter.unusedVariables false
set_option linter.unusedSimpArgs false
theorem lin_Sub.tab1 : tabOf (opsOf Tryd.f19 1) = ([some 5, some 6, some 7, some 8, some 9, none], [[], [], [], [1, 2, 2], [0, 3, 3], [4, 4, 0, 1, 2, 3, 4]]) := by kernel_rfl
theorem psB_cp (ps : LnP.Ps) : psB (ps.map cp) = ps := by
 unfold psB cp;rw [List.map_map]
 have : ∀ l : LnP.Ps, l.map ((fun p : S44 => (p.f0, bv p.f1)) ∘ fun p : Int × Int => (⟨p.1, can p.2⟩ : S44)) = l := fun l => by
  induction l with
  | nil => rfl
  | cons p l ih => rw [List.map_cons, ih]; simp [bv_can]
 exact this ps
theorem nrm_app (a b : LnP.Ps) : LnP.nrm (a ++ LnP.nrm b) = LnP.nrm (a ++ b) := LnP.nrm_congr (fun v => by rw [LnP.cf_append, LnP.cf_append, LnP.cf_nrm])
theorem len_can {n : Int} {L : Nat} (h : (n.natAbs : Int) ≤ 39 * B32 ^ L) : (can n).f1.length ≤ L + 1 := by
 refine can_len ?_;have hp := pow_pos' (B := B32) (by decide) L;rw [Int.pow_succ];generalize B32 ^ L = K at *;unfold B32
 omega
theorem sin_nin {x : TB} (h : SIn x) : NIn x := ⟨h.few, ⟨h.c.1, by have := h.c.2; omega⟩, fun p hp => (h.p p hp).1, fun p hp => by have := (h.p p hp).2; omega⟩
theorem sub_few (y : TB) : (tt (bv y.f0 * bv (can (-1))) (LnP.nrm ((psB y.f1).map (fun p : Int × Int => (p.1, p.2 * bv (can (-1))))))).f1.length ≤ y.f1.length := by
 have := LnP.nrm_len ((psB y.f1).map (fun p : Int × Int => (p.1, p.2 * bv (can (-1)))));simp only [List.length_map] at this
 show (List.map cp _).length ≤ _
 rw [List.length_map];unfold psB at this ⊢
 simpa using this
theorem sub_nin {y : TB} (h : SIn y) : NIn (tt (bv y.f0 * bv (can (-1))) (LnP.nrm ((psB y.f1).map (fun p : Int × Int => (p.1, p.2 * bv (can (-1))))))) := by
 have h1 : (can (-1)).f1.length ≤ 400 := by decide
 refine ⟨Nat.le_trans (sub_few y) h.few, ⟨can_dg _, Nat.le_trans (mul_len h.c ⟨can_dg _, h1⟩) (by decide)⟩, fun p hp => ?_, fun p hp => ?_⟩
 ·obtain ⟨z, _, rfl⟩ := List.mem_map.1 hp
  exact can_dg _
 ·obtain ⟨z, hz, rfl⟩ := List.mem_map.1 hp
  have hK : (0 : Int) ≤ B32 ^ 400 := Int.le_of_lt (pow_pos' (B := B32) (by decide) 400)
  have h2 := LnP.nrm_abs hK (fun p hp => by
   obtain ⟨q, hq, rfl⟩ := List.mem_map.1 hp;unfold psB at hq;obtain ⟨r, hr, rfl⟩ := List.mem_map.1 hq;have := abs_lt' (h.p r hr).1 (h.p r hr).2;rw [bv_can]
   show (((bv r.f1) * -1).natAbs : Int) ≤ _
   omega) z hz
  have h3 : (((psB y.f1).map (fun p : Int × Int => (p.1, p.2 * bv (can (-1))))).length : Int) ≤ 39 := by
   have := h.few;unfold psB
   simp
   omega
  have h4 := Int.mul_le_mul_of_nonneg_right h3 hK;exact Nat.le_trans (len_can (L := 400) (by omega)) (by decide)
theorem sub_big {x y : TB} (hx : SIn x) (hy : SIn y) : Big (can (bv x.f0 + bv (tt (bv y.f0 * bv (can (-1))) (LnP.nrm ((psB y.f1).map (fun p : Int × Int => (p.1, p.2 * bv (can (-1))))))).f0)) := by
 refine ⟨can_dg _, Nat.le_trans (len_can (L := 400) ?_) (by decide)⟩;have h1 := abs_lt' hx.c.1 hx.c.2;have h2 := abs_lt' hy.c.1 hy.c.2
 show ((bv x.f0 + bv (can (bv y.f0 * bv (can (-1))))).natAbs : Int) ≤ _
 rw [bv_can, bv_can];generalize B32 ^ 400 = K at *
 omega
set_option maxHeartbeats 1600000 in
theorem lin_Sub (ok : Nat → Prop) (v u : Value) (x y : TB) (w0 : World) (hok : ∀ k, w0.heap.size ≤ k → ok k) (h : Kv kTB (fun _ => True) w0 v x) (h' : Kv kTB (fun _ => True) w0 u y) (hx : SIn x) (hy : SIn y) (hxy : x.f1.length + y.f1.length ≤ 39) :
  Calls Tryd.prog 19 #[v, u] w0 (KPost kTB ok w0 (tt (bv x.f0 - bv y.f0) (LnP.nrm (psB x.f1 ++ (psB y.f1).map (fun p : Int × Int => (p.1, -p.2)))))) := by
 obtain ⟨A, c, B, d, rfl, -, -⟩ := h.openTB;obtain ⟨A2, c2, B2, d2, rfl, -, -⟩ := h'.openTB;have C := Ctx.new (cs := [.bool false, .slice none 0 0, .slice none 0 0]) (t := 27) (Ctx.new (cs := [.bool y.f0.f0, .slice A2 y.f0.f1.length c2, .slice B2 y.f1.length d2]) (t := 27) (Ctx.new (cs := [.bool x.f0.f0, .slice A x.f0.f1.length c, .slice B x.f1.length d]) (t := 27) (Ctx.cons (uB w0) (Below.refl _ _) (Ctx.cons (uK kTB (fun _ => True) (.agg #[.bool x.f0.f0, .slice A x.f0.f1.length c, .slice B x.f1.length d]) x) h (Ctx.cons (uK kTB (fun _ => True) (.agg #[.bool y.f0.f0, .slice A2 y.f0.f1.length c2, .slice B2 y.f1.length d2]) y) h' Ctx.nil)))));simp only [World.size_alloc] at C;have hx := Sdq.mk hx;have hy := Sdq.mk hy;have hok := Sdq.mk hok;have hxy := Sdq.mk hxy
 obtain ⟨rr, hrr⟩ : ∃ rr, rr = tt (bv x.f0 - bv y.f0) (LnP.nrm (psB x.f1 ++ (psB y.f1).map (fun p : Int × Int => (p.1, -p.2)))) := ⟨_, rfl⟩
 rw [← hrr]
 have HRR := Sdq.mk (show tt (bv x.f0 + bv (tt (bv y.f0 * bv (can (-1))) (LnP.nrm ((psB y.f1).map (fun p : Int × Int => (p.1, p.2 * bv (can (-1))))))).f0) (LnP.nrm (psB x.f1 ++ psB (tt (bv y.f0 * bv (can (-1))) (LnP.nrm ((psB y.f1).map (fun p : Int × Int => (p.1, p.2 * bv (can (-1))))))).f1)) = rr by
  rw [hrr];unfold tt;rw [psB_cp, nrm_app, bv_can, bv_can]
  have m : (psB y.f1).map (fun p : Int × Int => (p.1, p.2 * (-1))) = (psB y.f1).map (fun p : Int × Int => (p.1, -p.2)) := List.map_congr_left (fun p _ => by
   show (p.1, p.2 * -1) = (p.1, -p.2)
   rw [show p.2 * -1 = -p.2 by omega])
  rw [m, show bv x.f0 + bv y.f0 * -1 = bv x.f0 - bv y.f0 by omega])
 clear h h' hrr;go_enter Tryd.func19, Tryd.ntmps19
 go_upto_region 1 with fail
 refine absW _ C ?_;clear C;intro w1 C;refine flowS (m := 5) (n := 6) lin_Sub.tab1 rfl (Ctx _) (Rl [uEq (.agg #[.bool x.f0.f0, .slice A x.f0.f1.length c, .slice B x.f1.length d]), uEq (.agg #[.bool y.f0.f0, .slice A2 y.f0.f1.length c2, .slice B2 y.f1.length d2]), uKd k24 (fun _ => True) (can (-1)), uKd kTB (fun _ => True) (tt (bv y.f0 * bv (can (-1))) (LnP.nrm ((psB y.f1).map (fun p : Int × Int => (p.1, p.2 * bv (can (-1))))))), uKd kTB (fun k => ok k ∧ k ≠ w0.heap.size + 2) rr]) rfl (by kernel_rfl) (by kernel_rfl) (fun _ _ h hb => h.below hb) (Rl.up _) C ⟨⟨⟨⟨⟨trivial, ?_⟩, ?_⟩, ?_⟩, ?_⟩, ?_⟩ ?_
 ·refine At.of _ rfl (fun e_ a w hC hd hb K hK => ?_)
  have b2 : a.tmps[2]? = some (.pointer (some ⟨w0.heap.size, 0, none⟩)) := hb 2 (by decide);have cc0 : w.cell? ⟨w0.heap.size, 0, none⟩ = some (.bool x.f0.f0) := Ctx.blk hC.2.2.1 0 rfl;have cc1 : w.cell? ⟨w0.heap.size, 1, none⟩ = some (.slice A x.f0.f1.length c) := Ctx.blk hC.2.2.1 1 rfl;have cc2 : w.cell? ⟨w0.heap.size, 2, none⟩ = some (.slice B x.f1.length d) := Ctx.blk hC.2.2.1 2 rfl;refine value_ (w1 := w) (v := .agg #[.bool x.f0.f0, .slice A x.f0.f1.length c, .slice B x.f1.length d]) (by rfl) rfl ?_ (hK.out _ _ (Below.refl _ _) rfl);clear hC hd hb hK
  first | (go_simp; done) | (go_simp; rfl)
 ·refine At.of _ rfl (fun e_ a w hC hd hb K hK => ?_)
  have b3 : a.tmps[3]? = some (.pointer (some ⟨w0.heap.size + 1, 0, none⟩)) := hb 3 (by decide);have cc0 : w.cell? ⟨w0.heap.size + 1, 0, none⟩ = some (.bool y.f0.f0) := Ctx.blk hC.2.1 0 rfl;have cc1 : w.cell? ⟨w0.heap.size + 1, 1, none⟩ = some (.slice A2 y.f0.f1.length c2) := Ctx.blk hC.2.1 1 rfl;have cc2 : w.cell? ⟨w0.heap.size + 1, 2, none⟩ = some (.slice B2 y.f1.length d2) := Ctx.blk hC.2.1 2 rfl;refine value_ (w1 := w) (v := .agg #[.bool y.f0.f0, .slice A2 y.f0.f1.length c2, .slice B2 y.f1.length d2]) (by rfl) rfl ?_ (hK.out _ _ (Below.refl _ _) rfl);clear hC hd hb hK
  first | (go_simp; done) | (go_simp; rfl)
 ·refine At.of _ rfl (fun e_ a w hC hd hb K hK => ?_)
  refine goes_ Tryd.func41 (by kernel_rfl) rfl #[.int .i64 (-1)] (by rfl) rfl rfl (by first | (simp [Act.eval]; done) | (simp [Act.eval]; rfl)) ?_;refine (big_Of (fun _ => True) (-1) w (fun _ _ => trivial) (by decide) (by decide)).mono ?_;rintro en w' ⟨v, rfl, hv, hb'⟩;exact ⟨v, rfl, hK.out v w' hb' hv⟩
 ·refine At.of _ rfl (fun e_ a w hC hd hb K hK => ?_)
  have q6 := (hd 1 (by decide)).2 6 rfl;rw [show e_ 1 = _ from (hd 1 (by decide)).1] at q6;have q7 := (hd 2 (by decide)).2 7 rfl;refine goes_ Tryd.func24 (by kernel_rfl) rfl #[.agg #[.bool y.f0.f0, .slice A2 y.f0.f1.length c2, .slice B2 y.f1.length d2], e_ 2] (by rfl) rfl rfl (by first | (simp [Act.eval, q6, q7]; done) | (simp [Act.eval, q6, q7]; rfl)) ?_;refine (lin_Scale (fun _ => True) _ _ y (can (-1)) w (fun _ _ => trivial) hC.2.2.2.2.2.1 (hd 2 (by decide)).1 hy.out ⟨can_dg _, by decide⟩).mono ?_;rintro en w' ⟨v, rfl, hv, hb'⟩;exact ⟨v, rfl, hK.out v w' hb' hv⟩
 ·refine At.of _ rfl (fun e_ a w hC hd hb K hK => ?_)
  have q5 := (hd 0 (by decide)).2 5 rfl;rw [show e_ 0 = _ from (hd 0 (by decide)).1] at q5;have q8 := (hd 3 (by decide)).2 8 rfl;refine goes_ Tryd.func18 (by kernel_rfl) rfl #[.agg #[.bool x.f0.f0, .slice A x.f0.f1.length c, .slice B x.f1.length d], e_ 3] (by rfl) rfl rfl (by first | (simp [Act.eval, q5, q8]; done) | (simp [Act.eval, q5, q8]; rfl)) ?_;have h1 := lin_Add (fun k => ok k ∧ k ≠ w0.heap.size + 2) _ _ x (tt (bv y.f0 * bv (can (-1))) (LnP.nrm ((psB y.f1).map (fun p : Int × Int => (p.1, p.2 * bv (can (-1))))))) w (fun k hk => by have := blk_lt (show w.heap[w0.heap.size + 2]? = _ from hC.1); exact ⟨hok.out k (by omega), by omega⟩) hC.2.2.2.2.1 (hd 3 (by decide)).1 (sin_nin hx.out) (sub_nin hy.out) (by have h1 := hxy.out; have h2 := sub_few y; omega) (sub_big hx.out hy.out);rw [HRR.out] at h1;refine h1.mono ?_;rintro en w' ⟨v, rfl, hv, hb'⟩;exact ⟨v, rfl, hK.out v w' hb' hv⟩
 ·intro e_ w2 hC hr a ha
  obtain ⟨yA, yc, yB, yd, he4, -, -⟩ := Kv.openTB hr.2;have hv2 : Kv kTB (fun k => ok k ∧ k ≠ w0.heap.size + 2) w2 (e_ 4) rr := hr.2;rw [he4] at hv2;simp only [fill, Act.put, he4, Nat.reduceAdd, Nat.reduceLT, decide_true, decide_false, if_true, Bool.false_eq_true, if_false, List.setIfInBounds_toArray, List.set_cons_zero, List.set_cons_succ] at ha;subst ha;clear hr he4;have E := Sdq.mk (end3 (O := (fun k => ok k ∧ k ≠ w0.heap.size + 2)) (ok := ok) hC.1 hC.2.2.2.1 (by omega) (fun k hk => hk) hv2 _ rfl);have r0 := Ctx.blk hC.1 0 rfl;have r1 := Ctx.blk hC.1 1 rfl;have r2 := Ctx.blk hC.1 2 rfl;have f0 := Ctx.frz hC.1 0;have f1 := Ctx.frz hC.1 1;have f2 := Ctx.frz hC.1 2;clear hC hv2;simp only [List.drop_succ_cons, List.drop_zero]
  go_wp2_with fail
  have E := E.out;clear r0 r1 r2 f0 f1 f2;generalize World.setCell _ _ _ = wf at E ⊢;obtain ⟨EP, e0, e1, e2⟩ := E;exact bodyPost_ret (by first | (simp [results, Tryd.results19, go_sem, e0, e1, e2]; done) | (simp [results, Tryd.results19, go_sem, e0, e1, e2]; rfl)) rfl EP
end Go.Proofs.YthpgjgmaamcaoaaDoor.P
end
section
namespace Go.Proofs.YthpgjgmaamcaoaaDoor.P
open Go.RowKit Go.Shelf Go.Proofs.YthpgjgmaamcaoaaDoorW.PrintWords Go.Proofs.YthpgjgmaamcaoaaDoorW.PrintLast Go.Proofs.YthpgjgmaamcaoaaDoorW.PrintMore Go.Proofs.YthpgjgmaamcaoaaDoor.Nm
set_option maxRecDepth 100000
set_option linter.unusedVariables false
set_option linter.unusedSimpArgs false
structure CS (W0 W : World) (b : Bool) (A : Option Addr) (m c : Nat) (n : Int) : Prop where
 blk : (uBlk W0.heap.size [.bool b, .slice A m c] 24).p W
 kv : Kv k24 (fun k => W0.heap.size < k) W (.agg #[.bool b, .slice A m c]) (can n)
 bel : Below W0.heap.size W0 W
section
variable {W0 W W' : World} {b b' : Bool} {A A' : Option Addr} {m c m' c' : Nat} {n n' : Int}
theorem CS.below (h : CS W0 W b A m c n) (hb : Below W.heap.size W W') : CS W0 W' b A m c n := ⟨(uBlk _ _ _).up _ _ h.blk hb, h.kv.below hb, below_step h.bel hb⟩
theorem CS.put (h : CS W0 W b A m c n) (hk : Kv k24 (fun k => W0.heap.size < k) W (.agg #[.bool b', .slice A' m' c']) (can n')) : CS W0 ((W.setCell ⟨W0.heap.size, 0, none⟩ (.bool b')).setCell ⟨W0.heap.size, 1, none⟩ (.slice A' m' c')) b' A' m' c' n' :=
 ⟨Ctx.put (Ctx.put h.blk 0 _) 1 _, (hk.far (p := ⟨W0.heap.size, 0, none⟩) (fun k hk e => by have : k = W0.heap.size := e; omega) _).far (p := ⟨W0.heap.size, 1, none⟩) (fun k hk e => by have : k = W0.heap.size := e; omega) _, (h.bel.setCell (p := ⟨W0.heap.size, 0, none⟩) (Nat.le_refl _) _).setCell (p := ⟨W0.heap.size, 1, none⟩) (Nat.le_refl _) _⟩
theorem CS.start (W0 : World) : CS W0 (W0.alloc (.cells #[.bool false, .slice none 0 0] 24)) false none 0 0 0 :=
 ⟨blk_new W0 _, by
  have e : can 0 = ⟨false, []⟩ := by first | rfl | (unfold can; simp) | (unfold can; simp [dig])
  rw [e]
  exact Kv.mkB (x := ⟨false, []⟩) (Nat.le_refl _) (Kd.F_nil _ _ _), bal (Below.refl _ _) _⟩
end
theorem cf_take {l : LnP.Ps} {i : Nat} (hi : i < l.length) (v : Int) : LnP.cf (l.take (i + 1)) v = LnP.cf (l.take i) v + if l[i].1 = v then l[i].2 else 0 := by
 rw [List.take_succ_eq_append_getElem hi, LnP.cf_append, LnP.cf_cons, LnP.cf_nil, Int.add_zero]
theorem cf_big {x : TB} (hx : NIn x) {i : Nat} (v : Int) : Big (can (LnP.cf ((psB x.f1).take i) v)) := by
 have hK : (0 : Int) ≤ B32 ^ 1000 := Int.le_of_lt (pow_pos' (B := B32) (by decide) 1000);refine big_can ?_
 have h1 := LnP.cf_abs hK (l := (psB x.f1).take i) (fun p hp => by
  have h2 := List.mem_of_mem_take hp;unfold psB at h2;obtain ⟨q, hq, rfl⟩ := List.mem_map.1 h2
  exact Int.le_of_lt (abs_lt (hx.dg q hq) (hx.len q hq))) v
 have h2 : ((psB x.f1).take i).length ≤ 39 := by have := hx.few; unfold psB; simp; omega
 have h3 := Int.mul_le_mul_of_nonneg_right (show ((((psB x.f1).take i).length : Nat) : Int) ≤ 39 by omega) hK
 omega
set_option maxHeartbeats 3200000 in
theorem lin_Coef (ok : Nat → Prop) (v : Value) (x : TB) (vr : Int) (w : World) (hok : ∀ k, w.heap.size ≤ k → ok k) (h : Kv kTB (fun _ => True) w v x) (hx : NIn x) :
  Calls Tryd.prog 44 #[v, .int .i64 vr] w (KPost k24 ok w (can (LnP.cf (psB x.f1) vr))) := by
 obtain ⟨A, c, B, d, rfl, hk, hp⟩ := h.openTB;have C := Ctx.new (cs := [.bool false, .slice none 0 0]) (t := 24) (Ctx.new (cs := [.bool x.f0.f0, .slice A x.f0.f1.length c, .slice B x.f1.length d]) (t := 27) (Ctx.cons (uB w) (Below.refl _ _) (Ctx.cons (uCv k44 (fun _ => True) x.f1 (.slice B x.f1.length d)) hp Ctx.nil)));simp only [World.size_alloc] at C;have hx := Sdq.mk hx;have hok := Sdq.mk hok
 obtain ⟨rr, hrr⟩ : ∃ rr, rr = can (LnP.cf (psB x.f1) vr) := ⟨_, rfl⟩
 rw [← hrr];have HRR := Sdq.mk hrr;clear h hk hp hrr;go_enter Tryd.func44, Tryd.ntmps44
 go_upto_region 1 with fail
 refine absW _ C ?_;clear C;intro w1 C;have hB0 := Sdq.mk (CS.start w1);have y2 := Ctx.blk ((uBlk _ _ _).up _ _ C.2.1 (bal (Below.refl _ _) (.cells #[.bool false, .slice none 0 0] 24))) 2 rfl;have C := Sdq.mk C
 go_upto_region 2 with fail
 obtain ⟨W5, eW5⟩ : ∃ W5, W5 = w1.alloc (.cells #[.bool false, .slice none 0 0] 24) := ⟨_, rfl⟩
 rw [← eW5] at hB0 y2 ⊢;clear eW5
 go_wp2_with fail
 clear y2
 obtain ⟨n, en⟩ : ∃ n, n = x.f1.length := ⟨_, rfl⟩
 rw [← en];have hn := Sdq.mk en
 have hn39 : n ≤ 39 := by rw [en]; exact hx.out.few
 clear en
 obtain ⟨go, ego⟩ : ∃ go, go = w1.heap.size := ⟨_, rfl⟩
 rw [← ego];have hgo := Sdq.mk ego;clear ego
 go_loopg [12] n (fun gk s12 wr => ∃ (i : Nat) (vb : Bool) (vA : Option Addr) (vm vc : Nat), gk + i = n ∧ s12 = .int .i64 (i : Int) ∧ Sdq (CS w1 wr vb vA vm vc (LnP.cf ((psB x.f1).take i) vr)))
 case atStart => exact ⟨0, _, _, _, _, rfl, rfl, hB0⟩
 case round =>
  clear hB0;obtain ⟨i, vb, vA, vm, vc, hgi, rfl, hN⟩ := hrel;have z0 := Ctx.blk hN.out.blk 0 rfl;have z1 := Ctx.blk hN.out.blk 1 rfl;rw [← hgo.out] at z0 z1
  cases gk with
  | zero =>
   obtain rfl : i = n := by omega
   have hrr := Sdq.mk (show can (LnP.cf ((psB x.f1).take i) vr) = rr by
    rw [HRR.out, List.take_of_length_le (by have := hn.out; unfold psB; simp; omega)])
   have hres := (uBlk _ _ _).up _ _ C.out.1 hN.out.bel;have hrl := blk_lt (show w1.heap[w.heap.size + 1]? = _ from C.out.1);have E := Sdq.mk (end2 (ok := ok) (O := fun k => w1.heap.size < k) hres (below_step C.out.2.2.1 hN.out.bel) (Nat.le_succ _) (fun k hk => ⟨hok.out k (by omega), by omega⟩) (hrr.out ▸ hN.out.kv) _ rfl);have r0 := Ctx.blk hres 0 rfl;have r1 := Ctx.blk hres 1 rfl;have f0 := Ctx.frz hres 0;have f1 := Ctx.frz hres 1;clear hN hrr hres hrl
   go_wp2_with fail
   have E := E.out;clear z0 z1 r0 r1 f0 f1;generalize World.setCell _ _ _ = wf at E ⊢;obtain ⟨EP, e0, e1⟩ := E;exact bodyPost_ret (by first | (simp [results, Tryd.results44, go_sem, e0, e1]; done) | (simp [results, Tryd.results44, go_sem, e0, e1]; rfl)) rfl EP
  | succ j =>
   have hin : i < x.f1.length := by have := hn.out; omega
   obtain ⟨B', d', e1, -, hF⟩ := C.out.2.2.2.1.below hN.out.bel
   injection e1 with e2 _ e3
   subst e2;subst e3;obtain ⟨ad, e, rfl, x0, x1, x2, hfk⟩ := row_el hF hin;have HP := Sdq.mk (And.intro hgi hin)
   have hin2 : i < n := by omega
   have hst := Sdq.mk (show LnP.cf ((psB x.f1).take (i + 1)) vr = LnP.cf ((psB x.f1).take i) vr + if x.f1[i].f0 = vr then bv x.f1[i].f1 else 0 by
    rw [cf_take (by unfold psB; simpa using hin)];unfold psB
    simp only [List.getElem_map])
   have hev : e.v = x.f1[i].f0 := (fk_el hfk).1;have hqd := Sdq.mk (show Big x.f1[i].f1 from ⟨hx.out.dg _ (List.getElem_mem hin), by have := hx.out.len _ (List.getElem_mem hin); omega⟩)
   obtain ⟨q, eq⟩ : ∃ q, q = x.f1[i] := ⟨_, rfl⟩
   rw [← eq] at hfk hev hst hqd;have HEV := Sdq.mk hev;have hfk := Sdq.mk hfk;clear hF eq hgi hin hev z0 z1
   go_upto_region 5 with fail
   have hba : Below wr.heap.size wr (wr.alloc (.cells #[.int .i64 e.v, .bool e.b, .slice e.A e.n e.c] 44)) := bal (Below.refl _ _) _
   have C6 : Ctx [uBlk wr.heap.size [.int .i64 e.v, .bool e.b, .slice e.A e.n e.c] 44, ⟨fun W => CS w1 W vb vA vm vc (LnP.cf ((psB x.f1).take i) vr), fun _ _ h hb => h.below hb⟩, ⟨fun W => Kd.FK k44 W (fun _ => True) q e.cs, fun _ _ h hb => Kd.FK_below h hb⟩] (wr.alloc (.cells #[.int .i64 e.v, .bool e.b, .slice e.A e.n e.c] 44)) := ⟨blk_new wr _, hN.out.below hba, Kd.FK_below hfk.out hba, trivial⟩
   refine absW _ C6 ?_;clear C6 hN hba hfk x0 x1 x2;generalize wr.heap.size = p6;intro w6 C6;have p0 := Ctx.blk C6.1 0 rfl;by_cases hv : e.v = vr
   ·have hvb : (e.v == vr) = true := by simpa using hv
    have HX := Sdq.mk (show LnP.cf ((psB x.f1).take (i + 1)) vr = LnP.cf ((psB x.f1).take i) vr + bv q.f1 by rw [hst.out, if_pos (by rw [← HEV.out]; exact hv)]);have p1 := Ctx.blk C6.1 1 rfl;have p2 := Ctx.blk C6.1 2 rfl;have z0 := Ctx.blk C6.2.1.blk 0 rfl;have z1 := Ctx.blk C6.2.1.blk 1 rfl;have hA := big_Add (fun k => w6.heap.size ≤ k) _ _ _ q.f1 w6 (fun _ h => h) (C6.2.1.kv.mono (fun _ _ => trivial)) (el_kv C6.2.2.1) (cf_big hx.out vr) hqd.out;rw [bv_can, ← HX.out] at hA;rw [← hgo.out] at z0 z1;have C6 := Sdq.mk C6;clear hv;go_wp2_with (go_at_call 38; refine hA.mono ?_; rintro e2 w7 ⟨v2, rfl, hv2, hb2⟩; obtain ⟨yA, yc, rfl, -, -⟩ := hv2.openB; have C7 := C6.out.below hb2; have u0 := Ctx.blk C7.2.1.blk 0 rfl; have u1 := Ctx.blk C7.2.1.blk 1 rfl; have f0 := Ctx.frz C7.2.1.blk 0; have f1 := Ctx.frz C7.2.1.blk 1; have HN := Sdq.mk (C7.2.1.put (hv2.mono (fun k hk => by have := blk_lt (show w6.heap[w1.heap.size]? = _ from C6.out.2.1.blk); omega))); rw [← hgo.out] at u0 u1 f0 f1 HN; clear C7 hv2 hb2);clear u0 u1 f0 f1
    go_roundg j
    case measure => go_light; omega
    case rel => go_light; exact ⟨i + 1, _, _, _, _, by have := HP.out; omega, by go_num, HN⟩
   ·have hvb : (e.v == vr) = false := by simpa using hv
    have HX := Sdq.mk (show LnP.cf ((psB x.f1).take (i + 1)) vr = LnP.cf ((psB x.f1).take i) vr by rw [hst.out, if_neg (by rw [← HEV.out]; exact hv), Int.add_zero]);have C6 := Sdq.mk C6;clear hv
    go_wp2_with fail
    go_roundg j
    case measure => go_light; omega
    case rel => go_light; exact ⟨i + 1, _, _, _, _, by have := HP.out; omega, by go_num, ⟨by rw [HX.out]; exact C6.out.2.1⟩⟩
end Go.Proofs.YthpgjgmaamcaoaaDoor.P
end
section
namespace Go.Proofs.YthpgjgmaamcaoaaDoor.P
open Go.RowKit Go.Shelf Go.Proofs.YthpgjgmaamcaoaaDoorW.PrintWords Go.Proofs.YthpgjgmaamcaoaaDoorW.PrintLast Go.Proofs.YthpgjgmaamcaoaaDoorW.PrintMore Go.Proofs.YthpgjgmaamcaoaaDoor.Nm
set_option maxRecDepth 100000
set_option linter.unusedVariables false
set_option linter.unusedSimpArgs false
theorem lin_Subst.tab1 : tabOf (opsOf Tryd.f12 1) = ([some 7, some 8, some 9, some 10, some 11, some 12, some 13, some 14, some 15, none], [[], [], [0, 1], [], [], [], [4, 5, 2], [3, 6, 6], [2, 7, 7], [8, 8, 0, 1, 2, 3, 4, 5, 6, 7, 8]]) := by kernel_rfl
structure LIn (x : TB) : Prop where
 few : x.f1.length ≤ 39
 c : Dg B32 x.f0.f1 ∧ x.f0.f1.length ≤ 300
 p : ∀ p ∈ x.f1, Dg B32 p.f1.f1 ∧ p.f1.f1.length ≤ 300
theorem lin_sin {x : TB} (h : LIn x) : SIn x := ⟨h.few, ⟨h.c.1, by have := h.c.2; omega⟩, fun p hp => ⟨(h.p p hp).1, by have := (h.p p hp).2; omega⟩⟩
theorem lin_nin {x : TB} (h : LIn x) : NIn x := sin_nin (lin_sin h)
theorem psB_abs {l : List S44} {L : Nat} (h : ∀ p ∈ l, Dg B32 p.f1.f1 ∧ p.f1.f1.length ≤ L) : ∀ p ∈ psB l, (p.2.natAbs : Int) ≤ B32 ^ L := fun p hp => by
 unfold psB at hp;obtain ⟨q, hq, rfl⟩ := List.mem_map.1 hp;exact Int.le_of_lt (abs_lt' (h q hq).1 (h q hq).2)
theorem nrm_can {l : LnP.Ps} {L : Nat} (hl : l.length ≤ 39) (h : ∀ p ∈ l, (p.2.natAbs : Int) ≤ B32 ^ L) : ∀ p ∈ LnP.nrm l, (can p.2).f1.length ≤ L + 1 := fun p hp => by
 have hK : (0 : Int) ≤ B32 ^ L := Int.le_of_lt (pow_pos' (B := B32) (by decide) L);have h1 := LnP.nrm_abs hK h p hp;have h2 := Int.mul_le_mul_of_nonneg_right (show (l.length : Int) ≤ 39 by omega) hK;exact len_can (by omega)
theorem cf_len {x : TB} (h : LIn x) (v : Int) : (can (LnP.cf (psB x.f1) v)).f1.length ≤ 400 := by
 have hK : (0 : Int) ≤ B32 ^ 300 := Int.le_of_lt (pow_pos' (B := B32) (by decide) 300);have h1 := LnP.cf_abs hK (psB_abs h.p) v
 have h3 : (psB x.f1).length ≤ 39 := by have := h.few; unfold psB; simpa using this
 have h2 := Int.mul_le_mul_of_nonneg_right (show ((psB x.f1).length : Int) ≤ 39 by omega) hK;exact Nat.le_trans (len_can (L := 300) (by omega)) (by decide)
theorem sub_ok {x y : TB} {vr : Int} (hx : LIn x) (hy : LIn y) (hxy : x.f1.length + y.f1.length ≤ 39) : NIn (tt (bv x.f0) (LnP.nrm (psB (x.f1.filter (fun p => p.f0 != vr))))) ∧ NIn (tt (bv y.f0 * bv (can (LnP.cf (psB x.f1) vr))) (LnP.nrm ((psB y.f1).map (fun p : Int × Int => (p.1, p.2 * bv (can (LnP.cf (psB x.f1) vr))))))) ∧ (tt (bv x.f0) (LnP.nrm (psB (x.f1.filter (fun p => p.f0 != vr))))).f1.length + (tt (bv y.f0 * bv (can (LnP.cf (psB x.f1) vr))) (LnP.nrm ((psB y.f1).map (fun p : Int × Int => (p.1, p.2 * bv (can (LnP.cf (psB x.f1) vr))))))).f1.length ≤ 39 ∧ Big (can (bv (tt (bv x.f0) (LnP.nrm (psB (x.f1.filter (fun p => p.f0 != vr))))).f0 + bv (tt (bv y.f0 * bv (can (LnP.cf (psB x.f1) vr))) (LnP.nrm ((psB y.f1).map (fun p : Int × Int => (p.1, p.2 * bv (can (LnP.cf (psB x.f1) vr))))))).f0)) := by
 have hk := cf_len hx vr
 have l1 : (tt (bv x.f0) (LnP.nrm (psB (x.f1.filter (fun p => p.f0 != vr))))).f1.length ≤ x.f1.length := by
  show (List.map cp _).length ≤ _
  rw [List.length_map];refine Nat.le_trans (LnP.nrm_len _) ?_;unfold psB;rw [List.length_map];exact List.length_filter_le ..
 have l2 : (tt (bv y.f0 * bv (can (LnP.cf (psB x.f1) vr))) (LnP.nrm ((psB y.f1).map (fun p : Int × Int => (p.1, p.2 * bv (can (LnP.cf (psB x.f1) vr))))))).f1.length ≤ y.f1.length := by
  show (List.map cp _).length ≤ _
  rw [List.length_map];refine Nat.le_trans (LnP.nrm_len _) ?_;unfold psB
  simp
 have hml := mul_len (x := y.f0) (y := (can (LnP.cf (psB x.f1) vr))) ⟨hy.c.1, by have := hy.c.2; omega⟩ ⟨can_dg _, hk⟩;refine ⟨⟨by have := hx.few; omega, ⟨can_dg _, ?_⟩, fun p hp => ?_, fun p hp => ?_⟩, ⟨by have := hy.few; omega, ⟨can_dg _, Nat.le_trans hml (by decide)⟩, fun p hp => ?_, fun p hp => ?_⟩, by omega, can_dg _, ?_⟩
 ·refine Nat.le_trans (len_can (L := 300) ?_) (by decide)
  have h1 := abs_lt' hx.c.1 hx.c.2;generalize B32 ^ 300 = K at *
  omega
 ·obtain ⟨z, _, rfl⟩ := List.mem_map.1 hp
  exact can_dg _
 ·obtain ⟨z, hz, rfl⟩ := List.mem_map.1 hp
  refine Nat.le_trans (nrm_can (L := 300) ?_ (psB_abs (fun p hp => hx.p p (List.mem_filter.1 hp).1)) z hz) (by decide);unfold psB;rw [List.length_map];exact Nat.le_trans (List.length_filter_le ..) hx.few
 ·obtain ⟨z, _, rfl⟩ := List.mem_map.1 hp
  exact can_dg _
 ·obtain ⟨z, hz, rfl⟩ := List.mem_map.1 hp
  refine Nat.le_trans (nrm_can (L := 800) ?_ (fun p hp => ?_) z hz) (by decide)
  ·have := hy.few; unfold psB; simp; omega
  ·obtain ⟨q, hq, rfl⟩ := List.mem_map.1 hp
   unfold psB at hq;obtain ⟨r, hr, rfl⟩ := List.mem_map.1 hq;have h2 := mul_len (x := r.f1) (y := (can (LnP.cf (psB x.f1) vr))) ⟨(hy.p r hr).1, by have := (hy.p r hr).2; omega⟩ ⟨can_dg _, hk⟩;have h3 := abs_lt' (can_dg (bv r.f1 * bv (can (LnP.cf (psB x.f1) vr)))) h2;rw [bv_can] at h3;exact Int.le_of_lt h3
 ·refine Nat.le_trans (len_can (L := 800) ?_) (by decide)
  have h1 := abs_lt' hx.c.1 hx.c.2;have h2 := abs_lt' (can_dg (bv y.f0 * bv (can (LnP.cf (psB x.f1) vr)))) hml;have h4 := pow_mono (B := B32) (by decide) (show 300 ≤ 800 by decide)
  show ((bv (can (bv x.f0)) + bv (can (bv y.f0 * bv (can (LnP.cf (psB x.f1) vr))))).natAbs : Int) ≤ _
  rw [bv_can];generalize B32 ^ 800 = K at *;generalize B32 ^ 300 = K2 at *
  omega
set_option maxHeartbeats 1600000 in
theorem lin_Subst (ok : Nat → Prop) (v u : Value) (x y : TB) (vr : Int) (w0 : World) (hok : ∀ k, w0.heap.size ≤ k → ok k) (h : Kv kTB (fun _ => True) w0 v x) (h' : Kv kTB (fun _ => True) w0 u y) (hx : LIn x) (hy : LIn y) (hxy : x.f1.length + y.f1.length ≤ 39) :
  Calls Tryd.prog 12 #[v, .int .i64 vr, u] w0 (KPost kTB ok w0 (tt (bv x.f0 + bv y.f0 * LnP.cf (psB x.f1) vr) (LnP.nrm (psB (x.f1.filter (fun p => p.f0 != vr)) ++ (psB y.f1).map (fun p : Int × Int => (p.1, p.2 * LnP.cf (psB x.f1) vr)))))) := by
 obtain ⟨A, c, B, d, rfl, -, -⟩ := h.openTB;obtain ⟨A2, c2, B2, d2, rfl, -, -⟩ := h'.openTB;have C := Ctx.new (cs := [.bool false, .slice none 0 0, .slice none 0 0]) (t := 27) (Ctx.new (cs := [.bool y.f0.f0, .slice A2 y.f0.f1.length c2, .slice B2 y.f1.length d2]) (t := 27) (Ctx.new (cs := [.bool x.f0.f0, .slice A x.f0.f1.length c, .slice B x.f1.length d]) (t := 27) (Ctx.cons (uB w0) (Below.refl _ _) (Ctx.cons (uK kTB (fun _ => True) (.agg #[.bool x.f0.f0, .slice A x.f0.f1.length c, .slice B x.f1.length d]) x) h (Ctx.cons (uK kTB (fun _ => True) (.agg #[.bool y.f0.f0, .slice A2 y.f0.f1.length c2, .slice B2 y.f1.length d2]) y) h' Ctx.nil)))));simp only [World.size_alloc] at C;have hb1 := Sdq.mk (sub_ok (vr := vr) hx hy hxy);have hx := Sdq.mk hx;have hy := Sdq.mk hy;have hok := Sdq.mk hok
 obtain ⟨rr, hrr⟩ : ∃ rr, rr = tt (bv x.f0 + bv y.f0 * LnP.cf (psB x.f1) vr) (LnP.nrm (psB (x.f1.filter (fun p => p.f0 != vr)) ++ (psB y.f1).map (fun p : Int × Int => (p.1, p.2 * LnP.cf (psB x.f1) vr)))) := ⟨_, rfl⟩
 rw [← hrr]
 have HRR := Sdq.mk (show tt (bv (tt (bv x.f0) (LnP.nrm (psB (x.f1.filter (fun p => p.f0 != vr))))).f0 + bv (tt (bv y.f0 * bv (can (LnP.cf (psB x.f1) vr))) (LnP.nrm ((psB y.f1).map (fun p : Int × Int => (p.1, p.2 * bv (can (LnP.cf (psB x.f1) vr))))))).f0) (LnP.nrm (psB (tt (bv x.f0) (LnP.nrm (psB (x.f1.filter (fun p => p.f0 != vr))))).f1 ++ psB (tt (bv y.f0 * bv (can (LnP.cf (psB x.f1) vr))) (LnP.nrm ((psB y.f1).map (fun p : Int × Int => (p.1, p.2 * bv (can (LnP.cf (psB x.f1) vr))))))).f1)) = rr by
  rw [hrr];unfold tt;rw [psB_cp, psB_cp, bv_can, bv_can, bv_can]
  congr 1
  exact congrArg (List.map cp) (LnP.nrm_congr (fun v => by rw [LnP.cf_append, LnP.cf_append, LnP.cf_nrm, LnP.cf_nrm])))
 clear h h' hrr hxy;go_enter Tryd.func12, Tryd.ntmps12
 go_upto_region 1 with fail
 refine absW _ C ?_;clear C;intro w1 C;refine flowS (m := 9) (n := 10) lin_Subst.tab1 rfl (Ctx _) (Rl [uEq (.agg #[.bool x.f0.f0, .slice A x.f0.f1.length c, .slice B x.f1.length d]), uEq (.int .i64 vr), uKd kTB (fun _ => True) (tt (bv x.f0) (LnP.nrm (psB (x.f1.filter (fun p => p.f0 != vr))))), uEq (.agg #[.bool y.f0.f0, .slice A2 y.f0.f1.length c2, .slice B2 y.f1.length d2]), uEq (.agg #[.bool x.f0.f0, .slice A x.f0.f1.length c, .slice B x.f1.length d]), uEq (.int .i64 vr), uKd k24 (fun _ => True) (can (LnP.cf (psB x.f1) vr)), uKd kTB (fun _ => True) (tt (bv y.f0 * bv (can (LnP.cf (psB x.f1) vr))) (LnP.nrm ((psB y.f1).map (fun p : Int × Int => (p.1, p.2 * bv (can (LnP.cf (psB x.f1) vr))))))), uKd kTB (fun k => ok k ∧ k ≠ w0.heap.size + 2) rr]) rfl (by kernel_rfl) (by kernel_rfl) (fun _ _ h hb => h.below hb) (Rl.up _) C ⟨⟨⟨⟨⟨⟨⟨⟨⟨trivial, ?_⟩, ?_⟩, ?_⟩, ?_⟩, ?_⟩, ?_⟩, ?_⟩, ?_⟩, ?_⟩ ?_
 ·refine At.of _ rfl (fun e_ a w hC hd hb K hK => ?_)
  have b3 : a.tmps[3]? = some (.pointer (some ⟨w0.heap.size, 0, none⟩)) := hb 3 (by decide);have cc0 : w.cell? ⟨w0.heap.size, 0, none⟩ = some (.bool x.f0.f0) := Ctx.blk hC.2.2.1 0 rfl;have cc1 : w.cell? ⟨w0.heap.size, 1, none⟩ = some (.slice A x.f0.f1.length c) := Ctx.blk hC.2.2.1 1 rfl;have cc2 : w.cell? ⟨w0.heap.size, 2, none⟩ = some (.slice B x.f1.length d) := Ctx.blk hC.2.2.1 2 rfl;refine value_ (w1 := w) (v := .agg #[.bool x.f0.f0, .slice A x.f0.f1.length c, .slice B x.f1.length d]) (by rfl) rfl ?_ (hK.out _ _ (Below.refl _ _) rfl);clear hC hd hb hK
  first | (go_simp; done) | (go_simp; rfl)
 ·refine At.of _ rfl (fun e_ a w hC hd hb K hK => ?_)
  have b1 : a.tmps[1]? = some (.int .i64 vr) := hb 1 (by decide);refine value_ (w1 := w) (v := .int .i64 vr) (by rfl) rfl ?_ (hK.out _ _ (Below.refl _ _) rfl);clear hC hd hb hK
  first | (go_simp; done) | (go_simp; rfl)
 ·refine At.of _ rfl (fun e_ a w hC hd hb K hK => ?_)
  have q7 := (hd 0 (by decide)).2 7 rfl;rw [show e_ 0 = _ from (hd 0 (by decide)).1] at q7;have q8 := (hd 1 (by decide)).2 8 rfl;rw [show e_ 1 = _ from (hd 1 (by decide)).1] at q8;refine goes_ Tryd.func15 (by kernel_rfl) rfl #[.agg #[.bool x.f0.f0, .slice A x.f0.f1.length c, .slice B x.f1.length d], .int .i64 vr] (by rfl) rfl rfl (by first | (simp [Act.eval, q7, q8]; done) | (simp [Act.eval, q7, q8]; rfl)) ?_;refine (lin_Without (fun _ => True) _ x vr w (fun _ _ => trivial) hC.2.2.2.2.1 (lin_nin hx.out)).mono ?_;rintro en w' ⟨v, rfl, hv, hb'⟩;exact ⟨v, rfl, hK.out v w' hb' hv⟩
 ·refine At.of _ rfl (fun e_ a w hC hd hb K hK => ?_)
  have b5 : a.tmps[5]? = some (.pointer (some ⟨w0.heap.size + 1, 0, none⟩)) := hb 5 (by decide);have cc0 : w.cell? ⟨w0.heap.size + 1, 0, none⟩ = some (.bool y.f0.f0) := Ctx.blk hC.2.1 0 rfl;have cc1 : w.cell? ⟨w0.heap.size + 1, 1, none⟩ = some (.slice A2 y.f0.f1.length c2) := Ctx.blk hC.2.1 1 rfl;have cc2 : w.cell? ⟨w0.heap.size + 1, 2, none⟩ = some (.slice B2 y.f1.length d2) := Ctx.blk hC.2.1 2 rfl;refine value_ (w1 := w) (v := .agg #[.bool y.f0.f0, .slice A2 y.f0.f1.length c2, .slice B2 y.f1.length d2]) (by rfl) rfl ?_ (hK.out _ _ (Below.refl _ _) rfl);clear hC hd hb hK
  first | (go_simp; done) | (go_simp; rfl)
 ·refine At.of _ rfl (fun e_ a w hC hd hb K hK => ?_)
  have b3 : a.tmps[3]? = some (.pointer (some ⟨w0.heap.size, 0, none⟩)) := hb 3 (by decide);have cc0 : w.cell? ⟨w0.heap.size, 0, none⟩ = some (.bool x.f0.f0) := Ctx.blk hC.2.2.1 0 rfl;have cc1 : w.cell? ⟨w0.heap.size, 1, none⟩ = some (.slice A x.f0.f1.length c) := Ctx.blk hC.2.2.1 1 rfl;have cc2 : w.cell? ⟨w0.heap.size, 2, none⟩ = some (.slice B x.f1.length d) := Ctx.blk hC.2.2.1 2 rfl;refine value_ (w1 := w) (v := .agg #[.bool x.f0.f0, .slice A x.f0.f1.length c, .slice B x.f1.length d]) (by rfl) rfl ?_ (hK.out _ _ (Below.refl _ _) rfl);clear hC hd hb hK
  first | (go_simp; done) | (go_simp; rfl)
 ·refine At.of _ rfl (fun e_ a w hC hd hb K hK => ?_)
  have b1 : a.tmps[1]? = some (.int .i64 vr) := hb 1 (by decide);refine value_ (w1 := w) (v := .int .i64 vr) (by rfl) rfl ?_ (hK.out _ _ (Below.refl _ _) rfl);clear hC hd hb hK
  first | (go_simp; done) | (go_simp; rfl)
 ·refine At.of _ rfl (fun e_ a w hC hd hb K hK => ?_)
  have q11 := (hd 4 (by decide)).2 11 rfl;rw [show e_ 4 = _ from (hd 4 (by decide)).1] at q11;have q12 := (hd 5 (by decide)).2 12 rfl;rw [show e_ 5 = _ from (hd 5 (by decide)).1] at q12;refine goes_ Tryd.func44 (by kernel_rfl) rfl #[.agg #[.bool x.f0.f0, .slice A x.f0.f1.length c, .slice B x.f1.length d], .int .i64 vr] (by rfl) rfl rfl (by first | (simp [Act.eval, q11, q12]; done) | (simp [Act.eval, q11, q12]; rfl)) ?_;refine (lin_Coef (fun _ => True) _ x vr w (fun _ _ => trivial) hC.2.2.2.2.1 (lin_nin hx.out)).mono ?_;rintro en w' ⟨v, rfl, hv, hb'⟩;exact ⟨v, rfl, hK.out v w' hb' hv⟩
 ·refine At.of _ rfl (fun e_ a w hC hd hb K hK => ?_)
  have q10 := (hd 3 (by decide)).2 10 rfl;rw [show e_ 3 = _ from (hd 3 (by decide)).1] at q10;have q13 := (hd 6 (by decide)).2 13 rfl;refine goes_ Tryd.func24 (by kernel_rfl) rfl #[.agg #[.bool y.f0.f0, .slice A2 y.f0.f1.length c2, .slice B2 y.f1.length d2], e_ 6] (by rfl) rfl rfl (by first | (simp [Act.eval, q10, q13]; done) | (simp [Act.eval, q10, q13]; rfl)) ?_;refine (lin_Scale (fun _ => True) _ _ y (can (LnP.cf (psB x.f1) vr)) w (fun _ _ => trivial) hC.2.2.2.2.2.1 (hd 6 (by decide)).1 (lin_sin hy.out) ⟨can_dg _, cf_len hx.out vr⟩).mono ?_;rintro en w' ⟨v, rfl, hv, hb'⟩;exact ⟨v, rfl, hK.out v w' hb' hv⟩
 ·refine At.of _ rfl (fun e_ a w hC hd hb K hK => ?_)
  have q9 := (hd 2 (by decide)).2 9 rfl;have q14 := (hd 7 (by decide)).2 14 rfl;refine goes_ Tryd.func18 (by kernel_rfl) rfl #[e_ 2, e_ 7] (by rfl) rfl rfl (by first | (simp [Act.eval, q9, q14]; done) | (simp [Act.eval, q9, q14]; rfl)) ?_;have h1 := lin_Add (fun k => ok k ∧ k ≠ w0.heap.size + 2) _ _ (tt (bv x.f0) (LnP.nrm (psB (x.f1.filter (fun p => p.f0 != vr))))) (tt (bv y.f0 * bv (can (LnP.cf (psB x.f1) vr))) (LnP.nrm ((psB y.f1).map (fun p : Int × Int => (p.1, p.2 * bv (can (LnP.cf (psB x.f1) vr))))))) w (fun k hk => by have := blk_lt (show w.heap[w0.heap.size + 2]? = _ from hC.1); exact ⟨hok.out k (by omega), by omega⟩) (hd 2 (by decide)).1 (hd 7 (by decide)).1 hb1.out.1 hb1.out.2.1 hb1.out.2.2.1 hb1.out.2.2.2;rw [HRR.out] at h1;refine h1.mono ?_;rintro en w' ⟨v, rfl, hv, hb'⟩;exact ⟨v, rfl, hK.out v w' hb' hv⟩
 ·intro e_ w2 hC hr a ha
  obtain ⟨yA, yc, yB, yd, he4, -, -⟩ := Kv.openTB hr.2;have hv2 : Kv kTB (fun k => ok k ∧ k ≠ w0.heap.size + 2) w2 (e_ 8) rr := hr.2;rw [he4] at hv2;simp only [fill, Act.put, he4, Nat.reduceAdd, Nat.reduceLT, decide_true, decide_false, if_true, Bool.false_eq_true, if_false, List.setIfInBounds_toArray, List.set_cons_zero, List.set_cons_succ] at ha;subst ha;clear hr he4;have E := Sdq.mk (end3 (O := (fun k => ok k ∧ k ≠ w0.heap.size + 2)) (ok := ok) hC.1 hC.2.2.2.1 (by omega) (fun k hk => hk) hv2 _ rfl);have r0 := Ctx.blk hC.1 0 rfl;have r1 := Ctx.blk hC.1 1 rfl;have r2 := Ctx.blk hC.1 2 rfl;have f0 := Ctx.frz hC.1 0;have f1 := Ctx.frz hC.1 1;have f2 := Ctx.frz hC.1 2;clear hC hv2;simp only [List.drop_succ_cons, List.drop_zero]
  go_wp2_with fail
  have E := E.out;clear r0 r1 r2 f0 f1 f2;generalize World.setCell _ _ _ = wf at E ⊢;obtain ⟨EP, e0, e1, e2⟩ := E;exact bodyPost_ret (by first | (simp [results, Tryd.results12, go_sem, e0, e1, e2]; done) | (simp [results, Tryd.results12, go_sem, e0, e1, e2]; rfl)) rfl EP
end Go.Proofs.YthpgjgmaamcaoaaDoor.P
end
section
namespace Go.Proofs.YthpgjgmaamcaoaaDoor.P.R
open Go.RowKit Go.Shelf Go.Proofs.YthpgjgmaamcaoaaDoor.P Go.Proofs.YthpgjgmaamcaoaaDoorW.PrintWords Go.Proofs.YthpgjgmaamcaoaaDoorW.PrintLast Go.Proofs.YthpgjgmaamcaoaaDoorW.PrintMore Go.Proofs.YthpgjgmaamcaoaaDoor.Nm
set_option maxRecDepth 100000
set_option linter.unusedVariables false
set_option linter.unusedSimpArgs false
structure CS (W0 W : World) (b : Bool) (A : Option Addr) (m c : Nat) (n : Int) : Prop where
 blk : (uBlk W0.heap.size [.bool b, .slice A m c] 34).p W
 kv : Kv k34 (fun k => W0.heap.size < k) W (.agg #[.bool b, .slice A m c]) (cn n)
 bel : Below W0.heap.size W0 W
section
variable {W0 W W' : World} {b b' : Bool} {A A' : Option Addr} {m c m' c' : Nat} {n n' : Int}
theorem CS.below (h : CS W0 W b A m c n) (hb : Below W.heap.size W W') : CS W0 W' b A m c n := ⟨(uBlk _ _ _).up _ _ h.blk hb, h.kv.below hb, below_step h.bel hb⟩
theorem CS.put (h : CS W0 W b A m c n) (hk : Kv k34 (fun k => W0.heap.size < k) W (.agg #[.bool b', .slice A' m' c']) (cn n')) : CS W0 ((W.setCell ⟨W0.heap.size, 0, none⟩ (.bool b')).setCell ⟨W0.heap.size, 1, none⟩ (.slice A' m' c')) b' A' m' c' n' :=
 ⟨Ctx.put (Ctx.put h.blk 0 _) 1 _, (hk.far (p := ⟨W0.heap.size, 0, none⟩) (fun k hk e => by have : k = W0.heap.size := e; omega) _).far (p := ⟨W0.heap.size, 1, none⟩) (fun k hk e => by have : k = W0.heap.size := e; omega) _, (h.bel.setCell (p := ⟨W0.heap.size, 0, none⟩) (Nat.le_refl _) _).setCell (p := ⟨W0.heap.size, 1, none⟩) (Nat.le_refl _) _⟩
theorem CS.start (W0 : World) : CS W0 (W0.alloc (.cells #[.bool false, .slice none 0 0] 34)) false none 0 0 0 :=
 ⟨blk_new W0 _, by
  have e : cn 0 = ⟨false, []⟩ := by first | rfl | (unfold cn; simp) | (unfold cn; simp [dig])
  rw [e]
  exact Kv.mkN (x := ⟨false, []⟩) (Nat.le_refl _) (Kd.F_nil _ _ _), bal (Below.refl _ _) _⟩
end
theorem nv_abs {x : S34} {L : Nat} (hd : Dg 10 x.f1) (hl : x.f1.length ≤ L) : ((nv x).natAbs : Int) < 10 ^ L := by
 have h1 := val_lt (B := 10) (by decide) hd;have h0 := val_nonneg (B := 10) (by decide) hd;have h2 := pow_mono (B := 10) (by decide) hl
 have : ((nv x).natAbs : Int) = val 10 x.f1 := by unfold nv sg; split <;> omega
 omega
theorem psR_abs {L : Nat} {x : TR} (hx : DIn L x) : ∀ p ∈ psR x.f1, (p.2.natAbs : Int) ≤ 10 ^ L := fun p hp => by
 unfold psR at hp;obtain ⟨q, hq, rfl⟩ := List.mem_map.1 hp;exact Int.le_of_lt (nv_abs (hx.p q hq).1 (hx.p q hq).2)
end Go.Proofs.YthpgjgmaamcaoaaDoor.P.R
end
section
namespace Go.Proofs.YthpgjgmaamcaoaaDoor.LnP
def fi (v : Int) : List Int → Nat
 | [] => 0
 | y :: r => if v ≤ y then 0 else fi v r + 1
end Go.Proofs.YthpgjgmaamcaoaaDoor.LnP
end
section
namespace Go.Proofs.YthpgjgmaamcaoaaDoor.P.R
open Go.RowKit Go.Shelf Go.Proofs.YthpgjgmaamcaoaaDoor.P Go.Proofs.YthpgjgmaamcaoaaDoorW.PrintWords Go.Proofs.YthpgjgmaamcaoaaDoorW.PrintLast Go.Proofs.YthpgjgmaamcaoaaDoorW.PrintMore Go.Proofs.YthpgjgmaamcaoaaDoor.Nm
set_option maxRecDepth 100000
set_option linter.unusedVariables false
set_option linter.unusedSimpArgs false
def sp (n : Int) (p : S66) : S66 := ⟨p.f0, cn (nv p.f1 * n)⟩
theorem mul_lenR {x y : S34} {L M : Nat} (hx : Dg 10 x.f1 ∧ x.f1.length ≤ L) (hy : Dg 10 y.f1 ∧ y.f1.length ≤ M) : (cn (nv x * nv y)).f1.length ≤ L + M := by
 refine cn_len ?_;have h1 := nv_abs hx.1 hx.2;have h2 := nv_abs hy.1 hy.2;rw [Int.natAbs_mul, Int.natCast_mul, Int.pow_add]
 have hb : (0 : Int) ≤ ((nv y).natAbs : Int) := by omega
 generalize ((nv x).natAbs : Int) = a at *;generalize ((nv y).natAbs : Int) = b at *;have hp := pow_pos' (B := 10) (by decide) L;have e1 : a * b ≤ 10 ^ L * b := Int.mul_le_mul_of_nonneg_right (by omega) hb;have e2 : (10 : Int) ^ L * b < 10 ^ L * 10 ^ M := Int.mul_lt_mul_of_pos_left h2 (by omega)
 omega
end Go.Proofs.YthpgjgmaamcaoaaDoor.P.R
end
section
namespace Go.Proofs.YthpgjgmaamcaoaaDoor.P.R
open Go.RowKit Go.Shelf Go.Proofs.YthpgjgmaamcaoaaDoor.P Go.Proofs.YthpgjgmaamcaoaaDoorW.PrintWords Go.Proofs.YthpgjgmaamcaoaaDoorW.PrintLast Go.Proofs.YthpgjgmaamcaoaaDoorW.PrintMore Go.Proofs.YthpgjgmaamcaoaaDoor.Nm
set_option maxRecDepth 100000
set_option linter.unusedVariables false
set_option linter.unusedSimpArgs false
abbrev PE := List (S66 × El)
def Rp (ok : Nat → Prop) (W : World) (ps : PE) : Prop := ∀ p ∈ ps, Kd.FK k66 W ok p.1 p.2.cs
theorem els_of {ok : Nat → Prop} {W : World} {A : Option Addr} {xs : List S66} (h : Kd.F k66 W ok A xs.length xs) : ∃ ps : PE, ps.map Prod.fst = xs ∧ Rp ok W ps ∧ ∀ ad, A = some ad → ∀ j u, ((ps.map Prod.snd).flatMap El.cs)[j]? = some u → W.cell? (ad.add j) = some u := by
 have key : ∀ i : Fin xs.length, ∃ e : El, Kd.FK k66 W ok xs[i.1] e.cs ∧ ∀ ad, A = some ad → ∀ j u, e.cs[j]? = some u → W.cell? (ad.add (i.1 * 3 + j)) = some u := by
  intro i;obtain ⟨ad, cs, hA, -, hK, hcc, -⟩ := Kd.F_get h z66 (i.1 : Int) (by omega) (by have := i.2; omega)
  have hx : xs.getD (i.1 : Int).toNat z66 = xs[i.1] := by simp [i.2]
  rw [hx] at hK;obtain ⟨A2, c2, rfl, l2, g2⟩ := k66_openF hK;refine ⟨⟨xs[i.1].f0, xs[i.1].f1.f0, A2, xs[i.1].f1.f1.length, c2⟩, hK, fun ad' hA' j u hu => ?_⟩;have e := hA.symm.trans hA'
  injection e with e
  subst e;exact hcc j u hu
 let f : Fin xs.length → El := fun i => Classical.choose (key i)
 have hf : ∀ i, Kd.FK k66 W ok xs[i.1] (f i).cs ∧ ∀ ad, A = some ad → ∀ j u, (f i).cs[j]? = some u → W.cell? (ad.add (i.1 * 3 + j)) = some u := fun i => Classical.choose_spec (key i)
 refine ⟨List.ofFn (fun i : Fin xs.length => (xs[i.1], f i)), ?_, ?_, ?_⟩
 ·refine List.ext_getElem (by simp) (fun i h1 h2 => ?_)
  simp
 ·intro p hp
  obtain ⟨i, rfl⟩ := List.mem_ofFn.1 hp;exact (hf i).1
 ·intro ad hA j u hu
  have hl : (List.map Prod.snd (List.ofFn (fun i : Fin xs.length => (xs[i.1], f i)))).length = xs.length := by simp
  have hj := (List.getElem?_eq_some_iff.1 hu).1;rw [cs_flat, hl] at hj
  have hij : j / 3 < xs.length := by omega
  have e := cs_get _ (j / 3) (j % 3) (by rw [hl]; exact hij) (by omega);rw [show j / 3 * 3 + j % 3 = j by omega] at e;rw [e] at hu;have := (hf ⟨j / 3, hij⟩).2 ad hA (j % 3) u (by simpa using hu);rw [show j / 3 * 3 + j % 3 = j by omega] at this;exact this
theorem row_form {W : World} {base n : Nat} {v : Value} {inner : List Value} (h : W.ownsRow base 66 3 v n inner) : ∃ LA lc, v = .slice LA n lc := by
 rcases h.2 with ⟨rfl, rfl⟩ | ⟨g, cap, cur, rfl, _⟩
 ·exact ⟨_, _, rfl⟩
 ·exact ⟨_, _, rfl⟩
end Go.Proofs.YthpgjgmaamcaoaaDoor.P.R
end
section
namespace Go.Proofs.YthpgjgmaamcaoaaDoor.P.R
open Go.RowKit Go.Shelf Go.Proofs.YthpgjgmaamcaoaaDoor.P Go.Proofs.YthpgjgmaamcaoaaDoorW.PrintWords Go.Proofs.YthpgjgmaamcaoaaDoorW.PrintLast Go.Proofs.YthpgjgmaamcaoaaDoorW.PrintMore Go.Proofs.YthpgjgmaamcaoaaDoor.Nm
set_option maxRecDepth 100000
set_option linter.unusedVariables false
set_option linter.unusedSimpArgs false
theorem DIn.filter {L : Nat} {x : TR} (h : DIn L x) (q : S66 → Bool) : DIn L ⟨x.f0, x.f1.filter q⟩ := ⟨Nat.le_trans (List.length_filter_le ..) h.few, h.c, fun p hp => h.p p (List.mem_filter.1 hp).1⟩
theorem psR_len (l : List S66) : (psR l).length = l.length := by unfold psR; simp
end Go.Proofs.YthpgjgmaamcaoaaDoor.P.R
end
section
namespace Go.Proofs.YthpgjgmaamcaoaaDoor.P.R
open Go.RowKit Go.Shelf Go.Proofs.YthpgjgmaamcaoaaDoor.P Go.Proofs.YthpgjgmaamcaoaaDoorW.PrintWords Go.Proofs.YthpgjgmaamcaoaaDoorW.PrintLast Go.Proofs.YthpgjgmaamcaoaaDoorW.PrintMore Go.Proofs.YthpgjgmaamcaoaaDoor.Nm
set_option maxRecDepth 100000
set_option linter.unusedVariables false
set_option linter.unusedSimpArgs false
theorem law_of.tab5 : tabOf (opsOf Tryd.f14 5) = ([some 16, some 17, some 18, some 19, some 20, some 21, some 22, some 23, some 24, some 25, some 26, some 27, some 28, some 29, some 30, some 31, some 32, some 33, some 34, none], [[], [0], [], [2], [], [3, 4], [5], [6], [], [8], [], [9, 10], [11], [12], [13], [7, 14], [15], [1, 16, 14], [0, 1, 2, 3, 4, 5, 6, 7, 8, 9, 10, 11, 12, 13, 14, 15, 16, 17], [18, 17, 17, 0, 1, 2, 3, 4, 5, 6, 7, 8, 9, 10, 11, 12, 13, 14, 15, 16, 17]]) := by kernel_rfl
structure BIn (x : TB) : Prop where
 few : x.f1.length ≤ 39
 c : Big x.f0
 p : ∀ p ∈ x.f1, Big p.f1
def ofP (p : S44) : S66 := ⟨p.f0, cn (bv p.f1)⟩
def ofT (x : TB) : TR := ⟨cn (bv x.f0), x.f1.map ofP⟩
set_option maxHeartbeats 3200000 in
theorem law_of (ok : Nat → Prop) (v : Value) (x : TB) (w0 : World) (hok : ∀ k, w0.heap.size ≤ k → ok k) (h : Kv kTB (fun _ => True) w0 v x) (hx : BIn x) :
  Calls Tryd.prog 14 #[v] w0 (KPost kTR ok w0 (ofT x)) := by
 obtain ⟨A, c, B, d, rfl, hk, hp⟩ := h.openTB;have C := Ctx.new (cs := [.bool false, .slice none 0 0, .slice none 0 0]) (t := 37) (Ctx.new (cs := [.bool x.f0.f0, .slice A x.f0.f1.length c, .slice B x.f1.length d]) (t := 27) (Ctx.cons (uB w0) (Below.refl _ _) (Ctx.cons (uCv k44 (fun _ => True) x.f1 (.slice B x.f1.length d)) hp (Ctx.cons (uK k24 (fun _ => True) (.agg #[.bool x.f0.f0, .slice A x.f0.f1.length c]) x.f0) hk Ctx.nil))));simp only [World.size_alloc] at C;have hx := Sdq.mk hx;have hok := Sdq.mk hok
 obtain ⟨rr, hrr⟩ : ∃ rr, rr = ofT x := ⟨_, rfl⟩
 rw [← hrr];have HRR := Sdq.mk hrr;clear h hk hp hrr;go_enter Tryd.func14, Tryd.ntmps14
 go_upto_region 1 with fail
 refine absW _ C ?_;clear C;intro w1 C;have y0 := Ctx.blk C.2.1 0 rfl;have y1 := Ctx.blk C.2.1 1 rfl;have hs1 := blk_lt (show w1.heap[w0.heap.size + 1]? = _ from C.1);have hMl := law_num (fun k => w0.heap.size + 2 ≤ k) _ x.f0 w1 (fun k hk => by omega) C.2.2.2.2.1 hx.out.c;have C := Sdq.mk C;clear hs1
 go_upto_region 2 with (go_at_call 26; refine hMl.mono ?_; rintro e4 w4 ⟨v4, rfl, hv4, hb4⟩; obtain ⟨zA, zc, rfl, -, -⟩ := hv4.openN)
 have C4 := C.out.below hb4;have hs4 := blk_lt (show w4.heap[w0.heap.size + 1]? = _ from C4.1);have hB0 := Sdq.mk (BS.start (x0 := cn (bv x.f0)) (show w0.heap.size + 2 ≤ w4.heap.size by omega) hv4);have C4 := Sdq.mk C4;clear hv4 hb4 hMl y0 y1 C hs4
 obtain ⟨W5, eW5⟩ : ∃ W5, W5 = w4.alloc (.cells #[.bool (cn (bv x.f0)).f0, .slice zA (cn (bv x.f0)).f1.length zc, .slice none 0 0] 37) := ⟨_, rfl⟩
 rw [← eW5] at hB0 ⊢;clear eW5
 obtain ⟨n, en⟩ : ∃ n, n = x.f1.length := ⟨_, rfl⟩
 have hn := Sdq.mk en
 have hn39 : n ≤ 39 := by rw [en]; exact hx.out.few
 clear en
 go_wp2_with fail
 go_loopg [4] n (fun gk s4 wr => ∃ (i : Nat) (pv : Value) (os : List El), gk + i = n ∧ s4 = .int .i64 (i : Int) ∧ Sdq (BS (w0.heap.size + 2) w4 wr (cn (bv x.f0)).f0 zA zc (cn (bv x.f0)) pv os ((x.f1.take i).map ofP)))
 case atStart => exact ⟨0, _, _, by omega, rfl, hB0⟩
 case round =>
  clear hB0;obtain ⟨i, pv, os, hgi, rfl, hN⟩ := hrel;obtain ⟨PA, pc, rfl⟩ := hN.out.pvf
  obtain ⟨no, eno0⟩ : ∃ no, no = os.length := ⟨_, rfl⟩
  rw [← eno0] at hN;have eno := Sdq.mk eno0;clear eno0;have C2 := Sdq.mk (C4.out.below hN.out.bel);have y2 := Ctx.blk C2.out.2.1 2 rfl;rw [← hn.out] at y2
  cases gk with
  | zero =>
   obtain rfl : i = n := by omega
   rw [List.take_of_length_le (by have := hn.out; omega)] at hN;have hkv := hN.out.kv (by rw [List.length_map]; have := hx.out.few; omega);rw [show (⟨cn (bv x.f0), x.f1.map ofP⟩ : TR) = rr from HRR.out.symm] at hkv;have E := Sdq.mk (end3 (O := fun k => w0.heap.size + 2 ≤ k) (ok := ok) C2.out.1 C2.out.2.2.1 (Nat.le_succ _) (fun k hk => ⟨hok.out k (by omega), by omega⟩) hkv _ rfl);have z0 := Ctx.blk hN.out.blk 0 rfl;have z1 := Ctx.blk hN.out.blk 1 rfl;have z2 := Ctx.blk hN.out.blk 2 rfl;have r0 := Ctx.blk C2.out.1 0 rfl;have r1 := Ctx.blk C2.out.1 1 rfl;have r2 := Ctx.blk C2.out.1 2 rfl;have f0 := Ctx.frz C2.out.1 0;have f1 := Ctx.frz C2.out.1 1;have f2 := Ctx.frz C2.out.1 2;clear hN hkv C2
   go_wp2_with fail
   have E := E.out;clear z0 z1 z2 r0 r1 r2 f0 f1 f2;generalize World.setCell _ _ _ = wf at E ⊢;obtain ⟨EP, e0, e1, e2⟩ := E;exact bodyPost_ret (by first | (simp [results, Tryd.results14, go_sem, e0, e1, e2]; done) | (simp [results, Tryd.results14, go_sem, e0, e1, e2]; rfl)) rfl EP
  | succ j =>
   have hin : i < x.f1.length := by have := hn.out; omega
   obtain ⟨B', d', e1, -, hF⟩ := C2.out.2.2.2.1
   injection e1 with e2 _ e3
   subst e2;subst e3;obtain ⟨ad, e, rfl, x0, x1, x2, hfk⟩ := Go.Proofs.YthpgjgmaamcaoaaDoor.P.row_el hF hin;have HP := Sdq.mk (And.intro hgi hin)
   have hin2 : i < n := by omega
   have hst := Sdq.mk (show (x.f1.take (i + 1)).map ofP = (x.f1.take i).map ofP ++ [ofP x.f1[i]] by rw [List.take_succ_eq_append_getElem hin, List.map_append]; rfl);have hev : e.v = x.f1[i].f0 := (Go.Proofs.YthpgjgmaamcaoaaDoor.P.fk_el hfk).1;have hqd := Sdq.mk (hx.out.p x.f1[i] (List.getElem_mem hin))
   obtain ⟨q, eq⟩ : ∃ q, q = x.f1[i] := ⟨_, rfl⟩
   rw [← eq] at hfk hev hst hqd;have HEV := Sdq.mk hev
   obtain ⟨xs, hxs⟩ : ∃ xs, xs = (x.f1.take i).map ofP := ⟨_, rfl⟩
   rw [← hxs] at hN hst;have hxl := Sdq.mk (show xs.length ≤ 39 by rw [hxs]; simp; omega);clear hF eq hxs hgi hin hev
   have C6 : Ctx [uBS (w0.heap.size + 2) w4 (cn (bv x.f0)).f0 zA zc (cn (bv x.f0)) (.slice PA no pc) os xs, uBlk w0.heap.size [.bool x.f0.f0, .slice A x.f0.f1.length c, .slice (some ad) n d] 27, uEl ad i e, uK k24 (fun _ => True) (.agg #[.bool e.b, .slice e.A e.n e.c]) q.f1] wr := ⟨hN.out, by rw [hn.out]; exact C2.out.2.1, ⟨x0, x1, x2⟩, Go.Proofs.YthpgjgmaamcaoaaDoor.P.el_kv hfk, trivial⟩
   have hL := Sdq.mk (fun (W : World) (hC : Ctx [uBS (w0.heap.size + 2) w4 (cn (bv x.f0)).f0 zA zc (cn (bv x.f0)) (.slice PA no pc) os xs, uBlk w0.heap.size [.bool x.f0.f0, .slice A x.f0.f1.length c, .slice (some ad) n d] 27, uEl ad i e, uK k24 (fun _ => True) (.agg #[.bool e.b, .slice e.A e.n e.c]) q.f1] W) => law_num (Fo (w0.heap.size + 2) w4.heap.size (.slice PA no pc)) (.agg #[.bool e.b, .slice e.A e.n e.c]) q.f1 W hC.1.fresh hC.2.2.2.1 hqd.out);clear hfk hN
   go_upto_region 5 with fail
   clear x0 x1 x2 y2;refine absW _ C6 ?_;clear C6;intro w6 C;refine flowS (m := 17) (n := 20) law_of.tab5 rfl (Ctx _) (Rl [uEq (.pointer (some ⟨w4.heap.size, 2, none⟩)), uEq (.slice PA no pc), uEq (.pointer (some ⟨w0.heap.size, 2, none⟩)), uEq (.slice (some ad) n d), uEq (.int .i64 (i : Int)), uEq (.pointer (some (Addr.add ad (i * 3)))), uEq (.pointer (some (Addr.add ad (i * 3)))), uEq (.int .i64 e.v), uEq (.pointer (some ⟨w0.heap.size, 2, none⟩)), uEq (.slice (some ad) n d), uEq (.int .i64 (i : Int)), uEq (.pointer (some (Addr.add ad (i * 3)))), uEq (.pointer (some ⟨(Addr.add ad (i * 3)).block, (Addr.add ad (i * 3)).off + 1, none⟩)), uEq (.agg #[.bool e.b, .slice e.A e.n e.c]), uKd k34 (Fo (w0.heap.size + 2) w4.heap.size (.slice PA no pc)) (cn (bv q.f1)), uKd k66 (Fo (w0.heap.size + 2) w4.heap.size (.slice PA no pc)) (⟨q.f0, cn (bv q.f1)⟩ : S66), uBx (Fo (w0.heap.size + 2) w4.heap.size (.slice PA no pc)) (⟨q.f0, cn (bv q.f1)⟩ : S66)]) rfl (by kernel_rfl) (by kernel_rfl) (fun _ _ h hb => h.below hb) (Rl.up _) C ⟨⟨⟨⟨⟨⟨⟨⟨⟨⟨⟨⟨⟨⟨⟨⟨⟨trivial, ?_⟩, ?_⟩, ?_⟩, ?_⟩, ?_⟩, ?_⟩, ?_⟩, ?_⟩, ?_⟩, ?_⟩, ?_⟩, ?_⟩, ?_⟩, ?_⟩, ?_⟩, ?_⟩, ?_⟩ ?_
   ·refine At.of _ rfl (fun e_ a w hC hd hb K hK => ?_)
    have b3 : a.tmps[3]? = some (.pointer (some ⟨w4.heap.size, 0, none⟩)) := hb 3 (by decide);refine value_ (w1 := w) (v := .pointer (some ⟨w4.heap.size, 2, none⟩)) (by rfl) rfl ?_ (hK.out _ _ (Below.refl _ _) rfl);clear hC hd hb hK hL
    first | (go_simp; done) | (go_simp; rfl)
   ·refine At.of _ rfl (fun e_ a w hC hd hb K hK => ?_)
    have q16 := (hd 0 (by decide)).2 16 rfl;rw [show e_ 0 = _ from (hd 0 (by decide)).1] at q16;have cc2 : w.cell? ⟨w4.heap.size, 2, none⟩ = some (.slice PA no pc) := Ctx.blk hC.1.blk 2 rfl;refine value_ (w1 := w) (v := .slice PA no pc) (by rfl) rfl ?_ (hK.out _ _ (Below.refl _ _) rfl);clear hC hd hb hK hL
    first | (go_simp; done) | (go_simp; rfl)
   ·refine At.of _ rfl (fun e_ a w hC hd hb K hK => ?_)
    have b1 : a.tmps[1]? = some (.pointer (some ⟨w0.heap.size, 0, none⟩)) := hb 1 (by decide);refine value_ (w1 := w) (v := .pointer (some ⟨w0.heap.size, 2, none⟩)) (by rfl) rfl ?_ (hK.out _ _ (Below.refl _ _) rfl);clear hC hd hb hK hL
    first | (go_simp; done) | (go_simp; rfl)
   ·refine At.of _ rfl (fun e_ a w hC hd hb K hK => ?_)
    have q18 := (hd 2 (by decide)).2 18 rfl;rw [show e_ 2 = _ from (hd 2 (by decide)).1] at q18;have cc2 : w.cell? ⟨w0.heap.size, 2, none⟩ = some (.slice (some ad) n d) := Ctx.blk hC.2.1 2 rfl;refine value_ (w1 := w) (v := .slice (some ad) n d) (by rfl) rfl ?_ (hK.out _ _ (Below.refl _ _) rfl);clear hC hd hb hK hL
    first | (go_simp; done) | (go_simp; rfl)
   ·refine At.of _ rfl (fun e_ a w hC hd hb K hK => ?_)
    have b4 : a.tmps[4]? = some (.int .i64 (i : Int)) := hb 4 (by decide);refine value_ (w1 := w) (v := .int .i64 (i : Int)) (by rfl) rfl ?_ (hK.out _ _ (Below.refl _ _) rfl);clear hC hd hb hK hL
    first | (go_simp; done) | (go_simp; rfl)
   ·refine At.of _ rfl (fun e_ a w hC hd hb K hK => ?_)
    have q19 := (hd 3 (by decide)).2 19 rfl;rw [show e_ 3 = _ from (hd 3 (by decide)).1] at q19;have q20 := (hd 4 (by decide)).2 20 rfl;rw [show e_ 4 = _ from (hd 4 (by decide)).1] at q20;refine value_ (w1 := w) (v := .pointer (some (Addr.add ad (i * 3)))) (by rfl) rfl ?_ (hK.out _ _ (Below.refl _ _) rfl);clear hC hd hb hK hL
    first | (go_simp; done) | (go_simp; rfl)
   ·refine At.of _ rfl (fun e_ a w hC hd hb K hK => ?_)
    have q21 := (hd 5 (by decide)).2 21 rfl;rw [show e_ 5 = _ from (hd 5 (by decide)).1] at q21;refine value_ (w1 := w) (v := .pointer (some (Addr.add ad (i * 3)))) (by rfl) rfl ?_ (hK.out _ _ (Below.refl _ _) rfl);clear hC hd hb hK hL
    first | (go_simp; done) | (go_simp; rfl)
   ·refine At.of _ rfl (fun e_ a w hC hd hb K hK => ?_)
    have q22 := (hd 6 (by decide)).2 22 rfl;rw [show e_ 6 = _ from (hd 6 (by decide)).1] at q22;obtain ⟨x0, x1, x2⟩ := hC.2.2.1;refine value_ (w1 := w) (v := .int .i64 e.v) (by rfl) rfl ?_ (hK.out _ _ (Below.refl _ _) rfl);clear hC hd hb hK hL
    first | (go_simp; done) | (go_simp; rfl)
   ·refine At.of _ rfl (fun e_ a w hC hd hb K hK => ?_)
    have b1 : a.tmps[1]? = some (.pointer (some ⟨w0.heap.size, 0, none⟩)) := hb 1 (by decide);refine value_ (w1 := w) (v := .pointer (some ⟨w0.heap.size, 2, none⟩)) (by rfl) rfl ?_ (hK.out _ _ (Below.refl _ _) rfl);clear hC hd hb hK hL
    first | (go_simp; done) | (go_simp; rfl)
   ·refine At.of _ rfl (fun e_ a w hC hd hb K hK => ?_)
    have q24 := (hd 8 (by decide)).2 24 rfl;rw [show e_ 8 = _ from (hd 8 (by decide)).1] at q24;have cc2 : w.cell? ⟨w0.heap.size, 2, none⟩ = some (.slice (some ad) n d) := Ctx.blk hC.2.1 2 rfl;refine value_ (w1 := w) (v := .slice (some ad) n d) (by rfl) rfl ?_ (hK.out _ _ (Below.refl _ _) rfl);clear hC hd hb hK hL
    first | (go_simp; done) | (go_simp; rfl)
   ·refine At.of _ rfl (fun e_ a w hC hd hb K hK => ?_)
    have b4 : a.tmps[4]? = some (.int .i64 (i : Int)) := hb 4 (by decide);refine value_ (w1 := w) (v := .int .i64 (i : Int)) (by rfl) rfl ?_ (hK.out _ _ (Below.refl _ _) rfl);clear hC hd hb hK hL
    first | (go_simp; done) | (go_simp; rfl)
   ·refine At.of _ rfl (fun e_ a w hC hd hb K hK => ?_)
    have q25 := (hd 9 (by decide)).2 25 rfl;rw [show e_ 9 = _ from (hd 9 (by decide)).1] at q25;have q26 := (hd 10 (by decide)).2 26 rfl;rw [show e_ 10 = _ from (hd 10 (by decide)).1] at q26;refine value_ (w1 := w) (v := .pointer (some (Addr.add ad (i * 3)))) (by rfl) rfl ?_ (hK.out _ _ (Below.refl _ _) rfl);clear hC hd hb hK hL
    first | (go_simp; done) | (go_simp; rfl)
   ·refine At.of _ rfl (fun e_ a w hC hd hb K hK => ?_)
    have q27 := (hd 11 (by decide)).2 27 rfl;rw [show e_ 11 = _ from (hd 11 (by decide)).1] at q27;refine value_ (w1 := w) (v := .pointer (some ⟨(Addr.add ad (i * 3)).block, (Addr.add ad (i * 3)).off + 1, none⟩)) (by rfl) rfl ?_ (hK.out _ _ (Below.refl _ _) rfl);clear hC hd hb hK hL
    first | (go_simp; done) | (go_simp; rfl)
   ·refine At.of _ rfl (fun e_ a w hC hd hb K hK => ?_)
    have q28 := (hd 12 (by decide)).2 28 rfl;rw [show e_ 12 = _ from (hd 12 (by decide)).1] at q28;obtain ⟨x0, x1, x2⟩ := hC.2.2.1;refine value_ (w1 := w) (v := .agg #[.bool e.b, .slice e.A e.n e.c]) (by rfl) rfl ?_ (hK.out _ _ (Below.refl _ _) rfl);clear hC hd hb hK hL
    first | (go_simp; done) | (go_simp; rfl)
   ·refine At.of _ rfl (fun e_ a w hC hd hb K hK => ?_)
    have q29 := (hd 13 (by decide)).2 29 rfl;rw [show e_ 13 = _ from (hd 13 (by decide)).1] at q29;refine goes_ Tryd.func26 (by kernel_rfl) rfl #[.agg #[.bool e.b, .slice e.A e.n e.c]] (by rfl) rfl rfl (by first | (simp [Act.eval, q29]; done) | (simp [Act.eval, q29]; rfl)) ?_;refine (hL.out w hC).mono ?_;rintro en w' ⟨v, rfl, hv, hb'⟩;exact ⟨v, rfl, hK.out v w' hb' hv⟩
   ·refine At.of _ rfl (fun e_ a w hC hd hb K hK => ?_)
    have q23 := (hd 7 (by decide)).2 23 rfl;rw [show e_ 7 = _ from (hd 7 (by decide)).1] at q23;have q30 := (hd 14 (by decide)).2 30 rfl;obtain ⟨yA, yc, heN, yl, yF⟩ := Kv.openN (hd 14 (by decide)).1;rw [heN] at q30;refine value_ (w1 := w) (v := .agg #[.int .i64 e.v, .bool (cn (bv q.f1)).f0, .slice yA (cn (bv q.f1)).f1.length yc]) (by rfl) rfl ?_ (hK.out _ _ (Below.refl _ _) ⟨_, rfl, by rw [HEV.out]; exact k66_mkF w _ (⟨q.f0, cn (bv q.f1)⟩ : S66) yl yF⟩);clear hC hd hb hK hL yl yF heN
    first | (go_simp; done) | (go_simp; rfl)
   ·refine At.of _ rfl (fun e_ a w hC hd hb K hK => ?_)
    have q31 := (hd 15 (by decide)).2 31 rfl;obtain ⟨cs8, he8, hK8⟩ := (hd 15 (by decide)).1;obtain ⟨yA, yc, rfl, yl, yF⟩ := k66_openF hK8;rw [he8] at q31;refine value_ (w1 := w.alloc (.cells (El.cs ⟨q.f0, (cn (bv q.f1)).f0, yA, (cn (bv q.f1)).f1.length, yc⟩).toArray 66)) (v := .slice (some ⟨w.heap.size, 0, none⟩) 1 1) (by rfl) rfl ?_ (hK.out _ _ (bal (Below.refl _ _) _) ⟨w.heap.size, _, rfl, blk_new w _, Kd.FK_below hK8 (bal (Below.refl _ _) _)⟩);clear hC hd hb hK hL yl yF he8 hK8;unfold El.cs
    first | (go_simp; done) | (go_simp; rfl)
   ·intro e_ w10 hC hr a ha
    obtain ⟨gb, e', he8, hbx, hK8⟩ := hr.2;have r1 : e_ 1 = .slice PA no pc := hr.1.1.1.1.1.1.1.1.1.1.1.1.1.1.1.2;simp only [fill, Act.put, r1, he8, Nat.reduceAdd, Nat.reduceLT, decide_true, decide_false, if_true, Bool.false_eq_true, if_false, List.setIfInBounds_toArray, List.set_cons_zero, List.set_cons_succ] at ha;subst ha;clear hr r1 he8 hL;obtain rfl := eno.out;obtain ⟨i0, hi, hzz⟩ := Option.map_eq_some_iff.1 infoP;simp only [Prod.mk.injEq] at hzz;obtain ⟨hz1, hz2, hz3⟩ := hzz;have hHI := Sdq.mk (And.intro hi (And.intro hz1 (And.intro hz2 hz3)));clear hi hz1 hz2 hz3;have hN := Sdq.mk (show BS (w0.heap.size + 2) w4 w10 (cn (bv x.f0)).f0 zA zc (cn (bv x.f0)) (.slice PA os.length pc) os xs from hC.1);have hnw := Sdq.mk (bx_news hbx);have hone := Sdq.mk (cs_one1 e');have hK := Sdq.mk hK8;have hOL := Sdq.mk (show os.length ≤ 100001 by have := hN.out.len; have := hxl.out; omega);have hs6 := Sdq.mk (show w4.heap.size + 1 ≤ w10.heap.size by have h1 := blk_lt (show w10.heap[w4.heap.size]? = _ from hN.out.blk); omega);clear hC hbx hK8 C;simp only [List.drop_succ_cons, List.drop_zero]
    go_wp2_with (first
     | ((with_reducible refine gate_builtin (b := .append) (xs := #[.tmp 17, .tmp 32]) rfl ?_); at_builtin; go_loud (refine wpList_append_own_at _ rfl (.tmp 17) (.tmp 32) 35 rfl (w4.heap.size + 1) 66 i0 _ 3 40 undP hHI.out.1 hHI.out.2.1 hHI.out.2.2.1 hHI.out.2.2.2 rfl (by decide) (.slice PA os.length pc) os.length (os.flatMap El.cs) rfl hN.out.own ⟨gb, 0, none⟩ 1 1 e'.cs rfl rfl hnw.out hone.out (by have := hOL.out; simp only [maxLen]; omega) (by have := hOL.out; omega) hs6.out ?_; intro v1 w11 hown1 hg1 hnil1 hat1; obtain ⟨g1, c1, hv1, -⟩ := ownsRow_slice hown1 (by omega); subst hv1; have hgb := (show (uBlk w4.heap.size _ 37).p w11 from (hg1.block _ (blk_lt (show w10.heap[w4.heap.size]? = _ from hN.out.blk)) hN.out.apart).trans hN.out.blk); have z3 := Ctx.blk hgb 2 rfl; have f3 := Ctx.frz hgb 2; have HNS := Sdq.mk (hN.out.app hK.out hg1 hat1 hown1); clear hgb hown1 hg1 hnil1 hat1)))
    clear z3 f3
    go_roundg j
    case measure => go_light; omega
    case rel => go_light; exact ⟨i + 1, .slice (some ⟨g1, 0, none⟩) (os.length + 1) c1, os ++ [e'], by have := HP.out; omega, by go_num, ⟨by rw [hst.out]; exact HNS.out⟩⟩
end Go.Proofs.YthpgjgmaamcaoaaDoor.P.R
end
section
namespace Go.Proofs.YthpgjgmaamcaoaaDoor.P.R
open Go.RowKit Go.Shelf Go.Proofs.YthpgjgmaamcaoaaDoor.P Go.Proofs.YthpgjgmaamcaoaaDoorW.PrintWords Go.Proofs.YthpgjgmaamcaoaaDoorW.PrintLast Go.Proofs.YthpgjgmaamcaoaaDoorW.PrintMore Go.Proofs.YthpgjgmaamcaoaaDoor.Nm
set_option maxRecDepth 100000
set_option linter.unusedVariables false
set_option linter.unusedSimpArgs false
theorem law_sameT (n : Int) (u v : Value) (w0 : World) (h : Kv k24 (fun _ => True) w0 u (can n)) (h' : Kv k34 (fun _ => True) w0 v (cn n)) (hx : Big (can n)) (hy : Dec (cn n)) :
  Calls Tryd.prog 33 #[u, v] w0 fun e w' => ∃ v, e = .returned v ∧ v = .bool true ∧ Below w0.heap.size w0 w' :=
 (law_sameNum n u v (cn n) w0 h h' hy (nv_cn n) hx).mono (fun e w' he => ⟨_, he.1, rfl, he.2⟩)
end Go.Proofs.YthpgjgmaamcaoaaDoor.P.R
end
section
namespace Go.Proofs.YthpgjgmaamcaoaaDoor.P
open Go.RowKit Go.Shelf Go.Proofs.YthpgjgmaamcaoaaDoorW.PrintWords Go.Proofs.YthpgjgmaamcaoaaDoorW.PrintLast Go.Proofs.YthpgjgmaamcaoaaDoorW.PrintMore Go.Proofs.YthpgjgmaamcaoaaDoor.Nm
set_option maxRecDepth 100000
set_option linter.unusedVariables false
def SeqX {α : Type} (n : Nat) (P : Program) (g : Nat) (lb : Array Value) (encs : α → Array Value) (RX : α → World → Prop) (Kp : World → World → Prop) (S Sp : List α → Prop) (N : Nat) (w : World) : Prop :=
 ∀ (l : Nat) (J Jx : List α → World → Prop) (W : World), Below w.heap.size w W → w.heap.size + 2 ≤ W.heap.size → AbidesFrom W.heap.size J → AbidesFrom W.heap.size Jx →
  (∀ pre x V, J pre V → RX x V → pre.length < N → YieldAt Fence.wide (n - 1) P l (encs x) V fun e V' =>
   (e = .returned (.bool true) ∧ J (pre ++ [x]) V' ∧ Kp V V') ∨ (e = .returned (.bool false) ∧ Jx (pre ++ [x]) V')) →
  J [] W →
  CallsIn Fence.wide n P g (#[.func (.yield l) #[] #[]] ++ lb) W fun e W' => (∃ v, e = .returned v) ∧ ((∃ xs, S xs ∧ J xs W') ∨ (∃ pre, Sp pre ∧ Jx pre W'))
theorem not_cells {w W1 A B : World} (hs : w.heap.size ≤ W1.heap.size) {row : Option Nat} (hr : ∀ r, row = some r → W1.heap.size ≤ r ∧ ∃ o : Obj, A.heap[r]? = some o ∧ o.isWalk = true) : ∀ r, row = some r → w.heap.size ≤ r ∧ ∃ o : Obj, A.heap[r]? = some o ∧ o.isCells = false := fun r e => by
 obtain ⟨h1, o, h2, h3⟩ := hr r e;exact ⟨Nat.le_trans hs h1, o, h2, Obj.not_cells_of_walk h3⟩
set_option maxHeartbeats 1600000 in
theorem wp_rangeX {P : Program} {α : Type} {g : Operand} {ps : Array Tmp} {assign body : Code} {Q : Exit → Act → World → Prop} {a : Act} {w : World}
  {gf : Nat} {lb : Array Value} (hg : a.eval g = .func (.func gf) #[] lb) (eg : ∀ args w, (callFunc gf args).run P w = .ok (.enter gf args) w)
  {encs : α → Array Value} {RX : α → World → Prop} {Kp : World → World → Prop} {S Sp : List α → Prop} {N : Nat} (hseq : SeqX 2 P gf lb encs RX Kp S Sp N w)
  (hKt : ∀ {A B C : World}, Kp A B → Kp B C → Kp A C) (hKb : ∀ (W : World) (o o' : Obj), W.heap[w.heap.size + 1]? = some o → Kp W (W.putObj (w.heap.size + 1) o')) (hps : ∀ x, (encs x).size = ps.size)
  (I : List α → World → Prop) (Ix : Code → List α → World → Prop) (hI : OwnFrom w.heap.size I) (hIx : ∀ c, OwnFrom w.heap.size (Ix c)) (h0 : I [] w) (Ax : α → Act → World → Prop) (hAx : ∀ x a' W o o', Ax x a' W → W.heap[w.heap.size + 1]? = some o → o.isCells = false → Ax x a' (W.putObj (w.heap.size + 1) o'))
  (hassign : ∀ (l : Nat) (pre : List α) (x : α) (W : World) (K : Act → World → Prop), w.heap.size + 2 ≤ W.heap.size → I pre W → RX x W → (∀ a' W', KeepsFrom w.heap.size W W' → Kp W W' → I pre W' → Ax x a' W' → K a' W') →
   assign.wpIn (Fence.wide.inRound l) 1 P (Exit.then K (fun _ _ _ => False)) { tmps := (ps.zip (encs x)).foldl (fun t (p, v) => t.setIfInBounds p v) a.tmps, defers := [] } W)
  (hbody : ∀ (l : Nat) (pre : List α) (x : α) (a' : Act) (W : World), I pre W → Ax x a' W → pre.length < N → body.wpIn (Fence.wide.inRound l) 1 P (ownPostG w.heap.size Kp I Ix (pre ++ [x]) W) a' W)
  (hdone : ∀ (D : Nat) (xs : List α) (W : World), w.heap.size ≤ D → S xs → I xs W → W.heap[D]? = some (.deferred (some [])) → Q .normal { a with defers := { target := .collected D, args := #[] } :: a.defers } W)
  (hstop : ∀ (D : Nat) (c : Code) (pre : List α) (W : World), w.heap.size ≤ D → Sp pre → Ix c pre W → W.heap[D]? = some (.deferred (some [])) → c.wp P Q { a with defers := { target := .collected D, args := #[] } :: a.defers } W) :
  (Code.rangeFunc g ps assign body).wp P Q a w := by
 refine wpIn_wide.1 (show (Code.rangeFunc g ps assign body).wpIn Fence.wide 3 P Q a w from ?_)
 refine wpIn_rangeFunc fun fn hfn => ?_
 rw [show (Fence.wide).round = none from rfl]
 obtain ⟨rc, erc⟩ : ∃ rc : LoopState → Option Code → Loop, rc = fun st pe => { state := st, pending := pe, fn, tmps := a.tmps, params := ps, assign, body, defers := w.heap.size } := ⟨_, rfl⟩
 obtain ⟨V, eV⟩ : ∃ V, (w.alloc (.deferred (some []))).alloc (.loop (rc .ready none)) = V := ⟨_, rfl⟩
 have sV : w.heap.size ≤ V.heap.size := by rw [← eV]; simp; omega
 have hR : V.heap[w.heap.size + 1]? = some (.loop (rc .ready none)) := by
  rw [← eV]; have := World.alloc_heap_new (w.alloc (.deferred (some []))) (.loop (rc .ready none)); rwa [World.size_alloc] at this
 have hD : V.heap[w.heap.size]? = some (.deferred (some [])) := by
  rw [← eV]; exact (Below.heap_alloc _ _ _ (by simp)).trans (World.alloc_heap_new w _)
 have hIV : I [] V := by rw [← eV]; exact hI.alloc _ (hI.alloc _ h0)
 have hbV : Below w.heap.size w V := by
  rw [← eV]; exact (((Below.refl _ w).alloc (Nat.le_refl _) _).alloc (by simp) _)
 have hsV : w.heap.size + 2 ≤ V.heap.size := by rw [← eV]; simp
 refine ⟨w.heap.size + 1, [{ target := .collected w.heap.size, args := #[] }], V, { target := .fn (.func gf) lb, args := #[.func (.yield (w.heap.size + 1)) #[] #[]] }, V, gf,
  #[.func (.yield (w.heap.size + 1)) #[] #[]] ++ lb, V, ?_, ?_, ?_, ?_, fun _ => by decide, ?_⟩
 ·rw [← eV, erc]; exact run_enterLoop_outer _ _ _ _ _
 ·simp only [resolve, hg]
  simp [go_sem]
 ·intro f' hf'; trivial
 ·simp [invoke, go_sem, eg]
 have keepR : ∀ {A B : World} {row : Option Nat} {k : Nat} {o : Obj}, A.grownBy B row → (∀ r, row = some r → V.heap.size ≤ r ∧ ∃ o : Obj, A.heap[r]? = some o ∧ o.isWalk = true) → A.heap[k]? = some o → o.isWalk = false → B.heap[k]? = some o := fun hg hr hk ho =>
  (grownBy_keeps hg (fun r e => (hr r e).2) hk ho).trans hk
 refine (hseq (w.heap.size + 1) (fun pre W => I pre W ∧ W.heap[w.heap.size + 1]? = some (.loop (rc .ready none)) ∧ W.heap[w.heap.size]? = some (.deferred (some [])))
  (fun pre W => ∃ c, Ix c pre W ∧ W.heap[w.heap.size + 1]? = some (.loop (rc .done (some c))) ∧ W.heap[w.heap.size]? = some (.deferred (some [])))
  V hbV hsV (fun s A B row hs hg' hr => ⟨hI s A B row hs.1 hg' (not_cells (B := B) sV hr), keepR hg' hr hs.2.1 rfl, keepR hg' hr hs.2.2 rfl⟩)
  (fun s A B row hs hg' hr => by
   obtain ⟨c, h1, h2, h3⟩ := hs
   exact ⟨c, hIx c s A B row h1 hg' (not_cells (B := B) sV hr), keepR hg' hr h2 rfl, keepR hg' hr h3 rfl⟩) ?_ ⟨hIV, hR, hD⟩).mono ?_
 ·rintro pre x X ⟨hi, hl, hk⟩ hrx hlen
  have hy := run_yield (P := P) (args := encs x) hl (by rw [erc]; exact hps x);rw [erc] at hy;refine ⟨fn, _, assign, body, hy, roundIn_of_wpIn hfn (hassign _ pre x X _ (Array.getElem?_eq_some_iff.1 hl).1 hi hrx fun a' Y hkf hkp hiY hax => ?_)⟩;have hlY := hkf.same _ _ (by omega) hl rfl;have hkY := hkf.same _ _ (Nat.le_refl _) hk rfl;have hlt : w.heap.size + 1 < Y.heap.size := (Array.getElem?_eq_some_iff.1 hlY).1;refine ⟨_, run_beginRound hlY (by rw [erc]), ?_⟩;have hl2 : (Y.putObj (w.heap.size + 1) (.loop { rc .ready none with state := .busy })).heap[w.heap.size + 1]? = some (.loop { rc .ready none with state := .busy }) := World.putObj_heap_same hlt;have hk2 : (Y.putObj (w.heap.size + 1) (.loop { rc .ready none with state := .busy })).heap[w.heap.size]? = some (.deferred (some [])) := (World.putObj_heap_other (by omega)).trans hkY;refine wpIn_mono (hbody _ pre x a' _ (hI.putObj _ hiY (by omega) hlY rfl) (hAx x a' _ _ _ hax hlY rfl) hlen) ?_
  have fin : ∀ (j : Option Code) (Z : World), KeepsFrom w.heap.size (Y.putObj (w.heap.size + 1) (.loop { rc .ready none with state := .busy })) Z →
    (Instr.endRound (w.heap.size + 1) j).run P Z = .ok (.bool j.isNone) (Z.putObj (w.heap.size + 1) (.loop (rc (if j.isNone then .ready else .done) j))) ∧ Z.heap[w.heap.size + 1]? = some (.loop { rc .ready none with state := .busy }) ∧
    (Z.putObj (w.heap.size + 1) (.loop (rc (if j.isNone then .ready else .done) j))).heap[w.heap.size + 1]? = some (.loop (rc (if j.isNone then .ready else .done) j)) ∧ (Z.putObj (w.heap.size + 1) (.loop (rc (if j.isNone then .ready else .done) j))).heap[w.heap.size]? = some (.deferred (some [])) := fun j Z hZ => by
   have h3 := hZ.same _ _ (by omega) hl2 rfl;have h4 := run_endRound (P := P) j h3;rw [erc] at h3 h4 ⊢;exact ⟨h4, h3, World.putObj_heap_same (Array.getElem?_eq_some_iff.1 h3).1, (World.putObj_heap_other (by omega)).trans (hZ.same _ _ (Nat.le_refl _) hk2 rfl)⟩
  have out : ∀ (c : Code) (Z : World), KeepsFrom w.heap.size (Y.putObj (w.heap.size + 1) (.loop { rc .ready none with state := .busy })) Z → Ix c (pre ++ [x]) Z → ∃ c', Ix c' (pre ++ [x]) (Z.putObj (w.heap.size + 1) (.loop (rc .done (some c)))) ∧ (Z.putObj (w.heap.size + 1) (.loop (rc .done (some c)))).heap[w.heap.size + 1]? = some (.loop (rc .done (some c'))) ∧ (Z.putObj (w.heap.size + 1) (.loop (rc .done (some c)))).heap[w.heap.size]? = some (.deferred (some [])) := fun c Z hZ hi => by
   obtain ⟨_, h3, h4, h5⟩ := fin (some c) Z hZ;exact ⟨c, (hIx c).putObj _ hi (by omega) h3 rfl, h4, h5⟩
  rintro e a3 Z hp
  cases e with
  | normal =>
   obtain ⟨hZ, hkZ, hiZ⟩ := hp;obtain ⟨h2, h3, h4, h5⟩ := fin none Z hZ;exact ⟨_, _, h2, .inl ⟨rfl, ⟨hI.putObj _ hiZ (by omega) h3 rfl, h4, h5⟩, hKt hkp (hKt (hKt (hKb _ _ _ hlY) hkZ) (hKb _ _ _ h3))⟩⟩
  | ret => exact ⟨_, _, (fin (some .ret) Z hp.1).1, .inr ⟨rfl, out _ Z hp.1 hp.2⟩⟩
  | exit id => exact ⟨_, _, (fin (some (.exit id)) Z hp.1).1, .inr ⟨rfl, out _ Z hp.1 hp.2⟩⟩
  | goto t => exact ⟨_, _, (fin (some (.goto t)) Z hp.1).1, .inr ⟨rfl, out _ Z hp.1 hp.2⟩⟩
  | panic ch => exact hp.elim
  | outgrown => exact hp.elim
 ·rintro e Z ⟨⟨v, rfl⟩, (⟨xs, hS, hi, hl, hk⟩ | ⟨pre, hSp, c, hi, hl, hk⟩)⟩
  ·exact ⟨none, _, by have := run_endLoop (P := P) hl (by rw [erc]; simp); rw [erc] at this; exact this, hdone _ xs _ (Nat.le_refl _) hS (hI.putObj _ hi (by omega) hl rfl) ((World.putObj_heap_other (by omega)).trans hk)⟩
  ·exact ⟨some c, _, by have := run_endLoop (P := P) hl (by rw [erc]; simp); rw [erc] at this; exact this, wpIn_wide.2 (hstop _ c pre _ (Nat.le_refl _) hSp ((hIx c).putObj _ hi (by omega) hl rfl) ((World.putObj_heap_other (by omega)).trans hk))⟩
end Go.Proofs.YthpgjgmaamcaoaaDoor.P
end
section
namespace Go.Proofs.YthpgjgmaamcaoaaDoor
open Go.Shelf
def Tryd.lays170_ren : Go.Shelf.Ren := ⟨fun | 170 => 60 | n => n, fun | 70 => 101 | 3 => 3 | 0 => 0 | 72 => 104 | 37 => 102 | 5 => 5 | n => n, fun | n => n⟩
theorem Tryd.lays170 : Go.Proofs.Lays.n170 Tryd.prog Tryd.lays170_ren := {
 mixed := by kernel_rfl
 f170 := Tryd.func60.trans (congrArg some (by kernel_rfl))
 t0 := Tryd.underlying0
 a0 := Tryd.isAgg0
 z0 := Tryd.sizeOf0
 v0 := Tryd.zeroValue0
 t3 := Tryd.underlying3
 a3 := Tryd.isAgg3
 z3 := Tryd.sizeOf3
 v3 := Tryd.zeroValue3
 t37 := Tryd.underlying102
 a37 := Tryd.isAgg102
 z37 := Tryd.sizeOf102
 v37 := Tryd.zeroValue102
 t70 := Tryd.underlying101
 a70 := Tryd.isAgg101
 z70 := Tryd.sizeOf101
 v70 := Tryd.zeroValue101
 t72 := Tryd.underlying104
 a72 := Tryd.isAgg104
 z72 := Tryd.sizeOf104
 v72 := Tryd.zeroValue104 }
open Go.RowKit in
theorem Tryd.Builder_Len (B b : Nat) (bs : List Value) (w : World) (h : Lib.IsBuilder 104 5 B b bs w) :
  Calls Tryd.prog 60 #[.pointer (some ⟨b, 0, none⟩)] w fun e w' => e = .returned (.int .i64 bs.length) ∧ w' = w := Any.Builder_Len Tryd.lays170 B b bs w h
def Tryd.lays169_ren : Go.Shelf.Ren := ⟨fun | 169 => 65 | n => n, fun | 70 => 101 | 9 => 9 | 0 => 0 | 72 => 104 | 37 => 102 | 127 => 136 | 3 => 3 | 5 => 5 | n => n, fun | n => n⟩
theorem Tryd.lays169 : Go.Proofs.Lays.n169 Tryd.prog Tryd.lays169_ren := {
 mixed := by kernel_rfl
 f169 := Tryd.func65.trans (congrArg some (by kernel_rfl))
 t0 := Tryd.underlying0
 a0 := Tryd.isAgg0
 z0 := Tryd.sizeOf0
 v0 := Tryd.zeroValue0
 t3 := Tryd.underlying3
 a3 := Tryd.isAgg3
 z3 := Tryd.sizeOf3
 v3 := Tryd.zeroValue3
 t9 := Tryd.underlying9
 a9 := Tryd.isAgg9
 z9 := Tryd.sizeOf9
 v9 := Tryd.zeroValue9
 t37 := Tryd.underlying102
 a37 := Tryd.isAgg102
 z37 := Tryd.sizeOf102
 v37 := Tryd.zeroValue102
 t70 := Tryd.underlying101
 a70 := Tryd.isAgg101
 z70 := Tryd.sizeOf101
 v70 := Tryd.zeroValue101
 t72 := Tryd.underlying104
 a72 := Tryd.isAgg104
 z72 := Tryd.sizeOf104
 v72 := Tryd.zeroValue104
 t127 := Tryd.underlying136
 a127 := Tryd.isAgg136
 z127 := Tryd.sizeOf136
 v127 := Tryd.zeroValue136 }
theorem Tryd.Builder_Extra_169 : Builder.Extra Tryd.prog Tryd.lays169_ren := {
 sizeBuilder := by kernel_rfl
 liesBuilder := by kernel_rfl
 t5 := Tryd.underlying5
 a5 := Tryd.isAgg5
 z5 := Tryd.sizeOf5
 v5 := Tryd.zeroValue5
 infoByte := by kernel_rfl
 cellsByte := by kernel_rfl
 sizeByte := by kernel_rfl
 neB5 := by decide }
open Go.RowKit in
theorem Tryd.Builder_String_any_k (B b : Nat) (l : List UInt8) (w : World) (h : Lib.IsBuilderF 104 5 B b (Lib.byteCells l) w) (hBw : B ≤ w.heap.size) :
  Calls Tryd.prog 65 #[.pointer (some ⟨b, 0, none⟩)] w fun e w' => e = .returned (.string ⟨l.toArray⟩) ∧ (Lib.IsBuilderF 104 5 B b (Lib.byteCells l) w' ∧ Below B w w' ∧ Lib.OthersKept 5 (some b) w w') := Any.Builder_String_any_k Tryd.lays169 Tryd.Builder_Extra_169 B b l w h hBw
def Tryd.laysM171_ren : Go.Shelf.Ren := ⟨fun | 171 => 64 | 243 => 90 | 246 => 105 | 283 => 108 | 284 => 109 | 285 => 110 | 286 => 111 | 129 => 114 | 317 => 113 | 318 => 115 | 319 => 116 | 320 => 117 | 337 => 118 | 338 => 119 | n => n, fun | 3 => 3 | 9 => 9 | 2 => 2 | 4 => 4 | 171 => 158 | 0 => 0 | 53 => 61 | 37 => 102 | 5 => 5 | 173 => 161 | 212 => 165 | 51 => 93 | 20 => 20 | 213 => 166 | 46 => 148 | 232 => 169 | 233 => 170 | n => n, fun | 17 => 0 | 18 => 1 | 19 => 2 | n => n⟩
theorem Tryd.laysM171 : Go.Proofs.LaysM.n171 Tryd.prog Tryd.laysM171_ren := {
 mixed := by kernel_rfl
 f129 := Tryd.func114.trans (congrArg some (by kernel_rfl))
 f171 := Tryd.func64.trans (congrArg some (by kernel_rfl))
 f243 := Tryd.func90.trans (congrArg some (by kernel_rfl))
 f246 := Tryd.func105.trans (congrArg some (by kernel_rfl))
 f283 := Tryd.func108.trans (congrArg some (by kernel_rfl))
 f284 := Tryd.func109.trans (congrArg some (by kernel_rfl))
 f285 := Tryd.func110.trans (congrArg some (by kernel_rfl))
 f286 := Tryd.func111.trans (congrArg some (by kernel_rfl))
 f317 := Tryd.func113.trans (congrArg some (by kernel_rfl))
 f318 := Tryd.func115.trans (congrArg some (by kernel_rfl))
 f319 := Tryd.func116.trans (congrArg some (by kernel_rfl))
 f320 := Tryd.func117.trans (congrArg some (by kernel_rfl))
 f337 := Tryd.func118.trans (congrArg some (by kernel_rfl))
 f338 := Tryd.func119.trans (congrArg some (by kernel_rfl))
 t0 := Tryd.underlying0
 a0 := Tryd.isAgg0
 z0 := Tryd.sizeOf0
 v0 := Tryd.zeroValue0
 t2 := Tryd.underlying2
 a2 := Tryd.isAgg2
 z2 := Tryd.sizeOf2
 v2 := Tryd.zeroValue2
 t3 := Tryd.underlying3
 a3 := Tryd.isAgg3
 z3 := Tryd.sizeOf3
 v3 := Tryd.zeroValue3
 t4 := Tryd.underlying4
 a4 := Tryd.isAgg4
 z4 := Tryd.sizeOf4
 v4 := Tryd.zeroValue4
 t5 := Tryd.underlying5
 a5 := Tryd.isAgg5
 z5 := Tryd.sizeOf5
 v5 := Tryd.zeroValue5
 t9 := Tryd.underlying9
 a9 := Tryd.isAgg9
 z9 := Tryd.sizeOf9
 v9 := Tryd.zeroValue9
 t20 := Tryd.underlying20
 a20 := Tryd.isAgg20
 z20 := Tryd.sizeOf20
 v20 := Tryd.zeroValue20
 t37 := Tryd.underlying102
 a37 := Tryd.isAgg102
 z37 := Tryd.sizeOf102
 v37 := Tryd.zeroValue102
 t46 := Tryd.underlying148
 a46 := Tryd.isAgg148
 z46 := Tryd.sizeOf148
 v46 := Tryd.zeroValue148
 t51 := Tryd.underlying93
 a51 := Tryd.isAgg93
 z51 := Tryd.sizeOf93
 v51 := Tryd.zeroValue93
 t53 := Tryd.underlying61
 a53 := Tryd.isAgg61
 z53 := Tryd.sizeOf61
 v53 := Tryd.zeroValue61
 t171 := Tryd.underlying158
 a171 := Tryd.isAgg158
 z171 := Tryd.sizeOf158
 v171 := Tryd.zeroValue158
 t173 := Tryd.underlying161
 a173 := Tryd.isAgg161
 z173 := Tryd.sizeOf161
 v173 := Tryd.zeroValue161
 t212 := Tryd.underlying165
 a212 := Tryd.isAgg165
 z212 := Tryd.sizeOf165
 v212 := Tryd.zeroValue165
 t213 := Tryd.underlying166
 a213 := Tryd.isAgg166
 z213 := Tryd.sizeOf166
 t232 := Tryd.underlying169
 a232 := Tryd.isAgg169
 z232 := Tryd.sizeOf169
 v232 := Tryd.zeroValue169
 t233 := Tryd.underlying170
 a233 := Tryd.isAgg170
 z233 := Tryd.sizeOf170
 v233 := Tryd.zeroValue170
 g17 := by kernel_rfl
 g18 := by kernel_rfl
 g19 := by kernel_rfl
 i0 := by kernel_rfl
 i2 := by kernel_rfl
 i3 := by kernel_rfl
 i4 := by kernel_rfl
 i5 := by kernel_rfl
 i9 := by kernel_rfl
 i20 := by kernel_rfl
 i37 := by kernel_rfl
 i46 := by kernel_rfl
 i51 := by kernel_rfl
 i53 := by kernel_rfl
 i171 := by kernel_rfl
 i173 := by kernel_rfl
 i212 := by kernel_rfl
 i232 := by kernel_rfl
 i233 := by kernel_rfl
 m17 := by kernel_rfl
 m18 := by kernel_rfl
 m19 := by kernel_rfl }
open Go.RowKit Go.Sort Go.Lib in
theorem Tryd.strconv_Itoa (n : Int) (h0 : -9223372036854775808 ≤ n) (h1 : n ≤ 9223372036854775807) (w : World) (htab : Lib.TabIs Tryd.prog w "internal/strconv.uint64pow10" .u64 Lib.pow10Tab) :
  Calls Tryd.prog 64 #[.int .i64 n] w fun e w' => e = .returned (.string ⟨(Lib.itoa n).toArray⟩) ∧ ∃ k os, w' = grow (w.drewN k) os := Any.strconv_Itoa Tryd.laysM171 n h0 h1 w htab
end Go.Proofs.YthpgjgmaamcaoaaDoor
end
