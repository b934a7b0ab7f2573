/- Walks and words of this session, put together by a program of this session (pack.py). Conditions: as each text says. -/
import Derived.OpenShut
import Derived.ChangeSlices
import Derived.Deep.Slices
import Derived.Test.YteighppcdpaekaaDoorP2
import Derived.Test.YteighppcdpaekaaDoorP7
import Derived.Test.YteighppcdpaekaaDoorP9
import Derived.Test.YteighppcdpaekaaDoorP11
import Derived.Test.YteighppcdpaekaaDoorP12
set_option linter.unusedVariables false
set_option linter.unusedSimpArgs false
section
namespace Go.Proofs.YteighppcdpaekaaDoor.Rf
open Go.RowKit Go.Proofs.YteighppcdpaekaaDoorW.PrintWords Go.Proofs.YteighppcdpaekaaDoor Go.Proofs.YteighppcdpaekaaDoor.P
mutual
def toR : Js.Val → S44
 | .mk k t ks l => ⟨k, strOfNums t, ks.map strOfNums, toRs l⟩
def toRs : List Js.Val → List S44
 | [] => []
 | v :: r => toR v :: toRs r
end
theorem toRs_map (l : List Js.Val) : toRs l = l.map toR := by
 induction l with
 | nil => rfl
 | cons v r ih => simp [toRs, ih]
theorem toR_mk (k : Int) (t : List Int) (ks : List (List Int)) (l : List Js.Val) : toR (.mk k t ks l) = ⟨k, strOfNums t, ks.map strOfNums, l.map toR⟩ := by rw [toR, toRs_map]
def EvI {α : Type} (g : Nat → Nat → Option α) (r : α) : Prop := ∃ K, ∀ k, K ≤ k → ∀ c, K ≤ c → g k c = some r
theorem EvI.both {α : Type} {g : Nat → Nat → Option α} {r : α} (h : EvI g r) : Ev (fun k => g k k) r := by
 obtain ⟨K, h⟩ := h
 exact ⟨K, fun k hk => h k hk k hk⟩
variable {b : List Int} {p q : Nat} {B : Int}
theorem items_stop {V : Int → Int → Int → Int → Option RVal} {k c : Nat} {l : List S44} {m : Bool} {a d e B : Int} (h : (m && e == 0) = false) : itemsF V k b (c + 1) l m a d e B = some (⟨5, ⟨#[]⟩, [], l⟩, a, d, e, B) := by
 rw [itemsF, if_neg (by rw [h]; decide)]
theorem items_go {V : Int → Int → Int → Int → Option RVal} {k c : Nat} {l : List S44} {m : Bool} {a d B a1 d1 e1 B1 a2 d2 e2 B2 : Int} {x : S44} {r : RVal} (h1 : V a d 0 B = some (x, a1, d1, e1, B1)) (hl : l.length < 1000000)
  (h2 : rR_more.f k b a1 d1 e1 B1 93 = some (m, a2, d2, e2, B2)) (h3 : itemsF V k b c (l ++ [x]) m a2 d2 e2 B2 = some r) : itemsF V k b (c + 1) l true a d 0 B = some r := by
 rw [itemsF, if_pos (by rfl), h1]
 show (if l.length < 1000000 then _ else _) = _
 rw [if_pos hl]
 show (rR_more.f k b a1 d1 e1 B1 93).bind _ = _
 rw [h2]
 exact h3
theorem pairs_stop {V : Int → Int → Int → Int → Option RVal} {k c : Nat} {ks : List ByteArray} {l : List S44} {m : Bool} {a d e B : Int} (h : (m && e == 0) = false) : pairsF V k b (c + 1) ks l m a d e B = some (⟨6, ⟨#[]⟩, ks, l⟩, a, d, e, B) := by
 rw [pairsF, if_neg (by rw [h]; decide)]
theorem pairs_go {V : Int → Int → Int → Int → Option RVal} {k c : Nat} {ks : List ByteArray} {l : List S44} {m : Bool} {a d B a1 d1 e1 B1 a2 d2 e2 B2 : Int} {key : ByteArray} {x : S44} {r : RVal} (h1 : pairF V k b ks a d 0 B = some (key, x, a1, d1, e1, B1)) (hl : l.length < 1000000 ∧ ks.length < 1000000)
  (h2 : rR_more.f k b a1 d1 e1 B1 125 = some (m, a2, d2, e2, B2)) (h3 : pairsF V k b c (ks ++ [key]) (l ++ [x]) m a2 d2 e2 B2 = some r) : pairsF V k b (c + 1) ks l true a d 0 B = some r := by
 rw [pairsF, if_pos (by rfl), h1]
 show (if l.length < 1000000 ∧ ks.length < 1000000 then _ else _) = _
 rw [if_pos hl]
 show (rR_more.f k b a1 d1 e1 B1 125).bind _ = _
 rw [h2]
 exact h3
theorem EvI.items {l : List S44} {m : Bool} {a d B a1 d1 e1 B1 a2 d2 e2 B2 : Int} {x : S44} {r : RVal} (h1 : Ev (fun k => valF b k a d 0 B) (x, a1, d1, e1, B1)) (hl : l.length < 1000000)
  (h2 : Ev (fun k => rR_more.f k b a1 d1 e1 B1 93) (m, a2, d2, e2, B2)) (h3 : EvI (fun k c => itemsF (valF b k) k b c (l ++ [x]) m a2 d2 e2 B2) r) : EvI (fun k c => itemsF (valF b k) k b c l true a d 0 B) r := by
 obtain ⟨K1, h1⟩ := h1
 obtain ⟨K2, h2⟩ := h2
 obtain ⟨K3, h3⟩ := h3
 refine ⟨K1 + K2 + K3 + 1, fun k hk c hc => ?_⟩
 obtain ⟨c, rfl⟩ : ∃ c', c = c' + 1 := ⟨c - 1, by omega⟩
 exact items_go (h1 k (by omega)) hl (h2 k (by omega)) (h3 k (by omega) c (by omega))
theorem EvI.items_stop {l : List S44} {m : Bool} {a d e B : Int} (h : (m && e == 0) = false) : EvI (fun k c => itemsF (valF b k) k b c l m a d e B) (⟨5, ⟨#[]⟩, [], l⟩, a, d, e, B) := by
 refine ⟨1, fun k hk c hc => ?_⟩
 obtain ⟨c, rfl⟩ : ∃ c', c = c' + 1 := ⟨c - 1, by omega⟩
 exact Rf.items_stop h
theorem EvI.pairs {ks : List ByteArray} {l : List S44} {m : Bool} {a d B a1 d1 e1 B1 a2 d2 e2 B2 : Int} {key : ByteArray} {x : S44} {r : RVal} (h1 : Ev (fun k => pairF (valF b k) k b ks a d 0 B) (key, x, a1, d1, e1, B1)) (hl : l.length < 1000000 ∧ ks.length < 1000000)
  (h2 : Ev (fun k => rR_more.f k b a1 d1 e1 B1 125) (m, a2, d2, e2, B2)) (h3 : EvI (fun k c => pairsF (valF b k) k b c (ks ++ [key]) (l ++ [x]) m a2 d2 e2 B2) r) : EvI (fun k c => pairsF (valF b k) k b c ks l true a d 0 B) r := by
 obtain ⟨K1, h1⟩ := h1
 obtain ⟨K2, h2⟩ := h2
 obtain ⟨K3, h3⟩ := h3
 refine ⟨K1 + K2 + K3 + 1, fun k hk c hc => ?_⟩
 obtain ⟨c, rfl⟩ : ∃ c', c = c' + 1 := ⟨c - 1, by omega⟩
 exact pairs_go (h1 k (by omega)) hl (h2 k (by omega)) (h3 k (by omega) c (by omega))
theorem EvI.pairs_stop {ks : List ByteArray} {l : List S44} {m : Bool} {a d e B : Int} (h : (m && e == 0) = false) : EvI (fun k c => pairsF (valF b k) k b c ks l m a d e B) (⟨6, ⟨#[]⟩, ks, l⟩, a, d, e, B) := by
 refine ⟨1, fun k hk c hc => ?_⟩
 obtain ⟨c, rfl⟩ : ∃ c', c = c' + 1 := ⟨c - 1, by omega⟩
 exact Rf.pairs_stop h
theorem dup_bad (key : ByteArray) (fr : Int) {e : Int} (he : e ≠ 0) (a d B : Int) : ∀ ks, dupF ks key fr a d e B = some (a, d, e, B)
 | [] => rfl
 | x :: r => by
  by_cases hx : x = key
  ·simp only [dupF, if_pos hx, if_neg he]
   exact dup_bad key fr he a d B r
  ·simp only [dupF, if_neg hx]
   exact dup_bad key fr he a d B r
theorem dup_none {key : ByteArray} (fr a d B : Int) : ∀ ks : List ByteArray, key ∉ ks → dupF ks key fr a d 0 B = some (a, d, 0, B)
 | [], _ => rfl
 | x :: r, h => by
  simp only [dupF]
  rw [if_neg (fun e => h (by simp [e]))]
  exact dup_none fr a d B r (fun hh => h (by simp [hh]))
theorem dup_some {key : ByteArray} (fr a d B : Int) : ∀ ks : List ByteArray, key ∈ ks → dupF ks key fr a d 0 B = some (a, d, 23, fr)
 | [], h => by simp at h
 | x :: r, h => by
  simp only [dupF]
  by_cases hx : x = key
  ·rw [if_pos hx, if_pos trivial]
   exact dup_bad key fr n23 a d fr r
  ·rw [if_neg hx]
   exact dup_some fr a d B r (by
    rcases List.mem_cons.1 h with e | e
    ·exact absurd e.symm hx
    ·exact e)
theorem val_bad {a d e B : Int} (he : e ≠ 0) : Ev (fun k => valF b k a d e B) (⟨0, ⟨#[]⟩, [], []⟩, a, d, e, B) := by
 refine Ev.step (f := fun _ => some (⟨0, ⟨#[]⟩, [], []⟩, a, d, e, B)) (fun k => ?_) (Ev.now _)
 rw [valF, peek_bad he]
 show (if (e != 0) = true then _ else _) = _
 rw [if_pos (by simpa using he)]
theorem pair_bad {ks : List ByteArray} {a d B a1 d1 e1 B1 : Int} {key : ByteArray} (ht : Ev (fun k => rR_text.f k b a d 0 B) (key, a1, d1, e1, B1)) (he : e1 ≠ 0) : Ev (fun k => pairF (valF b k) k b ks a d 0 B) (key, ⟨0, ⟨#[]⟩, [], []⟩, a1, d1, e1, B1) :=
 Ev.bind ht (evB (dup_bad _ _ he _ _ _ _) (Ev.bind (blank_bad he) (Ev.bind (must_bad he) (Ev.bind (blank_bad he) (Ev.bind (val_bad he) (Ev.now _))))))
def VEnds (o : Js.Out Js.Val) (d B : Int) (g : Nat → Option RVal) : Prop := match o with
 | .ok v q => Ev g (toR v, (q : Int), d, 0, B)
 | .no _ _ => ∃ x a d' e B', e ≠ 0 ∧ Ev g (x, a, d', e, B')
def IEnds (o : Js.Out Js.Val) (d B : Int) (g : Nat → Nat → Option RVal) : Prop := match o with
 | .ok v q => EvI g (toR v, (q : Int), d, 0, B)
 | .no _ _ => ∃ x a d' e B', e ≠ 0 ∧ EvI g (x, a, d', e, B')
theorem IEnds.both {o : Js.Out Js.Val} {d B : Int} {g : Nat → Nat → Option RVal} (h : IEnds o d B g) : VEnds o d B (fun k => g k k) := by
 cases o with
 | ok v q => exact EvI.both h
 | no y e => obtain ⟨x, a, d', e', B', he, h⟩ := h; exact ⟨x, a, d', e', B', he, h.both⟩
theorem VEnds.map {o : Js.Out Js.Val} {d B : Int} {g g' : Nat → Option RVal} (h : VEnds o d B g) (hg : ∀ {r}, Ev g r → Ev g' r) : VEnds o d B g' := by
 cases o with
 | ok v q => exact hg h
 | no y e => obtain ⟨x, a, d', e', B', he, h⟩ := h; exact ⟨x, a, d', e', B', he, hg h⟩
theorem IEnds.map {o : Js.Out Js.Val} {d B : Int} {g g' : Nat → Nat → Option RVal} (h : IEnds o d B g) (hg : ∀ {r}, EvI g r → EvI g' r) : IEnds o d B g' := by
 cases o with
 | ok v q => exact hg h
 | no y e => obtain ⟨x, a, d', e', B', he, h⟩ := h; exact ⟨x, a, d', e', B', he, hg h⟩
theorem arr_ends (hb : Bs b) {j d : Nat} (hp : p < b.length) (hd : d ≤ 64) {o : Js.Out Js.Val} (ho : Js.arr b j d p = some o)
  (ih : ∀ q o, Js.items b j (d + 1) [] q = some o → q ≤ b.length → 0 < q → d + 1 ≤ 64 → IEnds o d B (fun k c => itemsF (valF b k) k b c [] true q ((d : Int) + 1) 0 B)) :
  VEnds o d B (fun k => arrF (valF b k) k b p d 0 B) := by
 unfold Js.arr at ho
 by_cases hde : 64 < d + 1
 ·obtain rfl : Js.Out.no p 13 = o := by simpa [Js.enter, hde] using ho
  refine ⟨⟨5, ⟨#[]⟩, [], []⟩, (p : Int), (d : Int) + 1, 13, (p : Int), n13, ?_⟩
  unfold arrF
  refine Ev.congr (f := fun _ => some (⟨5, ⟨#[]⟩, [], []⟩, (p : Int), (d : Int) + 1, 13, (p : Int))) (fun k => ?_) (Ev.now _)
  rw [(enter_deep (b := b) (cl := 93) (a := p) (B := B) (d := d) (by omega) (by omega)).2 k]
  rfl
 ·have hen := enter_ends (d := d) (B := B) hb hp (cl := 93) (by omega) (by omega)
  have hq := Js.blank_le (b := b) (p := p + 1) (by omega)
  rw [show Js.enter b d p = .ok () (Js.blank b (p + 1)) by simp [Js.enter, hde]] at ho
  simp only at ho
  generalize Js.blank b (p + 1) = q at hen hq ho
  cases hx : b[q]? with
  | none =>
   rw [hx] at ho hen
   obtain rfl : Js.Out.no q 11 = o := Option.some.inj ho
   obtain ⟨a, e, B', he, hen⟩ := hen
   exact ⟨⟨5, ⟨#[]⟩, [], []⟩, a, (d : Int) + 1, e, B', he, Ev.bind hen (evT rfl (Ev.now _))⟩
  | some c =>
   rw [hx] at ho hen
   simp only at ho hen
   by_cases hc : c = 93
   ·rw [if_pos (by simpa using hc)] at ho
    rw [if_pos hc] at hen
    obtain rfl := Option.some.inj ho
    exact Ev.bind hen (evT rfl (Ev.now _))
   ·rw [if_neg (by simpa using hc)] at ho
    rw [if_neg hc] at hen
    refine VEnds.map (ih q o ho hq.2 (by omega) (by omega)).both (fun hr => ?_)
    exact Ev.bind hen (evF (by show ¬ (false = true); decide) hr)
theorem obj_ends (hb : Bs b) {j d : Nat} (hp : p < b.length) (hd : d ≤ 64) {o : Js.Out Js.Val} (ho : Js.obj b j d p = some o)
  (ih : ∀ q o, Js.pairs b j (d + 1) [] [] q = some o → q ≤ b.length → 0 < q → d + 1 ≤ 64 → IEnds o d B (fun k c => pairsF (valF b k) k b c [] [] true q ((d : Int) + 1) 0 B)) :
  VEnds o d B (fun k => objF (valF b k) k b p d 0 B) := by
 unfold Js.obj at ho
 by_cases hde : 64 < d + 1
 ·obtain rfl : Js.Out.no p 13 = o := by simpa [Js.enter, hde] using ho
  refine ⟨⟨6, ⟨#[]⟩, [], []⟩, (p : Int), (d : Int) + 1, 13, (p : Int), n13, ?_⟩
  unfold objF
  refine Ev.congr (f := fun _ => some (⟨6, ⟨#[]⟩, [], []⟩, (p : Int), (d : Int) + 1, 13, (p : Int))) (fun k => ?_) (Ev.now _)
  rw [(enter_deep (b := b) (cl := 125) (a := p) (B := B) (d := d) (by omega) (by omega)).2 k]
  rfl
 ·have hen := enter_ends (d := d) (B := B) hb hp (cl := 125) (by omega) (by omega)
  have hq := Js.blank_le (b := b) (p := p + 1) (by omega)
  rw [show Js.enter b d p = .ok () (Js.blank b (p + 1)) by simp [Js.enter, hde]] at ho
  simp only at ho
  generalize Js.blank b (p + 1) = q at hen hq ho
  cases hx : b[q]? with
  | none =>
   rw [hx] at ho hen
   obtain rfl : Js.Out.no q 11 = o := Option.some.inj ho
   obtain ⟨a, e, B', he, hen⟩ := hen
   exact ⟨⟨6, ⟨#[]⟩, [], []⟩, a, (d : Int) + 1, e, B', he, Ev.bind hen (evT rfl (Ev.now _))⟩
  | some c =>
   rw [hx] at ho hen
   simp only at ho hen
   by_cases hc : c = 125
   ·rw [if_pos (by simpa using hc)] at ho
    rw [if_pos hc] at hen
    obtain rfl := Option.some.inj ho
    exact Ev.bind hen (evT rfl (Ev.now _))
   ·rw [if_neg (by simpa using hc)] at ho
    rw [if_neg hc] at hen
    refine VEnds.map (ih q o ho hq.2 (by omega) (by omega)).both (fun hr => ?_)
    exact Ev.bind hen (evF (by show ¬ (false = true); decide) hr)
def ValE (b : List Int) (j : Nat) : Prop := ∀ (p d : Nat) (B : Int) (o : Js.Out Js.Val), p ≤ b.length → d ≤ 64 → Js.value b j d p = some o → VEnds o d B (fun k => valF b k p d 0 B)
def ItemsE (b : List Int) (j : Nat) : Prop := ∀ (p d : Nat) (B : Int) (l : List Js.Val) (o : Js.Out Js.Val), p ≤ b.length → l.length < p → d + 1 ≤ 64 → Js.items b j (d + 1) l p = some o → IEnds o d B (fun k c => itemsF (valF b k) k b c (l.map toR) true p ((d : Int) + 1) 0 B)
def PairsE (b : List Int) (j : Nat) : Prop := ∀ (p d : Nat) (B : Int) (ks : List (List Int)) (l : List Js.Val) (o : Js.Out Js.Val), p ≤ b.length → l.length < p → ks.length < p → (∀ k ∈ ks, ∀ x ∈ k, 0 ≤ x ∧ x ≤ 255) → d + 1 ≤ 64 → Js.pairs b j (d + 1) ks l p = some o → IEnds o d B (fun k c => pairsF (valF b k) k b c (ks.map strOfNums) (l.map toR) true p ((d : Int) + 1) 0 B)
theorem items_step (hb : Bs b) {j : Nat} (hV : ValE b j) (hI : ItemsE b j) : ItemsE b (j + 1) := by
 intro p d B l o hp hl hd h
 have hlen := hb.2
 have hl2 : (l.map toR).length < 1000000 := by rw [List.length_map]; omega
 cases hv : Js.value b j (d + 1) p with
 | none => exact absurd h (by simp [Js.items, hv])
 | some ov =>
  have hE := hV p (d + 1) B ov hp hd hv
  cases ov with
  | no y e =>
   obtain rfl : Js.Out.no y e = o := by simpa [Js.items, hv] using h
   obtain ⟨x, a, d', e', B', he, hE⟩ := hE
   refine ⟨_, a, d', e', B', he, EvI.items hE hl2 (more_bad he) (EvI.items_stop (m := false) (by rfl))⟩
  | ok v r =>
   have hvl := Js.value_le hv
   have hm := more_ends (d := (d : Int) + 1) (B := B) hb hvl.2 (cl := 93) (by omega) (by omega)
   have h2 : some o = match Js.comma b 93 r with
     | .no x e => some (.no x e)
     | .ok true q => Js.items b j (d + 1) (l ++ [v]) q
     | .ok false q => some (.ok (.mk 5 [] [] (l ++ [v])) q) := by rw [← h]; simp only [Js.items, hv]; rfl
   have hE : Ev (fun k => valF b k p ((d : Int) + 1) 0 B) (toR v, (r : Int), (d : Int) + 1, 0, B) := hE
   cases hcm : Js.comma b 93 r with
   | no y e =>
    rw [hcm] at h2 hm
    obtain rfl := Option.some.inj h2
    obtain ⟨a, e', B', he, hm⟩ := hm
    exact ⟨_, a, (d : Int) + 1, e', B', he, EvI.items hE hl2 hm (EvI.items_stop (m := false) (by rfl))⟩
   | ok t q =>
    have hcl := Js.comma_le hvl.2 hcm
    rw [hcm] at h2 hm
    cases t with
    | true =>
     simp only at h2 hm
     rw [if_pos trivial] at hm
     have := hI q d B (l ++ [v]) o hcl.2 (by simp; omega) hd h2.symm
     refine IEnds.map this (fun hr => EvI.items hE hl2 hm ?_)
     rw [List.map_append] at hr
     exact hr
    | false =>
     simp only at h2 hm
     obtain rfl := Option.some.inj h2
     rw [if_neg (by decide)] at hm
     have hst := EvI.items_stop (b := b) (l := l.map toR ++ [toR v]) (m := false) (a := q) (d := (d : Int) + 1 - 1) (e := 0) (B := B) (by rfl)
     have := EvI.items hE hl2 hm hst
     show EvI _ _
     rw [toR_mk, List.map_append]
     rw [show (d : Int) + 1 - 1 = d by omega] at this
     exact this
theorem pairs_step (hb : Bs b) {j : Nat} (hV : ValE b j) (hP : PairsE b j) : PairsE b (j + 1) := by
 intro p d B ks l o hp hl hk hks hd h
 have hlen := hb.2
 have hl2 : (l.map toR).length < 1000000 ∧ (ks.map strOfNums).length < 1000000 := by rw [List.length_map, List.length_map]; omega
 cases ht : Js.text b j p with
 | none => exact absurd h (by simp [Js.pairs, ht])
 | some ot =>
  have hT := text_ends (d := (d : Int) + 1) (B := B) hb ht
  have wrong : ∀ {key x a d' e' B'}, e' ≠ 0 → Ev (fun k => pairF (valF b k) k b (ks.map strOfNums) p ((d : Int) + 1) 0 B) (key, x, a, d', e', B') → IEnds (.no 0 0) d B (fun k c => pairsF (valF b k) k b c (ks.map strOfNums) (l.map toR) true p ((d : Int) + 1) 0 B) := fun he hp => ⟨_, _, _, _, _, he, EvI.pairs hp hl2 (more_bad he) (EvI.pairs_stop (m := false) (by rfl))⟩
  cases ot with
  | no y e =>
   obtain rfl : Js.Out.no y e = o := by simpa [Js.pairs, ht] using h
   obtain ⟨u, a, e', B', he, hT⟩ := hT
   exact wrong he (pair_bad hT he)
  | ok key q =>
   have htl := Js.text_le ht
   have hkb := (Js.text_bytes hb.1 ht).1
   have hT : Ev (fun k => rR_text.f k b p ((d : Int) + 1) 0 B) (strOfNums key, (q : Int), (d : Int) + 1, 0, B) := hT
   have h2 : some o = if ks.contains key then some (.no p 23) else match b[Js.blank b q]? with
     | none => some (.no (Js.blank b q) 11)
     | some c => if c == 58 then match Js.value b j (d + 1) (Js.blank b (Js.blank b q + 1)) with
       | none => none
       | some (.no x e) => some (.no x e)
       | some (.ok v q) => match Js.comma b 125 q with
        | .no x e => some (.no x e)
        | .ok true q => Js.pairs b j (d + 1) (ks ++ [key]) (l ++ [v]) q
        | .ok false q => some (.ok (.mk 6 [] (ks ++ [key]) (l ++ [v])) q)
      else some (.no (Js.blank b q) 6) := by rw [← h]; simp only [Js.pairs, ht]; rfl
   clear h
   by_cases hin : ks.contains key = true
   ·rw [if_pos hin] at h2
    obtain rfl := Option.some.inj h2
    have hin' : strOfNums key ∈ ks.map strOfNums := List.mem_map_of_mem (by simpa using hin)
    exact wrong n23 (Ev.bind hT (evB (dup_some _ _ _ _ _ hin') (Ev.bind (blank_bad n23) (Ev.bind (must_bad n23) (Ev.bind (blank_bad n23) (Ev.bind (val_bad n23) (Ev.now _)))))))
   ·rw [if_neg hin] at h2
    have hin' : strOfNums key ∉ ks.map strOfNums := by
     intro hc
     obtain ⟨k2, hk2, he⟩ := List.mem_map.1 hc
     have := Rd.strOfNums_inj (hks k2 hk2) hkb he
     apply hin
     rw [← this]
     simpa using hk2
    have hbl := Js.blank_le (b := b) (p := q) htl.2
    have hB1 := blank_ok (d := (d : Int) + 1) (B := B) hb htl.2
    generalize Js.blank b q = q2 at h2 hbl hB1
    cases hx : b[q2]? with
    | none =>
     rw [hx] at h2
     obtain rfl := Option.some.inj h2
     exact wrong n11 (Ev.bind hT (evB (dup_none _ _ _ _ _ hin') (Ev.bind hB1 (Ev.bind (must_end hx) (Ev.bind (blank_bad n11) (Ev.bind (val_bad n11) (Ev.now _)))))))
    | some c =>
     rw [hx] at h2
     simp only at h2
     have hlt := lt_of hx
     by_cases hc : c = 58
     ·subst hc
      rw [if_pos (by rfl)] at h2
      have hbl3 := Js.blank_le (b := b) (p := q2 + 1) (by omega)
      have hB2 := blank_ok (d := (d : Int) + 1) (B := B) (p := q2 + 1) hb (by omega)
      generalize Js.blank b (q2 + 1) = q3 at h2 hbl3 hB2
      cases hv : Js.value b j (d + 1) q3 with
      | none => rw [hv] at h2; simp at h2
      | some ov =>
       have hE := hV q3 (d + 1) B ov hbl3.2 hd hv
       rw [hv] at h2
       have pairE : ∀ {x a d' e' B'}, Ev (fun k => valF b k q3 ((d : Int) + 1) 0 B) (x, a, d', e', B') → Ev (fun k => pairF (valF b k) k b (ks.map strOfNums) p ((d : Int) + 1) 0 B) (strOfNums key, x, a, d', e', B') := fun hv =>
        Ev.bind hT (evB (dup_none _ _ _ _ _ hin') (Ev.bind hB1 (Ev.bind (must_ok hb hx) (Ev.bind hB2 (Ev.bind hv (Ev.now _))))))
       cases ov with
       | no y e =>
        obtain rfl := Option.some.inj h2
        obtain ⟨x, a, d', e', B', he, hE⟩ := hE
        exact wrong he (pairE hE)
       | ok v r =>
        have hvl := Js.value_le hv
        simp only at h2
        have hP1 := pairE (show Ev _ (toR v, (r : Int), (d : Int) + 1, 0, B) from hE)
        have hm := more_ends (d := (d : Int) + 1) (B := B) hb hvl.2 (cl := 125) (by omega) (by omega)
        cases hcm : Js.comma b 125 r with
        | no y e =>
         rw [hcm] at h2 hm
         obtain rfl := Option.some.inj h2
         obtain ⟨a, e', B', he, hm⟩ := hm
         exact ⟨_, a, (d : Int) + 1, e', B', he, EvI.pairs hP1 hl2 hm (EvI.pairs_stop (m := false) (by rfl))⟩
        | ok t q4 =>
         have hcl := Js.comma_le hvl.2 hcm
         rw [hcm] at h2 hm
         cases t with
         | true =>
          simp only at h2 hm
          rw [if_pos trivial] at hm
          have := hP q4 d B (ks ++ [key]) (l ++ [v]) o hcl.2 (by simp; omega) (by simp; omega) (fun k hk => by
           rcases List.mem_append.1 hk with hk | hk
           ·exact hks k hk
           ·simp at hk
            subst hk
            exact hkb) hd h2.symm
          refine IEnds.map this (fun hr => EvI.pairs hP1 hl2 hm ?_)
          rw [List.map_append, List.map_append] at hr
          exact hr
         | false =>
          simp only at h2 hm
          obtain rfl := Option.some.inj h2
          rw [if_neg (by decide)] at hm
          have hst := EvI.pairs_stop (b := b) (ks := ks.map strOfNums ++ [strOfNums key]) (l := l.map toR ++ [toR v]) (m := false) (a := q4) (d := (d : Int) + 1 - 1) (e := 0) (B := B) (by rfl)
          have := EvI.pairs hP1 hl2 hm hst
          show EvI _ _
          rw [toR_mk, List.map_append, List.map_append]
          rw [show (d : Int) + 1 - 1 = d by omega] at this
          exact this
     ·rw [if_neg (by simpa using hc)] at h2
      obtain rfl := Option.some.inj h2
      exact wrong n6 (Ev.bind hT (evB (dup_none _ _ _ _ _ hin') (Ev.bind hB1 (Ev.bind (must_no hb hx hc) (Ev.bind (blank_bad n6) (Ev.bind (val_bad n6) (Ev.now _)))))))
def wT : ByteArray := ⟨#[116, 114, 117, 101]⟩
def wF : ByteArray := ⟨#[102, 97, 108, 115, 101]⟩
def wN : ByteArray := ⟨#[110, 117, 108, 108]⟩
theorem wT_at : ∀ j (h : j < [116, 114, 117, 101].length), bt wT ((0 + j : Nat) : Int) = ([116, 114, 117, 101] : List Int)[j] := by decide
theorem wF_at : ∀ j (h : j < [102, 97, 108, 115, 101].length), bt wF ((0 + j : Nat) : Int) = ([102, 97, 108, 115, 101] : List Int)[j] := by decide
theorem wN_at : ∀ j (h : j < [110, 117, 108, 108].length), bt wN ((0 + j : Nat) : Int) = ([110, 117, 108, 108] : List Int)[j] := by decide
theorem word_ends (hb : Bs b) (s : ByteArray) (ws : List Int) (kd : Int) {d : Int} (hs : s.size ≤ 1000) (hl : ws.length = s.size) (hw : ∀ j (h : j < ws.length), bt s ((0 + j : Nat) : Int) = ws[j]) (hp : p ≤ b.length) :
  VEnds (Js.wordV kd (Js.word b ws p)) d B (fun k => (rR_word.f k b p d 0 B s kd).map ofNum) := by
 have h := word_loop (d := d) (B := B) hb s kd hs ws 0 p (by omega) hw hp
 have mp : ∀ {r : NumOut}, Ev (fun k => rR_word.l0 k s kd ((0 : Nat) : Int) b p d 0 B) r → Ev (fun k => (rR_word.f k b p d 0 B s kd).map ofNum) (ofNum r) := by
  rintro r ⟨K, h⟩
  refine ⟨K, fun k hk => ?_⟩
  show Option.map ofNum (rR_word.l0 k s kd 0 b p d 0 B) = _
  rw [show rR_word.l0 k s kd 0 b p d 0 B = some r from h k hk]
  rfl
 cases ho : Js.word b ws p with
 | ok u q => rw [ho] at h; exact mp h
 | no y e => rw [ho] at h; obtain ⟨a, e', B', he, h⟩ := h; exact ⟨_, a, d, e', B', he, mp h⟩
theorem val_step (hb : Bs b) {j : Nat} (hI : ItemsE b j) (hP : PairsE b j) : ValE b (j + 1) := by
 intro p d B o hp hd h
 rw [Js.value_succ] at h
 cases hx : b[p]? with
 | none =>
  rw [hx] at h
  obtain rfl : Js.Out.no p 11 = o := Option.some.inj h
  refine ⟨⟨0, ⟨#[]⟩, [], []⟩, (p : Int), (d : Int), 11, (b.length : Int), n11, ?_⟩
  refine Ev.step (f := fun _ => some (⟨0, ⟨#[]⟩, [], []⟩, (p : Int), (d : Int), 11, (b.length : Int))) (fun k => ?_) (Ev.now _)
  rw [valF, peek_end hx]
  rfl
 | some c =>
  have hlt := lt_of hx
  rw [hx] at h
  simp only at h
  have on : ∀ {f : Nat → Option RVal} {r}, (∀ k, (if (c == 123) = true then objF (valF b k) k b p d 0 B
    else if (c == 91) = true then arrF (valF b k) k b p d 0 B
    else if (c == 34) = true then (rR_text.f k b p d 0 B).bind fun u => some (⟨4, u.1, [], []⟩, u.2)
    else if (c == 116) = true then (rR_word.f k b p d 0 B wT 2).map ofNum
    else if (c == 102) = true then (rR_word.f k b p d 0 B wF 1).map ofNum
    else if (c == 110) = true then (rR_word.f k b p d 0 B wN 0).map ofNum
    else (numF k b p d 0 B).map ofNum) = f k) → Ev f r → Ev (fun k => valF b k p d 0 B) r := by
   intro f r hf hr
   refine Ev.step (f := f) (fun k => ?_) hr
   rw [valF, peek_ok hb hx, ← hf k]
   rfl
  by_cases h1 : (c == 123) = true
  ·rw [if_pos h1] at h
   exact VEnds.map (obj_ends hb hlt hd h (fun q o h hq h0 hd => hP q d B [] [] o hq h0 h0 (by simp) hd h)) (on (fun k => by rw [if_pos h1]))
  rw [if_neg h1] at h
  by_cases h2 : (c == 91) = true
  ·rw [if_pos h2] at h
   exact VEnds.map (arr_ends hb hlt hd h (fun q o h hq h0 hd => hI q d B [] o hq h0 hd h)) (on (fun k => by rw [if_neg h1, if_pos h2]))
  rw [if_neg h2] at h
  by_cases h3 : (c == 34) = true
  ·rw [if_pos h3] at h
   obtain ⟨ot, ht, rfl⟩ := Option.map_eq_some_iff.mp h
   have hT := text_ends (d := (d : Int)) (B := B) hb ht
   refine VEnds.map (g := fun k => (rR_text.f k b p d 0 B).bind fun u => some (⟨4, u.1, [], []⟩, u.2)) ?_ (on (fun k => by rw [if_neg h1, if_neg h2, if_pos h3]))
   cases ot with
   | ok l q => exact Ev.bind (show Ev _ (strOfNums l, (q : Int), (d : Int), 0, B) from hT) (Ev.now _)
   | no y e => obtain ⟨u, a, e', B', he, hT⟩ := hT; exact ⟨_, a, (d : Int), e', B', he, Ev.bind hT (Ev.now _)⟩
  rw [if_neg h3] at h
  by_cases h4 : (c == 116) = true
  ·rw [if_pos h4] at h
   obtain rfl := Option.some.inj h
   exact VEnds.map (word_ends hb wT _ 2 (by decide) (by decide) wT_at hp) (on (fun k => by rw [if_neg h1, if_neg h2, if_neg h3, if_pos h4]))
  rw [if_neg h4] at h
  by_cases h5 : (c == 102) = true
  ·rw [if_pos h5] at h
   obtain rfl := Option.some.inj h
   exact VEnds.map (word_ends hb wF _ 1 (by decide) (by decide) wF_at hp) (on (fun k => by rw [if_neg h1, if_neg h2, if_neg h3, if_neg h4, if_pos h5]))
  rw [if_neg h5] at h
  by_cases h6 : (c == 110) = true
  ·rw [if_pos h6] at h
   obtain rfl := Option.some.inj h
   exact VEnds.map (word_ends hb wN _ 0 (by decide) (by decide) wN_at hp) (on (fun k => by rw [if_neg h1, if_neg h2, if_neg h3, if_neg h4, if_neg h5, if_pos h6]))
  rw [if_neg h6] at h
  obtain rfl := Option.some.inj h
  have hN := number_ends (d := (d : Int)) (B := B) hb hp
  refine VEnds.map (g := fun k => (numF k b p d 0 B).map ofNum) ?_ (on (fun k => by rw [if_neg h1, if_neg h2, if_neg h3, if_neg h4, if_neg h5, if_neg h6]))
  have mp : ∀ {r : NumOut}, Ev (fun k => numF k b p d 0 B) r → Ev (fun k => (numF k b p d 0 B).map ofNum) (ofNum r) := by
   rintro r ⟨K, h⟩
   refine ⟨K, fun k hk => ?_⟩
   show Option.map ofNum (numF k b p d 0 B) = _
   rw [show numF k b p d 0 B = some r from h k hk]
   rfl
  cases hn : Js.number b p with
  | ok u q =>
   have hle := Js.number_le hn
   rw [hn] at hN
   exact mp (hN hle.1 hle.2)
  | no y e =>
   rw [hn] at hN
   obtain ⟨a, d', e', B', he, hN⟩ := hN
   exact ⟨_, a, d', e', B', he, mp hN⟩
theorem ring_ends (hb : Bs b) : ∀ j, ValE b j ∧ ItemsE b j ∧ PairsE b j
 | 0 => ⟨fun p d B o _ _ h => by simp [Js.value] at h, fun p d B l o _ _ _ h => by simp [Js.items] at h, fun p d B ks l o _ _ _ _ _ h => by simp [Js.pairs] at h⟩
 | j + 1 => by
  obtain ⟨h1, h2, h3⟩ := ring_ends hb j
  exact ⟨val_step hb h2 h3, items_step hb h1 h2, pairs_step hb h1 h3⟩
end Go.Proofs.YteighppcdpaekaaDoor.Rf
end
section
namespace Go.Proofs.YteighppcdpaekaaDoor.Rf
open Go.RowKit Go.Proofs.YteighppcdpaekaaDoorW.PrintWords Go.Proofs.YteighppcdpaekaaDoor Go.Proofs.YteighppcdpaekaaDoor.P
variable {b : List Int} {p : Nat}
theorem evX {α : Type} {c : Prop} [Decidable c] {A C : Nat → Option α} {Q : α → Prop} (h1 : c → ∃ r, Ev A r ∧ Q r) (h2 : ¬ c → ∃ r, Ev C r ∧ Q r) : ∃ r, Ev (fun k => if c then A k else C k) r ∧ Q r := by
 by_cases h : c
 ·obtain ⟨r, hr, hq⟩ := h1 h
  exact ⟨r, evT h hr, hq⟩
 ·obtain ⟨r, hr, hq⟩ := h2 h
  exact ⟨r, evF h hr, hq⟩
theorem evS {α : Type} {g f : Nat → Option α} {Q : α → Prop} (h : ∀ k, g (k + 1) = f k) (hr : ∃ r, Ev f r ∧ Q r) : ∃ r, Ev g r ∧ Q r := by
 obtain ⟨r, hr, hq⟩ := hr
 exact ⟨r, Ev.step h hr, hq⟩
theorem encj_ends (a : Int) (x : Bool) : ∃ t, Ev (fun k => r3_Encode.j0 k a x) t ∧ True := by
 refine evS (fun k => rfl) ?_
 exact evX (fun _ => ⟨_, Ev.now _, trivial⟩) (fun _ => evX (fun _ => ⟨_, Ev.now _, trivial⟩) (fun _ => evX (fun _ => ⟨_, Ev.now _, trivial⟩) (fun _ => evX (fun _ => ⟨_, Ev.now _, trivial⟩) (fun _ => ⟨_, Ev.now _, trivial⟩))))
theorem enc_ends (a : Int) : ∃ t, Ev (fun k => r3_Encode.f k a) t := by
 have : ∃ t, Ev (fun k => r3_Encode.f k a) t ∧ True := by
  unfold r3_Encode.f
  exact evX (fun _ => encj_ends _ _) (fun _ => evX (fun _ => encj_ends _ _) (fun _ => evX (fun _ => encj_ends _ _) (fun _ => encj_ends _ _)))
 obtain ⟨t, h, _⟩ := this
 exact ⟨t, h⟩
def OneQ (b : List Int) (p : Nat) (r : Int × Int) : Prop := r.2 = 0 ∨ ∃ n : Nat, r.2 = (n : Int) ∧ 1 ≤ n ∧ n ≤ 4 ∧ p + n ≤ b.length
theorem w64k {p n : Nat} (hp : p ≤ 1000000) (hn : n ≤ 10) : wrap64 ((p : Int) + (n : Int)) = ((p + n : Nat) : Int) := by unfold wrap64; omega
theorem onel1_ends (hl : b.length ≤ 1000000) (hp : p < b.length) {n : Nat} (hn : 1 ≤ n) (hn4 : n ≤ 4) (hpn : p + n ≤ b.length) (next : ∃ r, Ev (fun k => r3_One.l0 k b p ((n + 1 : Nat) : Int)) r ∧ OneQ b p r) :
  ∀ (j i : Nat) (x : Int), i + j = n → 1 ≤ i → ∃ r, Ev (fun k => r3_One.l1 k b p (n : Int) x (i : Int)) r ∧ OneQ b p r
 | 0, i, x, h, h1 => by
  obtain rfl : i = n := by omega
  refine evS (fun k => rfl) ?_
  refine evX (fun hc => absurd hc (by omega)) (fun _ => ?_)
  obtain ⟨t, ht⟩ := enc_ends x
  have hw : wrap64 ((p : Int) + (i : Int)) = ((p + i : Nat) : Int) := w64k (by omega) (by omega)
  have hw2 : wrap64 ((i : Int) + 1) = ((i + 1 : Nat) : Int) := w64n (by omega)
  have rest : ∃ r, Ev (fun k => if t.2 = 0 then (if 0 ≤ (p : Int) then (if (p : Int) ≤ (wrap64 ((p : Int) + (i : Int))) then (if (wrap64 ((p : Int) + (i : Int))) ≤ (b.length : Int) then (if (strOfNums t.1).toList = (strOfNums ((b.take ((wrap64 ((p : Int) + (i : Int))) : Int).toNat).drop (p : Int).toNat)).toList then (some (x, (i : Int))) else (r3_One.l0 k b p (wrap64 ((i : Int) + 1)))) else (none)) else (none)) else (none)) else (r3_One.l0 k b p (wrap64 ((i : Int) + 1)))) r ∧ OneQ b p r := by
   rw [hw, hw2]
   refine evX (fun _ => evX (fun _ => evX (fun _ => evX (fun _ => evX (fun _ => ⟨_, Ev.now _, .inr ⟨i, rfl, by omega, by omega, by omega⟩⟩) (fun _ => next)) (fun hc => absurd (by omega) hc)) (fun hc => absurd (by omega) hc)) (fun hc => absurd (by omega) hc)) (fun _ => next)
  obtain ⟨r, hr, hq⟩ := rest
  exact ⟨r, Ev.bind ht hr, hq⟩
 | j + 1, i, x, h, h1 => by
  have hw : wrap64 ((p : Int) + (i : Int)) = ((p + i : Nat) : Int) := w64k (by omega) (by omega)
  have hw2 : wrap64 ((i : Int) + 1) = ((i + 1 : Nat) : Int) := w64n (by omega)
  refine evS (fun k => rfl) ?_
  refine evX (fun _ => evX (fun _ => evX (fun _ => ?_) (fun hc => absurd (by rw [hw]; omega) hc)) (fun hc => absurd (by rw [hw]; omega) hc)) (fun hc => absurd (by omega) hc)
  rw [hw2]
  exact onel1_ends hl hp hn hn4 hpn next j (i + 1) _ (by omega) (by omega)
theorem one_ends (hl : b.length ≤ 1000000) (hp : p < b.length) : ∀ (j n : Nat), n + j = 5 → 1 ≤ n → ∃ r, Ev (fun k => r3_One.l0 k b p (n : Int)) r ∧ OneQ b p r
 | 0, n, h, h1 => by
  refine evS (fun k => rfl) ?_
  refine evX (fun hc => absurd hc (by omega)) (fun _ => evS (fun k => rfl) ?_)
  exact ⟨(-1, 0), ⟨0, fun _ _ => rfl⟩, .inl rfl⟩
 | j + 1, n, h, h1 => by
  have next := one_ends hl hp j (n + 1) (by omega) (by omega)
  have hw : wrap64 ((p : Int) + (n : Int)) = ((p + n : Nat) : Int) := w64k (by omega) (by omega)
  refine evS (fun k => rfl) ?_
  refine evX (fun _ => ?_) (fun hc => absurd (by omega) hc)
  rw [hw]
  refine evS (fun k => rfl) ?_
  refine evX (fun hc => ?_) (fun _ => ⟨_, Ev.now _, .inl rfl⟩)
  have hpn : p + n ≤ b.length := by have := of_decide_eq_true hc; omega
  have last : ∀ x, ∃ r, Ev (fun k => r3_One.j4 k b p (n : Int) x) r ∧ OneQ b p r := fun x => evS (fun k => rfl) (onel1_ends hl hp h1 (by omega) hpn next (n - 1) 1 x (by omega) (by omega))
  have j3 : ∀ x, ∃ r, Ev (fun k => r3_One.j3 k b p (n : Int) x) r ∧ OneQ b p r := fun x => evS (fun k => rfl) (evX (fun _ => last _) (fun _ => last _))
  have j2 : ∀ x, ∃ r, Ev (fun k => r3_One.j2 k b p (n : Int) x) r ∧ OneQ b p r := fun x => evS (fun k => rfl) (evX (fun _ => j3 _) (fun _ => j3 _))
  exact evX (fun _ => evX (fun _ => evX (fun _ => j2 _) (fun _ => j2 _)) (fun hc => absurd (by omega) hc)) (fun hc => absurd (by omega) hc)
theorem letters_ends (hl : b.length ≤ 1000000) : ∀ (j p : Nat) (l : List S123), p + j ≥ b.length → p ≤ b.length → l.length ≤ p → ∃ r, Ev (fun k => r3_Letters.l0 k b l (p : Int)) r ∧ r.length ≤ b.length
 | 0, p, l, h, hp, hle => by
  refine evS (fun k => rfl) ?_
  exact evX (fun hc => absurd hc (by omega)) (fun _ => ⟨_, Ev.now _, by omega⟩)
 | j + 1, p, l, h, hp, hle => by
  refine evS (fun k => rfl) ?_
  refine evX (fun hc => ?_) (fun _ => ⟨_, Ev.now _, by omega⟩)
  have hp' : p < b.length := by omega
  obtain ⟨t, ht, hq⟩ := one_ends hl hp' 4 1 (by omega) (by omega)
  have ht : Ev (fun k => r3_One.f k b (p : Int)) t := ht
  have rest : ∃ r, Ev (fun k => if t.2 = 0 then (if l.length < 5864062014805 then (r3_Letters.l0 k b (l ++ [(⟨(p : Int), (-1), 1⟩ : S123)]) (wrap64 ((p : Int) + 1))) else (none)) else (if l.length < 5864062014805 then (r3_Letters.l0 k b (l ++ [(⟨(p : Int), t.1, t.2⟩ : S123)]) (wrap64 ((p : Int) + t.2))) else (none))) r ∧ r.length ≤ b.length := by
   refine evX (fun _ => evX (fun _ => ?_) (fun hc => absurd (by omega) hc)) (fun h0 => evX (fun _ => ?_) (fun hc => absurd (by omega) hc))
   ·rw [w64n (by omega)]
    exact letters_ends hl j (p + 1) _ (by omega) (by omega) (by simp; omega)
   ·rcases hq with hq | ⟨n, hn, h1, h4, hpn⟩
    ·exact absurd hq h0
    ·rw [hn, w64k (by omega) (by omega)]
     exact letters_ends hl j (p + n) _ (by omega) (by omega) (by simp; omega)
  obtain ⟨r, hr, hq⟩ := rest
  exact ⟨r, Ev.bind ht hr, hq⟩
theorem validl_ends {l : List S123} (hl : l.length ≤ 1000000) : ∀ (j i : Nat), i + j = l.length → ∃ r, Ev (fun k => r3_Valid.l0 k l (i : Int)) r ∧ True
 | 0, i, h => by
  refine evS (fun k => rfl) ?_
  exact evX (fun hc => absurd hc (by omega)) (fun _ => ⟨_, Ev.now _, trivial⟩)
 | j + 1, i, h => by
  refine evS (fun k => rfl) ?_
  refine evX (fun _ => evX (fun _ => evX (fun _ => ⟨_, Ev.now _, trivial⟩) (fun _ => ?_)) (fun hc => absurd (by omega) hc)) (fun _ => ⟨_, Ev.now _, trivial⟩)
  rw [w64n (by omega)]
  exact validl_ends hl j (i + 1) (by omega)
theorem valid_ends (hl : b.length ≤ 1000000) : ∃ t, Ev (fun k => r3_Valid.f k b) t := by
 obtain ⟨l, h, hq⟩ := letters_ends hl b.length 0 [] (by omega) (by omega) (by simp)
 obtain ⟨t, ht, _⟩ := validl_ends (l := l) (by omega) l.length 0 (by omega)
 exact ⟨t, Ev.bind (show Ev (fun k => r3_Letters.f k b) l from h) ht⟩
end Go.Proofs.YteighppcdpaekaaDoor.Rf
end
section
namespace Go.Proofs.YteighppcdpaekaaDoor.Js
theorem at_lt {b : List Int} {p : Nat} {c : Int} (h : b[p]? = some c) : p < b.length := (List.getElem?_eq_some_iff.1 h).1
theorem at_none {b : List Int} {p : Nat} (h : b.length ≤ p) : b[p]? = none := by simpa using h
theorem textTo_total (b : List Int) : ∀ (n p : Nat) (out : List Int), b.length - p ≤ n → ∃ o, textTo b (n + 1) out p = some o := by
 intro n
 induction n with
 | zero =>
  intro p out h
  exact ⟨_, by rw [textTo, at_none (by omega)]⟩
 | succ n ih =>
  intro p out h
  cases hx : b[p]? with
  | none => exact ⟨_, by rw [textTo, hx]⟩
  | some c =>
   have hl := at_lt hx
   rw [textTo]
   simp only [hx]
   split
   ·exact ⟨_, rfl⟩
   ·split
    ·cases he : escape b (p + 1) with
     | no x e => exact ⟨_, rfl⟩
     | ok l q => have := escape_le he; exact ih q _ (by omega)
    ·split
     ·exact ⟨_, rfl⟩
     ·exact ih _ _ (by omega)
theorem textTo_more {b : List Int} {k p : Nat} {out : List Int} {o : Out (List Int)} (h : textTo b k out p = some o) {m : Nat} (hm : k ≤ m) : textTo b m out p = some o := by
 obtain ⟨j, rfl⟩ : ∃ j, m = k + j := ⟨m - k, by omega⟩
 clear hm
 induction j with
 | zero => exact h
 | succ j ih => exact textTo_mono ih
theorem items_more {b : List Int} {k d p : Nat} {l : List Val} {o : Out Val} (h : items b k d l p = some o) {m : Nat} (hm : k ≤ m) : items b m d l p = some o := by
 obtain ⟨j, rfl⟩ : ∃ j, m = k + j := ⟨m - k, by omega⟩
 clear hm
 induction j with
 | zero => exact h
 | succ j ih => exact (all_mono b _).2.1 _ _ _ _ ih
theorem pairs_more {b : List Int} {k d p : Nat} {ks : List (List Int)} {l : List Val} {o : Out Val} (h : pairs b k d ks l p = some o) {m : Nat} (hm : k ≤ m) : pairs b m d ks l p = some o := by
 obtain ⟨j, rfl⟩ : ∃ j, m = k + j := ⟨m - k, by omega⟩
 clear hm
 induction j with
 | zero => exact h
 | succ j ih => exact (all_mono b _).2.2 _ _ _ _ _ ih
theorem text_total (b : List Int) (p k : Nat) (h : b.length - p < k) : ∃ o, text b k p = some o := by
 unfold text
 cases hx : b[p]? with
 | none => exact ⟨_, rfl⟩
 | some c =>
  simp only
  split
  ·obtain ⟨o, ho⟩ := textTo_total b (b.length - (p + 1)) (p + 1) [] (Nat.le_refl _)
   exact ⟨o, textTo_more ho (by omega)⟩
  ·exact ⟨_, rfl⟩
theorem all_total (b : List Int) : ∀ n, (∀ d p, b.length - p ≤ n → ∃ o, value b (2 * n + 3) d p = some o) ∧ (∀ d l p, b.length - p ≤ n → ∃ o, items b (2 * n + 4) d l p = some o) ∧ (∀ d ks l p, b.length - p ≤ n → ∃ o, pairs b (2 * n + 4) d ks l p = some o) := by
 intro n
 induction n with
 | zero =>
  have hv : ∀ d p, b.length - p ≤ 0 → value b 3 d p = some (.no p 11) := fun d p h => by rw [value_succ, at_none (by omega)]
  refine ⟨fun d p h => ⟨_, hv d p h⟩, fun d l p h => ⟨_, by rw [items, hv d p h]⟩, fun d ks l p h => ?_⟩
  have ht : text b 3 p = some (.no p 11) := by unfold text; rw [at_none (by omega)]
  exact ⟨_, by rw [pairs, ht]⟩
 | succ n ih =>
  obtain ⟨_, i2, i3⟩ := ih
  have hv : ∀ d p, b.length - p ≤ n + 1 → ∃ o, value b (2 * (n + 1) + 3) d p = some o := by
   intro d p h
   rw [show 2 * (n + 1) + 3 = (2 * n + 4) + 1 by omega, value_succ]
   cases hx : b[p]? with
   | none => exact ⟨_, rfl⟩
   | some c =>
    have hl := at_lt hx
    have hbl := blank_le (b := b) (p := p + 1) (by omega)
    simp only
    split
    ·unfold obj enter
     by_cases hd : d + 1 > 64
     ·rw [if_pos hd]; exact ⟨_, rfl⟩
     ·rw [if_neg hd]
      simp only
      cases hy : b[blank b (p + 1)]? with
      | none => exact ⟨_, rfl⟩
      | some c2 =>
       simp only
       split
       ·exact ⟨_, rfl⟩
       ·exact i3 _ _ _ _ (by omega)
    split
    ·unfold arr enter
     by_cases hd : d + 1 > 64
     ·rw [if_pos hd]; exact ⟨_, rfl⟩
     ·rw [if_neg hd]
      simp only
      cases hy : b[blank b (p + 1)]? with
      | none => exact ⟨_, rfl⟩
      | some c2 =>
       simp only
       split
       ·exact ⟨_, rfl⟩
       ·exact i2 _ _ _ (by omega)
    split
    ·obtain ⟨o, ho⟩ := text_total b p (2 * n + 4) (by omega)
     rw [ho]
     exact ⟨_, rfl⟩
    split
    ·exact ⟨_, rfl⟩
    split
    ·exact ⟨_, rfl⟩
    split
    ·exact ⟨_, rfl⟩
    ·exact ⟨_, rfl⟩
  refine ⟨hv, fun d l p h => ?_, fun d ks l p h => ?_⟩
  ·obtain ⟨o, ho⟩ := hv d p h
   rw [show 2 * (n + 1) + 4 = (2 * (n + 1) + 3) + 1 by omega, items, ho]
   cases o with
   | no x e => exact ⟨_, rfl⟩
   | ok v q =>
    have h1 := value_le ho
    simp only
    cases hc : comma b 93 q with
    | no x e => exact ⟨_, rfl⟩
    | ok t s =>
     have h2 := comma_le h1.2 hc
     cases t with
     | false => exact ⟨_, rfl⟩
     | true =>
      obtain ⟨o2, ho2⟩ := i2 d (l ++ [v]) s (by omega)
      exact ⟨o2, items_more ho2 (by omega)⟩
  ·obtain ⟨ot, hot⟩ := text_total b p (2 * (n + 1) + 3) (by omega)
   rw [show 2 * (n + 1) + 4 = (2 * (n + 1) + 3) + 1 by omega, pairs, hot]
   cases ot with
   | no x e => exact ⟨_, rfl⟩
   | ok key q =>
    have h0 := text_le hot
    have h01 := blank_le (b := b) (p := q) h0.2
    simp only
    split
    ·exact ⟨_, rfl⟩
    cases hx : b[blank b q]? with
    | none => exact ⟨_, rfl⟩
    | some c =>
     have hl := at_lt hx
     have h02 := blank_le (b := b) (p := blank b q + 1) (by omega)
     simp only
     split
     ·obtain ⟨o, ho⟩ := hv d (blank b (blank b q + 1)) (by omega)
      rw [ho]
      cases o with
      | no x e => exact ⟨_, rfl⟩
      | ok v r =>
       have h1 := value_le ho
       simp only
       cases hc : comma b 125 r with
       | no x e => exact ⟨_, rfl⟩
       | ok t s =>
        have h2 := comma_le h1.2 hc
        cases t with
        | false => exact ⟨_, rfl⟩
        | true =>
         obtain ⟨o2, ho2⟩ := i3 d (ks ++ [key]) (l ++ [v]) s (by omega)
         exact ⟨o2, pairs_more ho2 (by omega)⟩
     ·exact ⟨_, rfl⟩
theorem value_total (b : List Int) (d p : Nat) : ∃ k o, value b k d p = some o := by
 obtain ⟨o, ho⟩ := (all_total b (b.length - p)).1 d p (Nat.le_refl _)
 exact ⟨_, o, ho⟩
def Term (post : List Int) : Prop := ∀ c, post[0]? = some c → isDigit c = false ∧ c ≠ 46 ∧ c ≠ 101 ∧ c ≠ 69
theorem Term.nil : Term [] := fun c h => by simp at h
section
variable {b t post : List Int} {p : Nat} (hb : b.drop p = t ++ post)
include hb
end
def Bytes (b : List Int) : Prop := ∀ x ∈ b, 0 ≤ x ∧ x ≤ 255
end Go.Proofs.YteighppcdpaekaaDoor.Js
end
section
namespace Go.Proofs.YteighppcdpaekaaDoor.Rf
open Go.RowKit Go.Proofs.YteighppcdpaekaaDoorW.PrintWords Go.Proofs.YteighppcdpaekaaDoor Go.Proofs.YteighppcdpaekaaDoor.P
variable {b : List Int}
def tailF (b : List Int) (x : S44) (u : St4) : Option (S44 × Int × Int) :=
 (if (u.2.2.1 == 0 && decide (u.1 < b.length)) = true then rR_fail.f b u.1 u.2.1 u.2.2.1 u.2.2.2 12 u.1 else some u).bind fun z =>
  if (z.2.2.1 != 0) = true then some (⟨0, ⟨#[]⟩, [], []⟩, z.2.2.2, z.2.2.1) else some (x, 0, 0)
theorem tail_bad {x : S44} {a d e B : Int} (he : e ≠ 0) : tailF b x (a, d, e, B) = some (⟨0, ⟨#[]⟩, [], []⟩, B, e) := by
 unfold tailF
 rw [if_neg (by simp [he])]
 show (if (e != 0) = true then _ else _) = _
 rw [if_pos (by simpa using he)]
theorem tail_more {x : S44} {a d B : Int} (ha : a < b.length) : tailF b x (a, d, 0, B) = some (⟨0, ⟨#[]⟩, [], []⟩, a, 12) := by
 unfold tailF
 rw [if_pos (by simpa using ha)]
 show (rR_fail.f b a d 0 B 12 a).bind _ = _
 rw [fail_0]
 rfl
theorem tail_ok {x : S44} {d B : Int} : tailF b x ((b.length : Int), d, 0, B) = some (x, 0, 0) := by
 unfold tailF
 rw [if_neg (by simp)]
 rfl
theorem parse_ends (hb : Bs b) : (∃ x a e, e ≠ 0 ∧ Ev (fun k => parseF k b) (x, a, e)) ∨ ∃ v j q, Js.value b j 0 (Js.blank b 0) = some (.ok v q) ∧ Js.blank b q = b.length ∧ Ev (fun k => parseF k b) (toR v, 0, 0) := by
 obtain ⟨t, ht⟩ := valid_ends (b := b) hb.2
 by_cases h0 : t.2 = 0
 case neg =>
  refine .inl ⟨⟨0, ⟨#[]⟩, [], []⟩, t.1, 10, by decide, ?_⟩
  unfold parseF
  exact Ev.bind ht (evT (by simpa using h0) (Ev.now _))
 have on : ∀ {r}, Ev (fun k => (rR_blank.f k b 0 0 0 0).bind fun s => (valF b k s.1 s.2.1 s.2.2.1 s.2.2.2).bind fun v =>
   (rR_blank.f k b v.2.1 v.2.2.1 v.2.2.2.1 v.2.2.2.2).bind fun u => tailF b v.1 u) r → Ev (fun k => parseF k b) r := by
  intro r hr
  unfold parseF
  exact Ev.bind ht (evF (by simp [h0]) hr)
 have hbl := Js.blank_le (b := b) (p := 0) (by omega)
 have hB : Ev (fun k => rR_blank.f k b 0 0 0 0) ((Js.blank b 0 : Nat), 0, 0, 0) := blank_ok (d := 0) (B := 0) (p := 0) hb (by omega)
 obtain ⟨j, o, ho⟩ := Js.value_total b 0 (Js.blank b 0)
 have hV := (ring_ends hb j).1 (Js.blank b 0) 0 0 o hbl.2 (by omega) ho
 cases o with
 | no y e =>
  obtain ⟨x, a, d', e', B', he, hV⟩ := hV
  exact .inl ⟨⟨0, ⟨#[]⟩, [], []⟩, B', e', he, on (Ev.bind hB (Ev.bind hV (Ev.bind (blank_bad he) (evC (tail_bad he)))))⟩
 | ok v q =>
  have hV : Ev (fun k => valF b k (Js.blank b 0 : Nat) 0 0 0) (toR v, (q : Int), 0, 0, 0) := hV
  have hvl := Js.value_le ho
  have hB2 := blank_ok (d := 0) (B := 0) (p := q) hb hvl.2
  have hbq := Js.blank_le (b := b) (p := q) hvl.2
  by_cases hq : Js.blank b q = b.length
  ·refine .inr ⟨v, j, q, ho, hq, on (Ev.bind hB (Ev.bind hV (Ev.bind hB2 (evC ?_))))⟩
   rw [hq]
   exact tail_ok
  ·exact .inl ⟨⟨0, ⟨#[]⟩, [], []⟩, _, 12, n12, on (Ev.bind hB (Ev.bind hV (Ev.bind hB2 (evC (tail_more (by omega))))))⟩
end Go.Proofs.YteighppcdpaekaaDoor.Rf
end
section
namespace Go.Proofs.YteighppcdpaekaaDoor.Rf
open Go.RowKit Go.Proofs.YteighppcdpaekaaDoorW.PrintWords Go.Proofs.YteighppcdpaekaaDoor Go.Proofs.YteighppcdpaekaaDoor.P
mutual
theorem toR_ofS : ∀ v : Js.Val, toR v = Eq4.ofS (Rd.toS v)
 | .mk k t ks l => by
  rw [toR, Rd.toS, Eq4.ofS_eq]
  simp only
  rw [toRs_ofL l]
theorem toRs_ofL : ∀ l : List Js.Val, toRs l = Eq4.ofL (Rd.toSs l)
 | [] => rfl
 | v :: r => by
  rw [toRs, Rd.toSs, Eq4.ofL_map, List.map_cons, ← Eq4.ofL_map, toR_ofS v, toRs_ofL r]
end
end Go.Proofs.YteighppcdpaekaaDoor.Rf
end
section
namespace Go.Proofs.YteighppcdpaekaaDoor.Rf
open Go.RowKit Go.Proofs.YteighppcdpaekaaDoorW.PrintWords Go.Proofs.YteighppcdpaekaaDoor Go.Proofs.YteighppcdpaekaaDoor.P
variable {b : List Int}
abbrev LightV (v : Js.Val) : Prop := Eq4.Light (Rd.toS v)
theorem mkL {k : Int} {t : List Int} {ks : List (List Int)} {l : List Js.Val} (ht : t.length ≤ 3000) (hks : ks.length ≤ 3000) (hk : ∀ x ∈ ks, x.length ≤ 3000) (hll : l.length ≤ 3000) (hL : ∀ x ∈ l, LightV x) : LightV (.mk k t ks l) := by
 show Eq4.Light (Rd.toS (.mk k t ks l))
 rw [Rd.toS]
 refine Eq4.Light.mk ?_ ?_ ?_ ?_ ?_
 ·show (Rd.toSs l).length ≤ 3000
  rw [Rd.toSs_length]; exact hll
 ·show (ks.map strOfNums).length ≤ 3000
  rw [List.length_map]; exact hks
 ·show (strOfNums t).size ≤ 3000
  rw [strOfNums_size]; exact ht
 ·intro i h
  show ((ks.map strOfNums)[i]).size ≤ 3000
  rw [List.getElem_map, strOfNums_size]
  exact hk _ (List.getElem_mem _)
 ·intro x hx
  have hx : x ∈ Rd.toSs l := hx
  rw [Rd.toSs_map] at hx
  obtain ⟨y, hy, rfl⟩ := List.mem_map.1 hx
  exact hL y hy
theorem light_items {k : Nat} (hl : b.length ≤ 3000) (ihV : ∀ d p v q, Js.value b k d p = some (.ok v q) → LightV v) (ihI : ∀ d l p v q, p ≤ b.length → l.length ≤ p → (∀ x ∈ l, LightV x) → Js.items b k d l p = some (.ok v q) → LightV v) :
  ∀ d l p v q, p ≤ b.length → l.length ≤ p → (∀ x ∈ l, LightV x) → Js.items b (k + 1) d l p = some (.ok v q) → LightV v := by
 intro d l p v q hp hlp hL h
 simp only [Js.items] at h
 split at h
 ·cases h
 ·simp at h
 ·rename_i x r hv
  have hvl := Js.value_le hv
  have hx := ihV _ _ _ _ hv
  have hL2 : ∀ y ∈ l ++ [x], LightV y := fun y hy => (List.mem_append.1 hy).elim (hL y) (fun e => by simp at e; rw [e]; exact hx)
  split at h
  ·simp at h
  ·rename_i r2 hc
   have hcl := Js.comma_le hvl.2 hc
   exact ihI _ _ _ _ _ hcl.2 (by simp; omega) hL2 h
  ·rename_i r2 hc
   have hcl := Js.comma_le hvl.2 hc
   simp only [Option.some.injEq, Js.Out.ok.injEq] at h
   obtain ⟨rfl, _⟩ := h
   exact mkL (by simp) (by simp) (by simp) (by simp; omega) hL2
theorem light_pairs {k : Nat} (hb : ∀ x ∈ b, 0 ≤ x ∧ x ≤ 255) (hl : b.length ≤ 3000) (ihV : ∀ d p v q, Js.value b k d p = some (.ok v q) → LightV v) (ihP : ∀ d ks l p v q, p ≤ b.length → l.length ≤ p → ks.length ≤ p → (∀ x ∈ ks, x.length ≤ 3000) → (∀ x ∈ l, LightV x) → Js.pairs b k d ks l p = some (.ok v q) → LightV v) :
  ∀ d ks l p v q, p ≤ b.length → l.length ≤ p → ks.length ≤ p → (∀ x ∈ ks, x.length ≤ 3000) → (∀ x ∈ l, LightV x) → Js.pairs b (k + 1) d ks l p = some (.ok v q) → LightV v := by
 intro d ks l p v q hp hlp hkp hK hL h
 simp only [Js.pairs] at h
 split at h
 ·cases h
 ·simp at h
 ·rename_i key r ht
  have htl := Js.text_le ht
  have hkl := (Js.text_bytes hb ht).2
  split at h
  ·simp at h
  ·split at h
   ·simp at h
   ·split at h
    ·split at h
     ·cases h
     ·simp at h
     ·rename_i c58 hxx h58 _ x r1 hv
      have hvl := Js.value_le hv
      have hx := ihV _ _ _ _ hv
      have hL2 : ∀ y ∈ l ++ [x], LightV y := fun y hy => (List.mem_append.1 hy).elim (hL y) (fun e => by simp at e; rw [e]; exact hx)
      have hK2 : ∀ y ∈ ks ++ [key], y.length ≤ 3000 := fun y hy => (List.mem_append.1 hy).elim (hK y) (fun e => by simp at e; rw [e]; omega)
      have hbl := Js.blank_le (b := b) (p := r) htl.2
      have hpos : p < r1 := by
       have := hvl.1
       have h2 := Js.blank_le (b := b) (p := Js.blank b r + 1) (by have := (List.getElem?_eq_some_iff.1 hxx).1; omega)
       omega
      split at h
      ·simp at h
      ·rename_i r2 hc
       have hcl := Js.comma_le hvl.2 hc
       exact ihP _ _ _ _ _ _ hcl.2 (by simp; omega) (by simp; omega) hK2 hL2 h
      ·rename_i r2 hc
       have hcl := Js.comma_le hvl.2 hc
       simp only [Option.some.injEq, Js.Out.ok.injEq] at h
       obtain ⟨rfl, _⟩ := h
       exact mkL (by simp) (by simp; omega) hK2 (by simp; omega) hL2
    ·simp at h
theorem light_value {k : Nat} (hb : ∀ x ∈ b, 0 ≤ x ∧ x ≤ 255) (hl : b.length ≤ 3000) (ihI : ∀ d l p v q, p ≤ b.length → l.length ≤ p → (∀ x ∈ l, LightV x) → Js.items b k d l p = some (.ok v q) → LightV v)
  (ihP : ∀ d ks l p v q, p ≤ b.length → l.length ≤ p → ks.length ≤ p → (∀ x ∈ ks, x.length ≤ 3000) → (∀ x ∈ l, LightV x) → Js.pairs b k d ks l p = some (.ok v q) → LightV v) :
  ∀ d p v q, Js.value b (k + 1) d p = some (.ok v q) → LightV v := by
 intro d p v q h
 have nil : ∀ kd, LightV (.mk kd [] [] []) := fun kd => mkL (by simp) (by simp) (by simp) (by simp) (by simp)
 have ins : ∀ {q1 c}, b[q1]? = some c → q1 ≤ b.length := fun h => Nat.le_of_lt (List.getElem?_eq_some_iff.1 h).1
 rw [Js.value_succ] at h
 split at h
 ·simp at h
 ·rename_i c hx
  split at h
  ·unfold Js.obj at h
   split at h
   ·simp at h
   ·split at h
    ·simp at h
    ·rename_i c2 hx2
     split at h
     ·simp only [Option.some.injEq, Js.Out.ok.injEq] at h
      obtain ⟨rfl, _⟩ := h
      exact nil 6
     ·exact ihP _ _ _ _ _ _ (ins hx2) (by simp) (by simp) (by simp) (by simp) h
  ·split at h
   ·unfold Js.arr at h
    split at h
    ·simp at h
    ·split at h
     ·simp at h
     ·rename_i c2 hx2
      split at h
      ·simp only [Option.some.injEq, Js.Out.ok.injEq] at h
       obtain ⟨rfl, _⟩ := h
       exact nil 5
      ·exact ihI _ _ _ _ _ (ins hx2) (by simp) (by simp) h
   ·split at h
    ·obtain ⟨o, ho, h⟩ := Option.map_eq_some_iff.mp h
     cases o with
     | no y e => simp [Js.strV] at h
     | ok l r =>
      simp only [Js.strV, Js.Out.ok.injEq] at h
      obtain ⟨rfl, _⟩ := h
      have h1 := (Js.text_bytes hb ho).2
      have h2 := (Js.text_le ho).2
      exact mkL (by omega) (by simp) (by simp) (by simp) (by simp)
    ·have wd : ∀ kd o, Js.wordV kd o = .ok v q → LightV v := fun kd o h => by
      cases o with
      | no y e => simp [Js.wordV] at h
      | ok l r =>
       simp only [Js.wordV, Js.Out.ok.injEq] at h
       obtain ⟨rfl, _⟩ := h
       exact nil kd
     split at h
     ·exact wd _ _ (Option.some.inj h)
     ·split at h
      ·exact wd _ _ (Option.some.inj h)
      ·split at h
       ·exact wd _ _ (Option.some.inj h)
       ·have h := Option.some.inj h
        cases hn : Js.number b p with
        | no y e => rw [hn] at h; simp [Js.numV] at h
        | ok l r =>
         rw [hn] at h
         simp only [Js.numV, Js.Out.ok.injEq] at h
         obtain ⟨rfl, _⟩ := h
         exact mkL (by rw [List.length_drop, List.length_take]; omega) (by simp) (by simp) (by simp) (by simp)
theorem light_all (hb : ∀ x ∈ b, 0 ≤ x ∧ x ≤ 255) (hl : b.length ≤ 3000) : ∀ k, (∀ d p v q, Js.value b k d p = some (.ok v q) → LightV v) ∧ (∀ d l p v q, p ≤ b.length → l.length ≤ p → (∀ x ∈ l, LightV x) → Js.items b k d l p = some (.ok v q) → LightV v) ∧
  (∀ d ks l p v q, p ≤ b.length → l.length ≤ p → ks.length ≤ p → (∀ x ∈ ks, x.length ≤ 3000) → (∀ x ∈ l, LightV x) → Js.pairs b k d ks l p = some (.ok v q) → LightV v)
 | 0 => ⟨fun d p v q h => by simp [Js.value] at h, fun d l p v q _ _ _ h => by simp [Js.items] at h, fun d ks l p v q _ _ _ _ _ h => by simp [Js.pairs] at h⟩
 | k + 1 => by
  obtain ⟨h1, h2, h3⟩ := light_all hb hl k
  exact ⟨light_value hb hl h2 h3, light_items hl h1 h2, light_pairs hb hl h1 h3⟩
end Go.Proofs.YteighppcdpaekaaDoor.Rf
end
section
namespace Go.Proofs.YteighppcdpaekaaDoor.P
open Go.RowKit Go.Proofs.YteighppcdpaekaaDoor.Rf Go.Proofs.YteighppcdpaekaaDoorW.PrintWords Go.Proofs.YteighppcdpaekaaDoor
theorem positions_all (A : Option Addr) (c : Nat) (b : List Int) (w : World) (hr : Kd.C (Kd.int .u8) w A b.length b) (hc : b.length ≤ c) (hT : TabOk w) (hB : ∀ x ∈ b, 0 ≤ x ∧ x ≤ 255) :
  Calls Tryd.prog 5 #[.slice A b.length c] w (posA w) := by
 by_cases hl : 1000 < b.length
 ·exact positions_long A c b w hT hl
 have hl : b.length ≤ 1000 := by omega
 rcases parse_ends (b := b) ⟨hB, by omega⟩ with ⟨x, a, e, he, K, hK⟩ | ⟨v, j, q, hv, _, K0, hK0⟩
 ·exact positions_bad K A c b w hr hc hT hl x a e he (hK K (Nat.le_refl _))
 ·have hL : Eq4.Light (Rd.toS v) := (light_all hB (by omega) j).1 _ _ _ _ hv
  rw [toR_ofS] at hK0
  generalize Rd.toS v = s at hL hK0
  obtain ⟨K1, hK1⟩ := Eq4.to_val _ s (Nat.le_refl _) hL
  obtain ⟨K2, hK2⟩ := Eq4.posJ_ev hL
  obtain ⟨K3, hK3⟩ := Eq4.pos6_ev hL
  obtain ⟨K4, hK4⟩ := Eq4.rgJ_ev hL
  obtain ⟨K5, hK5⟩ := Eq4.rg6_ev hL
  have h0 := hK0 (K0 + K1 + K2 + K3 + K4 + K5) (by omega)
  rw [Eq4.ofS_eq] at h0
  have h1 : toF (K0 + K1 + K2 + K3 + K4 + K5) ⟨s.f0, s.f1, s.f2, Eq4.ofL s.f3⟩ = some ⟨s.f0, s.f1, s.f2, s.f3⟩ := by
   have := hK1 (K0 + K1 + K2 + K3 + K4 + K5) (by omega)
   rw [Eq4.ofS_eq] at this
   exact this.trans (by cases s; rfl)
  exact positions_good _ A c b w hr hc hT hl _ _ _ _ _ _ _ _ _ _ h0 h1 (hK2 _ (by omega)) (hK3 _ (by omega)) (hK4 _ (by omega)) (hK5 _ (by omega))
end Go.Proofs.YteighppcdpaekaaDoor.P
end
section
namespace Go.Proofs.YteighppcdpaekaaDoor.P
open Go.RowKit Go.Proofs.YteighppcdpaekaaDoorW.PrintWords
open Go.ChangeShapes Go.WideShapes
set_option maxRecDepth 100000
section
variable {H : Type} {enc : TypeId × Value → H} {W : World} {sp : Nat → Bool} {held : Bool}
theorem cells_5 : Tryd.prog.cellsOf 5 = 1 := by kernel_rfl
theorem open_bytes {base : Nat} {v : Value} {d : DataW H} {p : List MemPlace} (hv : Value.okWide Tryd.prog W .any base 35 v) (h : DataW.Trod enc Tryd.prog W 0 sp held 35 v d p) :
  ∃ (b : List Int) (A : Option Addr) (c : Nat), v = .slice A b.length c ∧ b.length ≤ c ∧ Kd.C (Kd.int .u8) W A b.length b ∧ ∀ x ∈ b, 0 ≤ x ∧ x ≤ 255 := by
 obtain ⟨a1, len, cap, rfl⟩ := okWide_slice Tryd.underlying35 hv
 obtain ⟨fuel, hf⟩ := h
 rcases open_ints Tryd.underlying35 Tryd.underlying5 cells_5 hf with ⟨hc, _⟩ | ⟨ad, len', cap', zs, hc, _, h1, h2, h3, _, h5, h6⟩
 ·simp [Value.cells] at hc
  obtain ⟨rfl, rfl, rfl⟩ := hc
  exact ⟨[], none, 0, rfl, Nat.le_refl _, Kd.C_nil _ W, fun x hx => by cases hx⟩
 ·simp [Value.cells] at hc
  obtain ⟨rfl, rfl, rfl⟩ := hc
  have hss : len ≤ zs.length := by rw [h3]; split <;> omega
  have hll : (zs.take len).length = len := by rw [List.length_take]; omega
  refine ⟨zs.take len, some ad, cap, by rw [hll], by rw [hll]; exact h1, ?_, fun x hx => ?_⟩
  ·rw [hll]
   refine Kd.C_of_reads (enc := Value.int .u8) (d := (0 : Int)) (h1 := fun _ => rfl) ⟨hll, by unfold maxLen at h2; omega, fun _ => ⟨ad, rfl, fun j hj => ?_⟩⟩
   rw [h5 j (by omega)]
   simp only [List.getD_eq_getElem?_getD, List.getElem?_take_of_lt hj]
  ·have := h6 x (List.mem_of_mem_take hx)
   have h7 : 0 ≤ x ∧ x ≤ 2 ^ 8 - 1 := by simpa [Lit.wf, IntKind.min, IntKind.max, IntKind.signed, IntKind.bits] using this
   omega
end
end Go.Proofs.YteighppcdpaekaaDoor.P
end
section
namespace Go.Proofs.YteighppcdpaekaaDoor.rpcPositions
open Go.ChangeShapes Go.WideShapes Go.ChangeAt Go.RowKit Go.Proofs.YteighppcdpaekaaDoorW.PrintWords Go.Proofs.YteighppcdpaekaaDoor.P Go.Proofs.YteighppcdpaekaaDoor.laidFive
open Go.ChangeMaps (open_string shut_string)
set_option linter.unusedVariables false
set_option maxRecDepth 100000
theorem own : ownKnob Tryd.prog.godebug = none := by kernel_rfl
theorem laidOut : laidOutB Tryd.prog = true := by kernel_rfl
theorem contract (H : Type) (enc : TypeId × Value → H) (W : World) (base : Nat) (args : Array Value) (ds gs : List (DataW H)) (before : List MemPlace)
  (hval0 : ∀ (j : Nat) t v, Tryd.f5.params[j]? = some t → args[j]? = some v → Value.okWide Tryd.prog W .any base t v)
  (hW : DataW.Whole enc Tryd.prog Tryd.f5.params.toList Rows.rpcPositionsSpec.vars false W args.toList ds gs before) (hL : laidMetH Tryd.prog Rows.rpcPositionsRow.laid W) :
  Calls Tryd.prog 5 args W fun e W' => ∃ v, e = .returned v ∧ Rows.rpcPositionsSpec.post enc Tryd.prog Tryd.f5 false true false false W args v W' := by
 have hval := hval0
 have hW' := hW
 obtain ⟨p, q, hA0, hV, rfl, hfz, hnd⟩ := hW
 have hA : DataW.TrodAll enc Tryd.prog W 0 (fun _ => true) true Tryd.f5.params.toList args.toList ds p := hA0
 rw [Tryd.params5] at hA hval
 obtain ⟨v0, vs0, d0, ds0, p0, q0, hargs, rfl, rfl, h0, r0⟩ := trodAll_cons hA
 obtain ⟨rfl, rfl, rfl⟩ := trodAll_nil r0
 obtain rfl : args = #[v0] := by cases args; simp_all
 obtain ⟨rfl, rfl⟩ := trodVars_none hV
 have k0 := h0
 have lt0 : ∀ x ∈ p0, x.block < W.heap.size := by obtain ⟨m, hm⟩ := k0; exact DataW.trod_lt m _ _ _ hm
 obtain ⟨b0, A0, c0, rfl, hc0, hr0, hB0⟩ := open_bytes (hval 0 35 v0 rfl rfl) h0
 have hT := tabs (W := W) hL
 clear hA0 hval0
 refine (positions_all A0 c0 b0 W hr0 hc0 hT hB0).mono fun e W' ⟨he, bel⟩ => ?_
 subst he
 exact ⟨_, rfl, _, _, _, [], _, [], hW', trodAll_mk1 (shut_bool Tryd.underlying4 _), (trodAll_cons_mk (Below.trod laidOut (by kernel_rfl) (of_decide_eq_true (by kernel_rfl)) k0 bel lt0) trodAll_mk0), rfl, bel.frame _, fun h => by cases h⟩
theorem laid_met (os : Os) : laidMet Tryd.prog Rows.rpcPositionsRow.laid ((laidWorld os).forCall (fun _ _ => 0) ⟨#[], #[.slice none 0 0], []⟩).memory :=
 laidMet_of_run' 8 (by kernel_rfl) (by kernel_rfl)
theorem reads (os : Os) {H : Type} (enc : TypeId × Value → H) : ∃ places, DataW.whole enc Tryd.prog ((laidWorld os).forCall (fun _ _ => 0) ⟨#[], #[.slice none 0 0], []⟩).memory Tryd.f5.params.toList Rows.rpcPositionsSpec.vars false (#[.slice none 0 0] : Array Value).toList 8 = some ([.nil], [], places) :=
 ⟨[], by kernel_rfl⟩
theorem lifted (os : Os) (started : os.Started) (H : Type) (enc : TypeId × Value → H) (F : Stop.Interp) :
  ReturnsInHanded {} Tryd.checked os 5 .any ((OpenSpec.ofChange Rows.rpcPositionsSpec).preRow enc Tryd.prog Tryd.f5 Rows.rpcPositionsRow.domain false Rows.rpcPositionsRow.laid) (((OpenSpec.ofChange Rows.rpcPositionsSpec).at F).post enc Tryd.prog Tryd.f5 false true false false) := by
 obtain ⟨places, hx⟩ := reads os enc
 refine returnsInHanded_of_row (C := Tryd.checked) (s := OpenSpec.ofChange Rows.rpcPositionsSpec) own started (by kernel_rfl) Tryd.func5
  (witness_row_atRef (enc := enc) (C := Tryd.checked) false (laidWorld os) #[.slice none 0 0] rfl (by kernel_rfl) (by kernel_rfl) (by kernel_rfl)
   (OpenSpec.preRow_of_cond 8 hx (by kernel_rfl) (fun k hk => by cases hk) (by kernel_rfl) (laid_met os))) ?_
 intro W base args ds gs before hval hW _ _ _ hL _ _
 exact contract H enc W base args ds gs before hval hW hL
theorem said : Rows.RpcPositionsSaid :=
 OpenClaim.holds_of_cond 5 Tryd.f5 rfl rfl rfl rfl rfl rfl rfl ⟨rfl, rfl, rfl, rfl, rfl⟩ rfl rfl rfl rfl rfl (by kernel_rfl) Tryd.func5 (by kernel_rfl)
  (of_decide_eq_true (by kernel_rfl)) (by unfold Func.isWrapper; first | (rw [if_pos (by decide +kernel)]; kernel_rfl) | (rw [if_neg (by decide +kernel)]; exact ⟨rfl, rfl⟩))
  (fun os started H enc _ F => by rw [OpenClaim.pre_eq_preRow]; exact lifted os started H enc F)
theorem plain (f : FuncId) (fn : Func) (hf : Tryd.pinned.checked.prog.funcNamed "whetstone/whetstonelaw06.RpcPositions" = some f) (hfn : Tryd.pinned.checked.prog.funcs[f]? = some fn) :
  true = Tryd.pinned.checked.prog.looks [] ∧ ∀ (j : Nat) t, fn.params[j]? = some t → Tryd.pinned.checked.prog.wantsStandIn t = false := by
 obtain rfl : f = 5 := Option.some.inj ((show Tryd.prog.funcNamed "whetstone/whetstonelaw06.RpcPositions" = some 5 by kernel_rfl).symm.trans hf) |>.symm
 obtain rfl : fn = Tryd.f5 := (Option.some.inj (Tryd.func5.symm.trans hfn)).symm
 refine ⟨by kernel_rfl, fun j t ht => ?_⟩
 rw [Tryd.params5] at ht
 obtain rfl : t = 35 := by simpa using Array.mem_of_getElem? ht
 exact (show Tryd.prog.wantsStandIn 35 = false by kernel_rfl)
theorem card : Rows.RpcPositionsCardSaid :=
 Claim7.holds_tied_plain_at .later [] _ _ _ _ said (fun _ h => by cases h) (by kernel_rfl) (fun _ h => by cases h) rpcPositions_row_tie rfl ⟨rfl, rfl⟩ (by kernel_rfl) rfl plain (by kernel_rfl)
end Go.Proofs.YteighppcdpaekaaDoor.rpcPositions
namespace Go.Proofs.YteighppcdpaekaaDoor
theorem rpcPositionsCard_holds : Rows.RpcPositionsCardSaid := rpcPositions.card
#print axioms rpcPositionsCard_holds
end Go.Proofs.YteighppcdpaekaaDoor
end
