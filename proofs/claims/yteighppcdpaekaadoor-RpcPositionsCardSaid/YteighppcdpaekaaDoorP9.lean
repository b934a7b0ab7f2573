/- Walks and words of this session, put together by a program of this session (pack.py). Conditions: as each text says. -/
import Derived.Test.YteighppcdpaekaaDoorP2
import Derived.Test.YteighppcdpaekaaDoorP8
set_option linter.unusedVariables false
set_option linter.unusedSimpArgs false
section
namespace Go.Proofs.YteighppcdpaekaaDoor.Rf
open Go.RowKit Go.Proofs.YteighppcdpaekaaDoorW.PrintWords Go.Proofs.YteighppcdpaekaaDoor Go.Proofs.YteighppcdpaekaaDoor.P
abbrev St4 := Int × Int × Int × Int
abbrev RVal := S44 × Int × Int × Int × Int
def dupF (ks : List ByteArray) (key : ByteArray) (fr : Int) : Int → Int → Int → Int → Option St4 := match ks with
 | [] => fun a d e B => some (a, d, e, B)
 | x :: r => fun a d e B => if x = key then (if e = 0 then dupF r key fr a d 23 fr else dupF r key fr a d e B) else dupF r key fr a d e B
section
variable (V : Int → Int → Int → Int → Option RVal) (k : Nat) (b : List Int)
def itemsF : Nat → List S44 → Bool → Int → Int → Int → Int → Option RVal
 | 0, _, _, _, _, _, _ => none
 | j + 1, l, m, a, d, e, B => if (m && e == 0) = true then
   (V a d e B).bind fun t => if l.length < 1000000 then
    (rR_more.f k b t.2.1 t.2.2.1 t.2.2.2.1 t.2.2.2.2 93).bind fun u => itemsF j (l ++ [t.1]) u.1 u.2.1 u.2.2.1 u.2.2.2.1 u.2.2.2.2 else none
  else some (⟨5, ⟨#[]⟩, [], l⟩, a, d, e, B)
def arrF (a d e B : Int) : Option RVal :=
 (rR_enter.f k b a d e B 93).bind fun t => if t.1 = true then some (⟨5, ⟨#[]⟩, [], []⟩, t.2.1, t.2.2.1, t.2.2.2.1, t.2.2.2.2) else itemsF V k b k [] true t.2.1 t.2.2.1 t.2.2.2.1 t.2.2.2.2
def pairF (ks : List ByteArray) (a d e B : Int) : Option (ByteArray × RVal) :=
 (rR_text.f k b a d e B).bind fun t =>
 (dupF ks t.1 a t.2.1 t.2.2.1 t.2.2.2.1 t.2.2.2.2).bind fun u =>
 (rR_blank.f k b u.1 u.2.1 u.2.2.1 u.2.2.2).bind fun u =>
 (rR_must.f k b u.1 u.2.1 u.2.2.1 u.2.2.2 58).bind fun u =>
 (rR_blank.f k b u.1 u.2.1 u.2.2.1 u.2.2.2).bind fun u =>
 (V u.1 u.2.1 u.2.2.1 u.2.2.2).bind fun v => some (t.1, v)
def pairsF : Nat → List ByteArray → List S44 → Bool → Int → Int → Int → Int → Option RVal
 | 0, _, _, _, _, _, _, _ => none
 | j + 1, ks, l, m, a, d, e, B => if (m && e == 0) = true then
   (pairF V k b ks a d e B).bind fun t => if l.length < 1000000 ∧ ks.length < 1000000 then
    (rR_more.f k b t.2.2.1 t.2.2.2.1 t.2.2.2.2.1 t.2.2.2.2.2 125).bind fun u => pairsF j (ks ++ [t.1]) (l ++ [t.2.1]) u.1 u.2.1 u.2.2.1 u.2.2.2.1 u.2.2.2.2 else none
  else some (⟨6, ⟨#[]⟩, ks, l⟩, a, d, e, B)
def objF (a d e B : Int) : Option RVal :=
 (rR_enter.f k b a d e B 125).bind fun t => if t.1 = true then some (⟨6, ⟨#[]⟩, [], []⟩, t.2.1, t.2.2.1, t.2.2.2.1, t.2.2.2.2) else pairsF V k b k [] [] true t.2.1 t.2.2.1 t.2.2.2.1 t.2.2.2.2
end
def ofNum (t : NumOut) : RVal := (⟨t.1, t.2.1, t.2.2.1, t.2.2.2.1⟩, t.2.2.2.2)
def valF (b : List Int) : Nat → Int → Int → Int → Int → Option RVal
 | 0, _, _, _, _ => none
 | k + 1, a, d, e, B => (rR_peek.f b a d e B).bind fun t =>
  if (t.2.2.2.1 != 0) = true then some (⟨0, ⟨#[]⟩, [], []⟩, t.2)
  else if (t.1 == 123) = true then objF (valF b k) k b t.2.1 t.2.2.1 t.2.2.2.1 t.2.2.2.2
  else if (t.1 == 91) = true then arrF (valF b k) k b t.2.1 t.2.2.1 t.2.2.2.1 t.2.2.2.2
  else if (t.1 == 34) = true then (rR_text.f k b t.2.1 t.2.2.1 t.2.2.2.1 t.2.2.2.2).bind fun u => some (⟨4, u.1, [], []⟩, u.2)
  else if (t.1 == 116) = true then (rR_word.f k b t.2.1 t.2.2.1 t.2.2.2.1 t.2.2.2.2 ⟨#[116, 114, 117, 101]⟩ 2).map ofNum
  else if (t.1 == 102) = true then (rR_word.f k b t.2.1 t.2.2.1 t.2.2.2.1 t.2.2.2.2 ⟨#[102, 97, 108, 115, 101]⟩ 1).map ofNum
  else if (t.1 == 110) = true then (rR_word.f k b t.2.1 t.2.2.1 t.2.2.2.1 t.2.2.2.2 ⟨#[110, 117, 108, 108]⟩ 0).map ofNum
  else (numF k b t.2.1 t.2.2.1 t.2.2.2.1 t.2.2.2.2).map ofNum
def VPost (w0 w : World) (g : Nat) (b : List Int) (r : RVal) (en : Ending) (w' : World) : Prop :=
 ∃ v2 v3 : Value, en = .returned (.agg #[.int .i64 r.1.f0, .string r.1.f1, v2, v3]) ∧ Kd.string.R 9 w' w.heap.size (fun _ => True) v2 r.1.f2 ∧ k44.R 44 w' w.heap.size (fun k => some k ≠ v2.ownBlock) v3 r.1.f3 ∧
  IsS96 w0 w' g b r.2.1 r.2.2.1 r.2.2.2.1 r.2.2.2.2 ∧ Below w0.heap.size w0 w' ∧ KeepBut w w' g none
def VOK (b : List Int) (V : Int → Int → Int → Int → Option RVal) : Prop := ∀ (g : Nat) (a d e B : Int) (r : RVal) (w0 w : World), IsS96 w0 w g b a d e B → Below w0.heap.size w0 w → V a d e B = some r →
 Calls Tryd.prog 45 #[.pointer (some ⟨g, 0, none⟩)] w (VPost w0 w g b r)
structure VS (w0 w : World) (g : Nat) (b : List Int) (kd : Int) (W : World) (a d e B : Int) (kv lv : Value) (ks : List ByteArray) (l : List S44) : Prop where
 i : IsS96 w0 W g b a d e B
 bl : Below w0.heap.size w0 W
 k : KeepBut w W g none
 zb : W.heap[w.heap.size]? = some (.cells #[.int .i64 0, .string ⟨#[]⟩, .slice none 0 0, .slice none 0 0] 44 (0, 0))
 vb : W.heap[w.heap.size + 1]? = some (.cells #[.int .i64 kd, .string ⟨#[]⟩, kv, lv] 44 (0, 0))
 own2 : Kd.string.R 9 W (w.heap.size + 2) (fun _ => True) kv ks
 own : k44.R 44 W (w.heap.size + 2) (fun k => some k ≠ kv.ownBlock) lv l
 lt : g < w.heap.size
section
variable {w0 w : World} {g : Nat} {b : List Int} {kd : Int} {W W' : World} {a d e B a' d' e' B' : Int} {kv lv v1 : Value} {ks : List ByteArray} {l : List S44}
theorem VS.step (h : VS w0 w g b kd W a d e B kv lv ks l) (hi : IsS96 w0 W' g b a' d' e' B') (hb : Below w0.heap.size w0 W') (hk : KeepBut W W' g none) : VS w0 w g b kd W' a' d' e' B' kv lv ks l :=
 have := h.lt
 ⟨hi, hb, h.k.trans hk (.inl rfl), hk.blk h.zb (by omega) (by simp), hk.blk h.vb (by omega) (by simp),
  Kd.R_mono (Kd.R_keep (Kd.R_bound h.own2) hk (fun k hk => by have := hk.2.1; omega)) (fun _ _ => trivial), Kd.R_mono (Kd.R_keep (Kd.R_bound h.own) hk (fun k hk => by have := hk.2.1; omega)) (fun _ hk => hk.1), h.lt⟩
theorem VS.alloc (h : VS w0 w g b kd W a d e B kv lv ks l) (x : Obj) : VS w0 w g b kd (W.alloc x) a d e B kv lv ks l := h.step (h.i.alloc x) (bal h.bl x) (kal (KeepBut.refl _ _ _) x)
theorem VS.cells (h : VS w0 w g b kd W a d e B kv lv ks l) :
  (W.cell? ⟨w.heap.size, 0, none⟩ = some (.int .i64 0) ∧ W.cell? ⟨w.heap.size, 1, none⟩ = some (.string ⟨#[]⟩) ∧ W.cell? ⟨w.heap.size, 2, none⟩ = some (.slice none 0 0) ∧ W.cell? ⟨w.heap.size, 3, none⟩ = some (.slice none 0 0)) ∧
  (W.cell? ⟨w.heap.size + 1, 0, none⟩ = some (.int .i64 kd) ∧ W.cell? ⟨w.heap.size + 1, 1, none⟩ = some (.string ⟨#[]⟩) ∧ W.cell? ⟨w.heap.size + 1, 2, none⟩ = some kv ∧ W.cell? ⟨w.heap.size + 1, 3, none⟩ = some lv) ∧
  (W.frozen? ⟨w.heap.size, 0, none⟩ = false ∧ W.frozen? ⟨w.heap.size, 1, none⟩ = false ∧ W.frozen? ⟨w.heap.size, 2, none⟩ = false ∧ W.frozen? ⟨w.heap.size, 3, none⟩ = false) ∧
  (W.frozen? ⟨w.heap.size + 1, 2, none⟩ = false ∧ W.frozen? ⟨w.heap.size + 1, 3, none⟩ = false) ∧
  (W.cell? ⟨g, 1, none⟩ = some (.int .i64 a) ∧ W.cell? ⟨g, 3, none⟩ = some (.int .i64 e)) := by
 obtain ⟨A, c, HG, hg, HC⟩ := h.i
 exact ⟨Rd.blk4 h.zb, Rd.blk4 h.vb, ⟨bfz h.zb 0, bfz h.zb 1, bfz h.zb 2, bfz h.zb 3⟩, ⟨bfz h.vb 2, bfz h.vb 3⟩, cellS96_1 HG, cellS96_3 HG⟩
theorem VS.ge (h : VS w0 w g b kd W a d e B kv lv ks l) : w0.heap.size ≤ w.heap.size := Nat.le_trans h.i.ge (Nat.le_of_lt h.lt)
theorem VS.grown0 (h : VS w0 w g b kd W a d e B kv lv ks l) {row : Option Nat} (hgr : W.grownBy W' row) (hr : ∀ k, row = some k → w.heap.size + 2 ≤ k) :
  IsS96 w0 W' g b a d e B ∧ Below w0.heap.size w0 W' ∧ KeepBut w W' g none ∧ W'.heap[w.heap.size]? = some (.cells #[.int .i64 0, .string ⟨#[]⟩, .slice none 0 0, .slice none 0 0] 44 (0, 0)) ∧ W'.heap[w.heap.size + 1]? = some (.cells #[.int .i64 kd, .string ⟨#[]⟩, kv, lv] 44 (0, 0)) := by
 have hge := h.ge
 have hlt := h.lt
 have hne : ∀ i, i < w.heap.size + 2 → some i ≠ row := fun i hi e => by have := hr _ e.symm; omega
 refine ⟨h.i.grown hgr (hne g (by omega)), h.bl.grown hgr (Nat.le_trans hge h.k.1) (fun k hk => by have := hr k hk; omega), ?_, blk_grown h.zb hgr (hne _ (by omega)), blk_grown h.vb hgr (hne _ (by omega))⟩
 refine h.k.trans (KeepBut.of_grown hgr g) ?_
 cases hv : row with
 | none => exact .inl rfl
 | some k => exact .inr ⟨k, rfl, by have := hr k hv; omega⟩
theorem VS.far (h : VS w0 w g b kd W a d e B kv lv ks l) (i j : Nat) (hi : i = w.heap.size ∨ i = w.heap.size + 1) (x : Value) {kv2 lv2 : Value} {ks2 : List ByteArray} {l2 : List S44} (h2 : Kd.string.R 9 W (w.heap.size + 2) (fun _ => True) kv2 ks2) (h3 : k44.R 44 W (w.heap.size + 2) (fun k => some k ≠ kv2.ownBlock) lv2 l2) :
  IsS96 w0 (W.setCell ⟨i, j, none⟩ x) g b a d e B ∧ Below w0.heap.size w0 (W.setCell ⟨i, j, none⟩ x) ∧ KeepBut w (W.setCell ⟨i, j, none⟩ x) g none ∧
  Kd.string.R 9 (W.setCell ⟨i, j, none⟩ x) (w.heap.size + 2) (fun _ => True) kv2 ks2 ∧ k44.R 44 (W.setCell ⟨i, j, none⟩ x) (w.heap.size + 2) (fun k => some k ≠ kv2.ownBlock) lv2 l2 := by
 have hge := h.ge
 have hlt := h.lt
 have hi2 : g ≠ i ∧ w.heap.size ≤ i ∧ i < w.heap.size + 2 := by omega
 refine ⟨h.i.far (p := ⟨i, j, none⟩) hi2.1 x, below_set h.bl (by show w0.heap.size ≤ i; omega), keep_far (p := ⟨i, j, none⟩) h.k hi2.2.1 x, ?_, ?_⟩
 ·exact Kd.R_mono (Kd.R_far (p := ⟨i, j, none⟩) (Kd.R_bound h2) (fun k hk => by have h2 := hk.2.1; show k ≠ i; omega) x) (fun _ _ => trivial)
 ·exact Kd.R_mono (Kd.R_far (p := ⟨i, j, none⟩) (Kd.R_bound h3) (fun k hk => by have h2 := hk.2.1; show k ≠ i; omega) x) (fun _ hk => hk.1)
theorem VS.appL (h : VS w0 w g b kd W a d e B kv lv ks l) {l2 : List S44} (hR : k44.R 44 W' (w.heap.size + 2) (fun k => some k ≠ kv.ownBlock) v1 l2) (hgr : W.grownBy W' lv.ownBlock) :
  VS w0 w g b kd (W'.setCell ⟨w.heap.size + 1, 3, none⟩ v1) a d e B kv v1 ks l2 := by
 obtain ⟨h1, h2, h3, h4, h5⟩ := h.grown0 hgr (Kd.R_base h.own)
 have hk2 : Kd.string.R 9 W' (w.heap.size + 2) (fun _ => True) kv ks := Kd.R_grown2 h.own2 rfl hgr (fun k hk e => (h.own.1 k hk) e)
 have hge := h.ge
 have hlt := h.lt
 refine ⟨h1.far (p := ⟨w.heap.size + 1, 3, none⟩) (by show g ≠ w.heap.size + 1; omega) _, below_set h2 (by show w0.heap.size ≤ w.heap.size + 1; omega), keep_far (p := ⟨w.heap.size + 1, 3, none⟩) h3 (by show w.heap.size ≤ w.heap.size + 1; omega) _,
  blk_far h4 (p := ⟨w.heap.size + 1, 3, none⟩) (by show w.heap.size ≠ w.heap.size + 1; omega) _, blk_set h5 3 v1, ?_, ?_, h.lt⟩
 ·exact Kd.R_mono (Kd.R_far (p := ⟨w.heap.size + 1, 3, none⟩) (Kd.R_bound hk2) (fun k hk => by have h2 := hk.2.1; show k ≠ w.heap.size + 1; omega) _) (fun _ _ => trivial)
 ·exact Kd.R_mono (Kd.R_far (p := ⟨w.heap.size + 1, 3, none⟩) (Kd.R_bound hR) (fun k hk => by have h2 := hk.2.1; show k ≠ w.heap.size + 1; omega) _) (fun _ hk => hk.1)
theorem VS.appK (h : VS w0 w g b kd W a d e B kv lv ks l) {ks2 : List ByteArray} (hR : Kd.string.R 9 W' (w.heap.size + 2) (fun _ => True) v1 ks2) (hgr : W.grownBy W' kv.ownBlock) (hat : v1.ownBlock = kv.ownBlock ∨ ∃ b, v1.ownBlock = some b ∧ W.heap.size ≤ b) :
  VS w0 w g b kd (W'.setCell ⟨w.heap.size + 1, 2, none⟩ v1) a d e B v1 lv ks2 l := by
 obtain ⟨h1, h2, h3, h4, h5⟩ := h.grown0 hgr (Kd.R_base h.own2)
 have hk2 : k44.R 44 W' (w.heap.size + 2) (fun k => True ∧ some k ≠ v1.ownBlock) lv l := Kd.R_after (Kd.R_mono h.own (fun _ hk => ⟨trivial, hk⟩)) hgr hat
 have hge := h.ge
 have hlt := h.lt
 refine ⟨h1.far (p := ⟨w.heap.size + 1, 2, none⟩) (by show g ≠ w.heap.size + 1; omega) _, below_set h2 (by show w0.heap.size ≤ w.heap.size + 1; omega), keep_far (p := ⟨w.heap.size + 1, 2, none⟩) h3 (by show w.heap.size ≤ w.heap.size + 1; omega) _,
  blk_far h4 (p := ⟨w.heap.size + 1, 2, none⟩) (by show w.heap.size ≠ w.heap.size + 1; omega) _, blk_set h5 2 v1, ?_, ?_, h.lt⟩
 ·exact Kd.R_mono (Kd.R_far (p := ⟨w.heap.size + 1, 2, none⟩) (Kd.R_bound hR) (fun k hk => by have h2 := hk.2.1; show k ≠ w.heap.size + 1; omega) _) (fun _ _ => trivial)
 ·exact Kd.R_mono (Kd.R_far (p := ⟨w.heap.size + 1, 2, none⟩) (Kd.R_bound hk2) (fun k hk => by have h2 := hk.2.1; show k ≠ w.heap.size + 1; omega) _) (fun _ hk => hk.1.2)
theorem VS.fin (h : VS w0 w g b kd W a d e B kv lv ks l) : ∀ W', (((W.setCell ⟨w.heap.size, 0, none⟩ (.int .i64 kd)).setCell ⟨w.heap.size, 1, none⟩ (.string ⟨#[]⟩)).setCell ⟨w.heap.size, 2, none⟩ kv).setCell ⟨w.heap.size, 3, none⟩ lv = W' →
  VPost w0 w g b (⟨kd, ⟨#[]⟩, ks, l⟩, a, d, e, B) (.returned (.agg #[.int .i64 kd, .string ⟨#[]⟩, kv, lv])) W' ∧
  W'.cell? ⟨w.heap.size, 0, none⟩ = some (.int .i64 kd) ∧ W'.cell? ⟨w.heap.size, 1, none⟩ = some (.string ⟨#[]⟩) ∧ W'.cell? ⟨w.heap.size, 2, none⟩ = some kv ∧ W'.cell? ⟨w.heap.size, 3, none⟩ = some lv := by
 rintro _ rfl
 have hn := Nat.ne_of_lt h.lt
 have hs := h.ge
 have hB := blk_set (blk_set (blk_set (blk_set h.zb 0 (.int .i64 kd)) 1 (.string ⟨#[]⟩)) 2 kv) 3 lv
 have st2 : ∀ (W : World) (j : Nat) (u : Value), Kd.string.R 9 W (w.heap.size + 2) (fun _ => True) kv ks → Kd.string.R 9 (W.setCell ⟨w.heap.size, j, none⟩ u) (w.heap.size + 2) (fun _ => True) kv ks := fun W j u hR =>
  Kd.R_mono (Kd.R_far (p := ⟨w.heap.size, j, none⟩) (Kd.R_bound hR) (fun k hk => by have h2 := hk.2.1; show k ≠ w.heap.size; omega) u) (fun _ _ => trivial)
 have st3 : ∀ (W : World) (j : Nat) (u : Value), k44.R 44 W (w.heap.size + 2) (fun k => some k ≠ kv.ownBlock) lv l → k44.R 44 (W.setCell ⟨w.heap.size, j, none⟩ u) (w.heap.size + 2) (fun k => some k ≠ kv.ownBlock) lv l := fun W j u hR =>
  Kd.R_mono (Kd.R_far (p := ⟨w.heap.size, j, none⟩) (Kd.R_bound hR) (fun k hk => by have h2 := hk.2.1; show k ≠ w.heap.size; omega) u) (fun _ hk => hk.1)
 refine ⟨⟨kv, lv, rfl, Kd.R_lower (st2 _ _ _ (st2 _ _ _ (st2 _ _ _ (st2 _ _ _ h.own2)))) (Nat.le_add_right _ 2), Kd.R_lower (st3 _ _ _ (st3 _ _ _ (st3 _ _ _ (st3 _ _ _ h.own)))) (Nat.le_add_right _ 2), (((h.i.far (p := ⟨w.heap.size, 0, none⟩) hn _).far (p := ⟨w.heap.size, 1, none⟩) hn _).far (p := ⟨w.heap.size, 2, none⟩) hn _).far (p := ⟨w.heap.size, 3, none⟩) hn _, ?_, ?_⟩, (blk_cell hB 0).trans rfl, (blk_cell hB 1).trans rfl, (blk_cell hB 2).trans rfl, (blk_cell hB 3).trans rfl⟩
 ·exact below_set (below_set (below_set (below_set h.bl hs) hs) hs) hs
 ·exact keep_far (p := ⟨w.heap.size, 3, none⟩) (keep_far (p := ⟨w.heap.size, 2, none⟩) (keep_far (p := ⟨w.heap.size, 1, none⟩) (keep_far (p := ⟨w.heap.size, 0, none⟩) h.k (Nat.le_refl _) _) (Nat.le_refl _) _) (Nat.le_refl _) _) (Nat.le_refl _) _
theorem VS.start {kd : Int} (hI : IsS96 w0 w g b a d e B) (hB : Below w0.heap.size w0 w) (hlt : g < w.heap.size) : VS w0 w g b kd ((w.alloc Z44).alloc (.cells #[.int .i64 kd, .string ⟨#[]⟩, .slice none 0 0, .slice none 0 0] 44 (0, 0))) a d e B (.slice none 0 0) (.slice none 0 0) [] [] := by
 refine ⟨(hI.alloc _).alloc _, bal (bal hB _) _, kal (kal (KeepBut.refl _ _ _) _) _, ?_, ?_, Kd.R_nil _ _ _ _ _, Kd.R_nil _ _ _ _ _, hlt⟩
 ·exact blk_grown (blk_new w Z44) (World.grownBy_alloc _ _ none) (by simp)
 ·have := blk_new (w.alloc Z44) (.cells #[.int .i64 kd, .string ⟨#[]⟩, .slice none 0 0, .slice none 0 0] 44 (0, 0))
  simpa using this
end
theorem info_44 : (Tryd.prog.info? 44).map (fun i => (i.zero, i.size, i.bytes)) = some (some (.agg #[(.int .i64 0), (.string ⟨#[]⟩), (.slice none 0 0), (.slice none 0 0)]), 4, 72) := by kernel_rfl
end Go.Proofs.YteighppcdpaekaaDoor.Rf
end
section
namespace Go.Proofs.YteighppcdpaekaaDoor.Rf
open Go.RowKit Go.Proofs.YteighppcdpaekaaDoorW.PrintWords Go.Proofs.YteighppcdpaekaaDoor Go.Proofs.YteighppcdpaekaaDoor.P
set_option maxRecDepth 100000 in
set_option maxHeartbeats 3200000 in
theorem array_calls {V : Int → Int → Int → Int → Option RVal} {b : List Int} (hV : VOK b V) (k g : Nat) (a d e B : Int) (r : RVal) (w0 w : World) (hI : IsS96 w0 w g b a d e B) (hB : Below w0.heap.size w0 w) (hlt : g < w.heap.size) (h : arrF V k b a d e B = some r) :
  Calls Tryd.prog 67 #[.pointer (some ⟨g, 0, none⟩)] w (VPost w0 w g b r) := by
 have N := Aside0.mk (VS.start (kd := 5) hI hB hlt)
 have h' := Option.bind_eq_some_iff.mp h
 obtain ⟨⟨t, a1, d1, e1, B1⟩, hs, h'⟩ := h'
 have H := Aside0.mk h'
 have hse := Aside0.mk hs
 clear hI hB h h' hs
 go_enter Tryd.func67, Tryd.ntmps67
 go_upto_region 2 with fail
 refine absP (fun W => VS w0 w g b 5 W a d e B _ _ _ _) N.out ?_
 clear N
 intro w1 N1
 have N := Aside0.mk N1
 clear N1
 go_wp2_with fail
 refine (rR_enter.calls k g b a d e B 93 t a1 d1 e1 B1 w0 _ N.out.i N.out.bl hse.out).mono ?_
 rintro en w2 ⟨rfl, hi, hb, hk⟩
 have Nn := Aside0.mk (N.out.step hi hb hk)
 clear N hse hi hb hk
 have N := Nn
 clear Nn
 cases t with
 | true =>
  have h := H.out
  obtain rfl := Option.some.inj (show some _ = some r from h)
  clear H h
  obtain ⟨⟨x0, x1, x2, x3⟩, ⟨y0, y1, y2, y3⟩, ⟨f0, f1, f2, f3⟩, ⟨f4, f5⟩, c1, c3⟩ := N.out.cells
  go_wp2_with fail
  have F := N.out.fin _ rfl
  clear N x0 x1 x2 x3 y0 y1 y2 y3 f0 f1 f2 f3 f4 f5 c1 c3
  generalize World.setCell _ _ _ = wf at F ⊢
  obtain ⟨FP, c0, c1, c2, c3⟩ := F
  exact bodyPost_ret (v := .agg #[.int .i64 5, .string ⟨#[]⟩, .slice none 0 0, .slice none 0 0]) (by simp [results, Tryd.results67, go_sem, c0, c1, c2, c3]) rfl FP
 | false =>
  have h : itemsF V k b k [] true a1 d1 e1 B1 = some r := H.out
  clear H
  have H := Aside0.mk h
  clear h
  go_wp2_with fail
  go_loopg [4] k (fun kq s4 wc => ∃ (m : Bool) (a1 d1 e1 B1 : Int) (lv : Value) (l : List S44), s4 = .bool m ∧ Aside0 (itemsF V k b kq l m a1 d1 e1 B1 = some r) ∧ VS w0 w g b 5 wc a1 d1 e1 B1 (.slice none 0 0) lv [] l)
  case atStart => exact ⟨true, _, _, _, _, _, _, rfl, H, N.out⟩
  case round =>
   clear H N
   obtain ⟨m, a2, d2, e2, B2, lv, l, rfl, H, Nn⟩ := hrel
   have N := Aside0.mk Nn
   clear Nn
   obtain ⟨A1, n1, q1, rfl⟩ : ∃ A n c, lv = .slice A n c := by
    obtain ⟨A, c, e⟩ := Kd.R_slice N.out.own
    exact ⟨_, _, _, e⟩
   cases gk with
   | zero => exact absurd H.out (by simp [itemsF])
   | succ j =>
    obtain ⟨⟨x0, x1, x2, x3⟩, ⟨y0, y1, y2, y3⟩, ⟨f0, f1, f2, f3⟩, ⟨f4, f5⟩, c1, c3⟩ := N.out.cells
    rcases (show (m = true ∧ (e2 == 0) = true) ∨ (m = true ∧ (e2 == 0) = false) ∨ m = false from by cases m <;> cases (e2 == 0) <;> simp) with ⟨rfl, q⟩ | ⟨rfl, q⟩ | rfl
    ·have h := H.out
     clear H
     rw [itemsF, if_pos (by rw [q]; rfl)] at h
     replace h := Option.bind_eq_some_iff.mp h
     obtain ⟨⟨⟨t0, t1, t2, t3⟩, a3, d3, e3, B3⟩, hv, h⟩ := h
     have hlen : l.length < 1000000 := Classical.byContradiction fun hc => by
      rw [if_neg hc] at h
      simp at h
     rw [if_pos hlen] at h
     replace h := Option.bind_eq_some_iff.mp h
     obtain ⟨⟨u, a4, d4, e4, B4⟩, hm, h⟩ := h
     have hme := Aside0.mk hm
     clear hm
     have H := Aside0.mk h
     have hse := Aside0.mk hv
     clear h hv
     go_wp2_with fail
     refine (hV g a2 d2 e2 B2 _ w0 _ N.out.i N.out.bl hse.out).mono ?_
     rintro en w3 ⟨v2, v3, rfl, hR2, hR3, hi, hb, hk⟩
     obtain ⟨A2, n2, q2, rfl⟩ : ∃ A n c, v2 = .slice A n c := by
      obtain ⟨A, c, e⟩ := Kd.R_slice hR2
      exact ⟨_, _, _, e⟩
     obtain ⟨A3, n3, q3, rfl⟩ : ∃ A n c, v3 = .slice A n c := by
      obtain ⟨A, c, e⟩ := Kd.R_slice hR3
      exact ⟨_, _, _, e⟩
     have hrs := N.out.k.1
     have hlv := fun k e => Kd.R_lt N.out.own k e
     have hwr : w.heap.size + 2 ≤ wr.heap.size := by have := blk_lt N.out.vb; omega
     have hsz := hk.1
     have Nn := Aside0.mk (N.out.step hi hb hk)
     clear N hi hb hk x0 x1 x2 x3 y0 y1 y2 y3 f0 f1 f2 f3 f4 f5 c1 c3 hse
     have N := Nn
     clear Nn
     go_upto_region 7 with fail
     have hx := blk_new w3 (.cells #[.int .i64 t0, .string t1, .slice A2 n2 q2, .slice A3 n3 q3] 44 (0, 0))
     have hR2' := Kd.R_grown hR2 (World.grownBy_alloc w3 (.cells #[.int .i64 t0, .string t1, .slice A2 n2 q2, .slice A3 n3 q3] 44 (0, 0)) none) (fun _ _ => by simp)
     have hR3' := Kd.R_grown hR3 (World.grownBy_alloc w3 (.cells #[.int .i64 t0, .string t1, .slice A2 n2 q2, .slice A3 n3 q3] 44 (0, 0)) none) (fun _ _ => by simp)
     have hM := k44_mkM _ _ (fun _ => True) ⟨t0, t1, t2, t3⟩ hR2' (Kd.R_mono hR3' (fun _ _ => trivial))
     replace hM := k44.M_lower (show w.heap.size + 2 ≤ wr.heap.size from hwr) (k44.M_mono (ok' := fun k => wr.heap.size ≤ k) (fun k hk => hk.2.1) (k44.M_bound hM))
     have Nn := Aside0.mk (N.out.alloc (.cells #[.int .i64 t0, .string t1, .slice A2 n2 q2, .slice A3 n3 q3] 44 (0, 0)))
     clear N hR2 hR3 hR2' hR3'
     have N := Nn
     clear Nn
     have hs4 : wr.heap.size ≤ (w3.alloc (.cells #[.int .i64 t0, .string t1, .slice A2 n2 q2, .slice A3 n3 q3] 44 (0, 0))).heap.size := Nat.le_trans hsz (by simp)
     generalize w3.alloc (.cells #[.int .i64 t0, .string t1, .slice A2 n2 q2, .slice A3 n3 q3] 44 (0, 0)) = w4 at hx hM N hs4 ⊢
     obtain ⟨x0, x1, x2, x3⟩ := Rd.blk4 hx
     clear hx
     obtain ⟨_, ⟨y0, y1, y2, y3⟩, _, ⟨f4, f5⟩, _, _⟩ := N.out.cells
     have hM' := Aside0.mk hM
     clear hM
     have hwr' := Aside0.mk hwr
     have hlv' := Aside0.mk hlv
     clear hlv hrs
     go_wp2_with (first
      | ((with_reducible refine gate_builtin (b := .append) (xs := #[.tmp 21, .tmp 23]) rfl ?_); at_builtin; refine Kd.R_append k44 (w0 := w4) (w.heap.size + 2) rfl (.tmp 21) (.tmp 23) 42 44 _ 72 rfl Tryd.underlying42 info_44 rfl (by decide) (by decide) (.slice A1 n1 q1) l ⟨t0, t1, t2, t3⟩ [.int .i64 t0, .string t1, .slice A2 n2 q2, .slice A3 n3 q3] (fun k => some k ≠ (Value.slice none 0 0).ownBlock) (fun k => wr.heap.size ≤ k) rfl (by first | rfl | simp) hM'.out (fun k hk => ⟨by simp [Value.ownBlock], fun e => by have := hlv'.out k e.symm; omega⟩) (fun _ _ => by simp [Value.ownBlock]) N.out.own (Below.refl _ _) (by have := hwr'.out; omega) (by omega) ?_; intro v1 w5 hR5 hB5 hg5 hat5; obtain ⟨A5, n5, q5, rfl⟩ : ∃ A n c, v1 = .slice A n c := (by obtain ⟨A, c, e⟩ := Kd.R_slice hR5; exact ⟨_, _, _, e⟩); obtain ⟨_, _, _, _, hv5⟩ := N.out.grown0 hg5 (Kd.R_base N.out.own); have y5 := (Rd.blk4 hv5).2.2.2; have f6 := bfz hv5 3; clear hv5))
     have Nn := Aside0.mk (N.out.appL hR5 hg5)
     clear N hR5 hB5 hg5 hat5 x0 x1 x2 x3 y0 y1 y2 y3 f4 f5 y5 f6
     have N := Nn
     clear Nn
     refine (rR_more.calls k g b a3 d3 e3 B3 93 u a4 d4 e4 B4 w0 _ N.out.i N.out.bl hme.out).mono ?_
     rintro en w6 ⟨rfl, hi, hb, hk⟩
     have Nn := Aside0.mk (N.out.step hi hb hk)
     clear N hi hb hk hme
     have N := Nn
     clear Nn
     go_wp2_with fail
     go_roundg j
     case measure => omega
     exact ⟨u, a4, d4, e4, B4, _, _, rfl, H, N.out⟩
    all_goals
     have h := H.out
     clear H
     rw [itemsF, if_neg (by first | (rw [q]; decide) | simp)] at h
     obtain rfl := Option.some.inj h
     clear h
     go_wp2_with fail
     have F := N.out.fin _ rfl
     clear N x0 x1 x2 x3 y0 y1 y2 y3 f0 f1 f2 f3 f4 f5 c1 c3
     generalize World.setCell _ _ _ = wf at F ⊢
     obtain ⟨FP, c0, c1, c2, c3⟩ := F
     exact bodyPost_ret (v := .agg #[.int .i64 5, .string ⟨#[]⟩, .slice none 0 0, .slice A1 n1 q1]) (by simp [results, Tryd.results67, go_sem, c0, c1, c2, c3]) rfl FP
end Go.Proofs.YteighppcdpaekaaDoor.Rf
end
section
namespace Go.Proofs.YteighppcdpaekaaDoor.Rf
open Go.RowKit Go.Proofs.YteighppcdpaekaaDoorW.PrintWords Go.Proofs.YteighppcdpaekaaDoor Go.Proofs.YteighppcdpaekaaDoor.P
theorem key_at {w : World} {A : Option Addr} {n : Nat} {xs : List ByteArray} (h : Kd.C Kd.string w A n xs) {i : Nat} (hi : i < n) : ∃ ad, A = some ad ∧ w.cell? (ad.add i) = some (.string (xs.getD i ⟨#[]⟩)) := by
 obtain ⟨ad, c, e, _, hK, hc⟩ := Kd.C_get h ⟨#[]⟩ (i : Int) (by omega) (by omega)
 obtain rfl : c = [.string (xs.getD i ⟨#[]⟩)] := hK
 refine ⟨ad, e, ?_⟩
 have := hc 0 _ rfl
 rw [Int.toNat_natCast] at this
 simpa [Kd.string, Kd.scalar] using this
theorem toList_inj {x y : ByteArray} (h : x.toList = y.toList) : x = y := by
 rw [ByteArray.toList_eq, ByteArray.toList_eq] at h
 exact ByteArray.ext (Array.toList_inj.1 h)
theorem key_ne {x y : ByteArray} (h : ¬ x = y) : (x.toList == y.toList) = false := by
 rw [beq_eq_false_iff_ne]
 exact fun e => h (toList_inj e)
structure XS (W : World) (base top nx : Nat) (t0 : Int) (t1 : ByteArray) (v2 v3 : Value) (t2 : List ByteArray) (t3 : List S44) : Prop where
 hx : W.heap[nx]? = some (.cells #[.int .i64 t0, .string t1, v2, v3] 44 (0, 0))
 r2 : Kd.string.R 9 W base (fun k => base ≤ k ∧ k < top) v2 t2
 r3 : k44.R 44 W base (fun k => base ≤ k ∧ k < top) v3 t3
 le : base ≤ nx
theorem XS.mk' {W : World} {base : Nat} {t0 : Int} {t1 : ByteArray} {v2 v3 : Value} {t2 : List ByteArray} {t3 : List S44} (h2 : Kd.string.R 9 W base (fun _ => True) v2 t2) (h3 : k44.R 44 W base (fun k => some k ≠ v2.ownBlock) v3 t3) (hb : base ≤ W.heap.size) :
  XS (W.alloc (.cells #[.int .i64 t0, .string t1, v2, v3] 44 (0, 0))) base W.heap.size W.heap.size t0 t1 v2 v3 t2 t3 :=
 ⟨blk_new _ _, Kd.R_grown (Kd.R_mono (Kd.R_bound h2) (fun k hk => ⟨hk.2.1, hk.2.2.1⟩)) (World.grownBy_alloc W _ none) (fun _ _ => by simp), Kd.R_grown (Kd.R_mono (Kd.R_bound h3) (fun k hk => ⟨hk.2.1, hk.2.2.1⟩)) (World.grownBy_alloc W _ none) (fun _ _ => by simp), hb⟩
theorem XS.grown {W W' : World} {base top nx : Nat} {t0 : Int} {t1 : ByteArray} {v2 v3 : Value} {t2 : List ByteArray} {t3 : List S44} (h : XS W base top nx t0 t1 v2 v3 t2 t3) {row : Option Nat} (hg : W.grownBy W' row) (hr : ∀ k, row = some k → k < base) : XS W' base top nx t0 t1 v2 v3 t2 t3 := by
 have := h.le
 exact ⟨blk_grown h.hx hg (fun e => by have := hr _ e.symm; omega), Kd.R_grown h.r2 hg (fun k hk e => by have := hr _ e.symm; omega), Kd.R_grown h.r3 hg (fun k hk e => by have := hr _ e.symm; omega), h.le⟩
theorem XS.set {W : World} {base top nx : Nat} {t0 : Int} {t1 : ByteArray} {v2 v3 : Value} {t2 : List ByteArray} {t3 : List S44} (h : XS W base top nx t0 t1 v2 v3 t2 t3) (p : Addr) (hp : p.block < base) (u : Value) : XS (W.setCell p u) base top nx t0 t1 v2 v3 t2 t3 := by
 have := h.le
 exact ⟨blk_far h.hx (by omega) u, Kd.R_far h.r2 (fun k hk => by omega) u, Kd.R_far h.r3 (fun k hk => by omega) u, h.le⟩
theorem XS.M {W : World} {base top nx : Nat} {t0 : Int} {t1 : ByteArray} {v2 v3 : Value} {t2 : List ByteArray} {t3 : List S44} (h : XS W base top nx t0 t1 v2 v3 t2 t3) {base' : Nat} (hb : base' ≤ base) : k44.M W base' (fun k => base ≤ k ∧ k < top) ⟨t0, t1, t2, t3⟩ [.int .i64 t0, .string t1, v2, v3] :=
 k44.M_lower hb (k44_mkM _ _ _ ⟨t0, t1, t2, t3⟩ h.r2 h.r3)
theorem info_9 : (Tryd.prog.info? 9).map (fun i => (i.zero, i.size, i.bytes)) = some (some (.string ⟨#[]⟩), 1, 16) := by kernel_rfl
set_option maxRecDepth 100000 in
set_option maxHeartbeats 3200000 in
theorem object_calls {V : Int → Int → Int → Int → Option RVal} {b : List Int} (hV : VOK b V) (k g : Nat) (a d e B : Int) (r : RVal) (w0 w : World) (hI : IsS96 w0 w g b a d e B) (hB : Below w0.heap.size w0 w) (hlt : g < w.heap.size) (h : objF V k b a d e B = some r) :
  Calls Tryd.prog 66 #[.pointer (some ⟨g, 0, none⟩)] w (VPost w0 w g b r) := by
 have N := Aside0.mk (VS.start (kd := 6) hI hB hlt)
 have h' := Option.bind_eq_some_iff.mp h
 obtain ⟨⟨t, a1, d1, e1, B1⟩, hs, h'⟩ := h'
 have H := Aside0.mk h'
 have hse := Aside0.mk hs
 clear hI hB h h' hs
 go_enter Tryd.func66, Tryd.ntmps66
 go_upto_region 2 with fail
 refine absP (fun W => VS w0 w g b 6 W a d e B _ _ _ _) N.out ?_
 clear N
 intro w1 N1
 have N := Aside0.mk N1
 clear N1
 go_wp2_with fail
 refine (rR_enter.calls k g b a d e B 125 t a1 d1 e1 B1 w0 _ N.out.i N.out.bl hse.out).mono ?_
 rintro en w2 ⟨rfl, hi, hb, hk⟩
 have Nn := Aside0.mk (N.out.step hi hb hk)
 clear N hse hi hb hk
 have N := Nn
 clear Nn
 cases t with
 | true =>
  have h := H.out
  obtain rfl := Option.some.inj (show some _ = some r from h)
  clear H h
  obtain ⟨⟨x0, x1, x2, x3⟩, ⟨y0, y1, y2, y3⟩, ⟨f0, f1, f2, f3⟩, ⟨f4, f5⟩, c1, c3⟩ := N.out.cells
  go_wp2_with fail
  have F := N.out.fin _ rfl
  clear N x0 x1 x2 x3 y0 y1 y2 y3 f0 f1 f2 f3 f4 f5 c1 c3
  generalize World.setCell _ _ _ = wf at F ⊢
  obtain ⟨FP, c0, c1, c2, c3⟩ := F
  exact bodyPost_ret (v := .agg #[.int .i64 6, .string ⟨#[]⟩, .slice none 0 0, .slice none 0 0]) (by simp [results, Tryd.results66, go_sem, c0, c1, c2, c3]) rfl FP
 | false =>
  have h : pairsF V k b k [] [] true a1 d1 e1 B1 = some r := H.out
  clear H
  have H := Aside0.mk h
  clear h
  go_wp2_with fail
  go_loopg [4] k (fun kq s4 wc => ∃ (m : Bool) (a1 d1 e1 B1 : Int) (kv lv : Value) (ks : List ByteArray) (l : List S44), s4 = .bool m ∧ Aside0 (pairsF V k b kq ks l m a1 d1 e1 B1 = some r) ∧ VS w0 w g b 6 wc a1 d1 e1 B1 kv lv ks l)
  case atStart => exact ⟨true, _, _, _, _, _, _, _, _, rfl, H, N.out⟩
  case round =>
   clear H N
   obtain ⟨m, a2, d2, e2, B2, kv, lv, ks, l, rfl, H, Nn⟩ := hrel
   have N := Aside0.mk Nn
   clear Nn
   obtain ⟨A1, n1, q1, rfl⟩ : ∃ A n c, lv = .slice A n c := by
    obtain ⟨A, c, e⟩ := Kd.R_slice N.out.own
    exact ⟨_, _, _, e⟩
   obtain ⟨A0, q0, rfl⟩ : ∃ A c, kv = .slice A ks.length c := Kd.R_slice N.out.own2
   cases gk with
   | zero => exact absurd H.out (by simp [pairsF])
   | succ j =>
    obtain ⟨⟨x0, x1, x2, x3⟩, ⟨y0, y1, y2, y3⟩, ⟨f0, f1, f2, f3⟩, ⟨f4, f5⟩, c1, c3⟩ := N.out.cells
    rcases (show (m = true ∧ (e2 == 0) = true) ∨ (m = true ∧ (e2 == 0) = false) ∨ m = false from by cases m <;> cases (e2 == 0) <;> simp) with ⟨rfl, q⟩ | ⟨rfl, q⟩ | rfl
    ·have h := H.out
     clear H
     rw [pairsF, if_pos (by rw [q]; rfl)] at h
     replace h := Option.bind_eq_some_iff.mp h
     obtain ⟨⟨key, ⟨t0, t1, t2, t3⟩, a3, d3, e3, B3⟩, hp, h⟩ := h
     have hlen : l.length < 1000000 ∧ ks.length < 1000000 := Classical.byContradiction fun hc => by
      rw [if_neg hc] at h
      simp at h
     rw [if_pos hlen] at h
     obtain ⟨hlen, hlen2⟩ := hlen
     replace h := Option.bind_eq_some_iff.mp h
     obtain ⟨⟨u, a4, d4, e4, B4⟩, hm, h⟩ := h
     have hme := Aside0.mk hm
     have H := Aside0.mk h
     clear hm h
     unfold pairF at hp
     replace hp := Option.bind_eq_some_iff.mp hp
     obtain ⟨⟨key', ba, bd, be, bB⟩, p1, hp⟩ := hp
     replace hp := Option.bind_eq_some_iff.mp hp
     obtain ⟨⟨ca, cd, ce, cB⟩, p2, hp⟩ := hp
     replace hp := Option.bind_eq_some_iff.mp hp
     obtain ⟨⟨da, dd, de, dB⟩, p3, hp⟩ := hp
     replace hp := Option.bind_eq_some_iff.mp hp
     obtain ⟨⟨ea, ed, ee, eB⟩, p4, hp⟩ := hp
     replace hp := Option.bind_eq_some_iff.mp hp
     obtain ⟨⟨fa, fd, fe, fB⟩, p5, hp⟩ := hp
     replace hp := Option.bind_eq_some_iff.mp hp
     obtain ⟨v, p6, hp⟩ := hp
     have hp := Option.some.inj hp
     obtain rfl : key' = key := congrArg Prod.fst hp
     obtain rfl : v = (⟨t0, t1, t2, t3⟩, a3, d3, e3, B3) := congrArg Prod.snd hp
     clear hp
     have P1 := Aside0.mk p1
     have P2 := Aside0.mk p2
     have P3 := Aside0.mk p3
     have P4 := Aside0.mk p4
     have P5 := Aside0.mk p5
     have P6 := Aside0.mk p6
     clear p1 p2 p3 p4 p5 p6
     have hl2 := Aside0.mk hlen2
     clear hlen2
     go_wp2_with fail
     refine (rR_text.calls k g b a2 d2 e2 B2 key' ba bd be bB w0 _ N.out.i N.out.bl P1.out).mono ?_
     rintro en w3 ⟨rfl, hi, hb, hk⟩
     have hwr : w.heap.size + 2 ≤ wr.heap.size := by
      have := blk_lt N.out.vb
      omega
     have hwr' := Aside0.mk hwr
     have Nn := Aside0.mk (N.out.step hi hb hk)
     clear N hi hb hk x0 x1 x2 x3 y0 y1 y2 y3 f0 f1 f2 f3 f4 f5 c1 c3 P1 hwr
     have N := Nn
     clear Nn
     go_upto_block 2 with fail
     go_cut [7] (fun s7 wc => VS w0 w g b 6 wc ca cd ce cB (.slice A0 ks.length q0) (.slice A1 n1 q1) ks l)
     case first =>
      go_wp2_with fail
      go_loopg [7] ks.length (fun kq s7 wc => ∃ (i : Nat) (a1 d1 e1 B1 : Int), s7 = .int .i64 (i : Int) ∧ Aside0 (i + kq = ks.length) ∧ Aside0 (dupF (ks.drop i) key' a2 a1 d1 e1 B1 = some (ca, cd, ce, cB)) ∧ VS w0 w g b 6 wc a1 d1 e1 B1 (.slice A0 ks.length q0) (.slice A1 n1 q1) ks l)
      case atStart => exact ⟨0, _, _, _, _, rfl, ⟨by omega⟩, P2, N.out⟩
      case round =>
       clear N P2 H hme P3 P4 P5 P6
       obtain ⟨i, ga, gd, ge, gB, rfl, hik, hdup, Nn⟩ := hrel
       have N := Aside0.mk Nn
       clear Nn
       obtain ⟨⟨x0, x1, x2, x3⟩, ⟨y0, y1, y2, y3⟩, ⟨f0, f1, f2, f3⟩, ⟨f4, f5⟩, c1, c3⟩ := N.out.cells
       cases gk with
       | zero =>
        obtain rfl : i = ks.length := hik.out
        have hd := hdup.out
        rw [List.drop_length] at hd
        obtain ⟨rfl, rfl, rfl, rfl⟩ : ga = ca ∧ gd = cd ∧ ge = ce ∧ gB = cB := by simpa [dupF] using hd
        clear hd hdup hik
        go_wp2_with fail
        go_meet
        exact N.out
       | succ jj =>
        have hi : i < ks.length := by have := hik.out; omega
        obtain ⟨ad, hA, hkey⟩ := key_at (Kd.R_reads' N.out.own2).2.2 hi
        have hd := hdup.out
        rw [List.drop_eq_getElem_cons hi] at hd
        subst hA
        rw [show ks.getD i ⟨#[]⟩ = ks[i] by simp [hi]] at hkey
        have hiz : (i : Int) < (ks.length : Int) := by omega
        have hw1 : wrap64 ((i : Int) + 1) = ((i + 1 : Nat) : Int) := by have := hl2.out; unfold wrap64; omega
        by_cases hc : ks[i] = key'
        ·rw [hc] at hkey
         have hst : ∃ e' B', rR_fail.f b ga gd ge gB 23 a2 = some (ga, gd, e', B') ∧ dupF (ks.drop (i + 1)) key' a2 ga gd e' B' = some (ca, cd, ce, cB) := by
          simp only [dupF] at hd
          rw [if_pos hc] at hd
          by_cases he : ge = 0
          ·rw [if_pos he] at hd
           exact ⟨23, a2, by rw [he]; exact fail_0 _ _ _, hd⟩
          ·rw [if_neg he] at hd
           exact ⟨ge, gB, fail_bad he _ _, hd⟩
         clear hd hc
         obtain ⟨e', B', hf, hd⟩ := hst
         have hd := Aside0.mk hd
         have hf := Aside0.mk hf
         go_wp2_with fail
         refine (rR_fail.calls g b ga gd ge gB 23 a2 ga gd e' B' w0 _ N.out.i N.out.bl hf.out).mono ?_
         rintro en w4 ⟨rfl, hi4, hb, hk⟩
         have Nn := Aside0.mk (N.out.step hi4 hb hk)
         clear N hi4 hb hk x0 x1 x2 x3 y0 y1 y2 y3 f0 f1 f2 f3 f4 f5 c1 c3 hkey hf
         go_wp2_with fail
         go_roundg jj
         case measure => omega
         exact ⟨i + 1, _, _, _, _, by rw [← hw1], ⟨by have := hik.out; omega⟩, by assumption, Nn.out⟩
        ·have hd2 : dupF (ks.drop (i + 1)) key' a2 ga gd ge gB = some (ca, cd, ce, cB) := by
          simp only [dupF] at hd
          rw [if_neg hc] at hd
          exact hd
         have hd2 := Aside0.mk hd2
         clear hd
         have hcb := key_ne hc
         go_wp2_with fail
         go_roundg jj
         case measure => omega
         exact ⟨i + 1, _, _, _, _, by rw [← hw1], ⟨by have := hik.out; omega⟩, hd2, N.out⟩
     case rest =>
      clear N P2
      have N := Aside0.mk hcut
      clear hcut
      obtain ⟨⟨x0, x1, x2, x3⟩, ⟨y0, y1, y2, y3⟩, ⟨f0, f1, f2, f3⟩, ⟨f4, f5⟩, c1, c3⟩ := N.out.cells
      go_wp2_with fail
      refine (rR_blank.calls k g b ca cd ce cB da dd de dB w0 _ N.out.i N.out.bl P3.out).mono ?_
      rintro en w10 ⟨rfl, hi, hb, hk⟩
      have Nn := Aside0.mk (N.out.step hi hb hk)
      clear N hi hb hk x0 x1 x2 x3 y0 y1 y2 y3 f0 f1 f2 f3 f4 f5 c1 c3 P3
      have N := Nn
      clear Nn
      obtain ⟨⟨x0, x1, x2, x3⟩, ⟨y0, y1, y2, y3⟩, ⟨f0, f1, f2, f3⟩, ⟨f4, f5⟩, c1, c3⟩ := N.out.cells
      go_wp2_with fail
      refine (rR_must.calls k g b da dd de dB 58 ea ed ee eB w0 _ N.out.i N.out.bl P4.out).mono ?_
      rintro en w11 ⟨rfl, hi, hb, hk⟩
      have Nn := Aside0.mk (N.out.step hi hb hk)
      clear N hi hb hk x0 x1 x2 x3 y0 y1 y2 y3 f0 f1 f2 f3 f4 f5 c1 c3 P4
      have N := Nn
      clear Nn
      obtain ⟨⟨x0, x1, x2, x3⟩, ⟨y0, y1, y2, y3⟩, ⟨f0, f1, f2, f3⟩, ⟨f4, f5⟩, c1, c3⟩ := N.out.cells
      go_wp2_with fail
      refine (rR_blank.calls k g b ea ed ee eB fa fd fe fB w0 _ N.out.i N.out.bl P5.out).mono ?_
      rintro en w12 ⟨rfl, hi, hb, hk⟩
      have Nn := Aside0.mk (N.out.step hi hb hk)
      clear N hi hb hk x0 x1 x2 x3 y0 y1 y2 y3 f0 f1 f2 f3 f4 f5 c1 c3 P5
      have N := Nn
      clear Nn
      obtain ⟨⟨x0, x1, x2, x3⟩, ⟨y0, y1, y2, y3⟩, ⟨f0, f1, f2, f3⟩, ⟨f4, f5⟩, c1, c3⟩ := N.out.cells
      go_wp2_with fail
      refine (hV g fa fd fe fB _ w0 _ N.out.i N.out.bl P6.out).mono ?_
      rintro en w13 ⟨v2, v3, rfl, hR2, hR3, hi, hb, hk⟩
      obtain ⟨A2, n2, q2, rfl⟩ : ∃ A n c, v2 = .slice A n c := by
       obtain ⟨A, c, e⟩ := Kd.R_slice hR2
       exact ⟨_, _, _, e⟩
      obtain ⟨A3, n3, q3, rfl⟩ : ∃ A n c, v3 = .slice A n c := by
       obtain ⟨A, c, e⟩ := Kd.R_slice hR3
       exact ⟨_, _, _, e⟩
      have hlv := Aside0.mk (fun k e => Kd.R_lt N.out.own k e)
      have hlk := Aside0.mk (fun k e => Kd.R_lt N.out.own2 k e)
      have hwr2 : w.heap.size + 2 ≤ w12.heap.size := by
       have := blk_lt N.out.vb
       omega
      have hwr2' := Aside0.mk hwr2
      have hsz := hk.1
      have X0 := Aside0.mk (XS.mk' (t0 := t0) (t1 := t1) hR2 hR3 hsz)
      clear hR2 hR3
      have Nn := Aside0.mk (N.out.step hi hb hk)
      clear N hi hb hk x0 x1 x2 x3 y0 y1 y2 y3 f0 f1 f2 f3 f4 f5 c1 c3 P6
      have N := Nn
      clear Nn
      go_upto_region 17 with fail
      have Nn := Aside0.mk (N.out.alloc (.cells #[.int .i64 t0, .string t1, .slice A2 n2 q2, .slice A3 n3 q3] 44 (0, 0)))
      clear N
      have N := Nn
      clear Nn
      have hs4 : w12.heap.size ≤ (w13.alloc (.cells #[.int .i64 t0, .string t1, .slice A2 n2 q2, .slice A3 n3 q3] 44 (0, 0))).heap.size := Nat.le_trans hsz (by simp)
      have hs5 : w13.heap.size ≤ (w13.alloc (.cells #[.int .i64 t0, .string t1, .slice A2 n2 q2, .slice A3 n3 q3] 44 (0, 0))).heap.size := by simp
      generalize w13.alloc (.cells #[.int .i64 t0, .string t1, .slice A2 n2 q2, .slice A3 n3 q3] 44 (0, 0)) = w4 at X0 N hs4 hs5 ⊢
      have hs4' := Aside0.mk hs4
      have hs5' := Aside0.mk hs5
      clear hs4 hs5 hsz hwr2
      obtain ⟨_, ⟨y0, y1, y2, y3⟩, _, ⟨f4, f5⟩, _, _⟩ := N.out.cells
      go_upto_region 18 with (first
       | ((with_reducible refine gate_builtin (b := .append) (xs := #[.tmp 53, .tmp 55]) rfl ?_); at_builtin; refine Kd.R_append Kd.string (w0 := w4) (w.heap.size + 2) rfl (.tmp 53) (.tmp 55) 22 9 _ 16 rfl Tryd.underlying22 info_9 rfl (by decide) (by decide) (.slice A0 ks.length q0) ks key' [.string key'] (fun _ => True) (fun _ => False) rfl (by first | rfl | simp) rfl (fun k hk => hk.elim) (fun _ _ => trivial) N.out.own2 (Below.refl _ _) (by have := hwr2'.out; have := hs4'.out; omega) (by have := hl2.out; omega) ?_; intro v1 w5 hR5 hB5 hg5 hat5; obtain ⟨A5, n5, q5, rfl⟩ : ∃ A n c, v1 = .slice A n c := (by obtain ⟨A, c, e⟩ := Kd.R_slice hR5; exact ⟨_, _, _, e⟩); obtain ⟨_, _, _, _, hv5⟩ := N.out.grown0 hg5 (Kd.R_base N.out.own2); have y5 := (Rd.blk4 hv5).2.2.1; have f6 := bfz hv5 2; clear hv5))
      have hne5 : ∀ k, (Value.slice A5 n5 q5).ownBlock = some k → k < w12.heap.size ∨ w4.heap.size ≤ k := fun k e => by
       rcases hat5 with h | ⟨b, h, hle⟩
       ·exact .inl (hlk.out k (h.symm.trans e))
       ·right
        rw [h] at e
        cases e
        exact hle
      have hne5' := Aside0.mk hne5
      have Xn := Aside0.mk ((X0.out.grown hg5 (fun k e => hlk.out k e)).set ⟨w.heap.size + 1, 2, none⟩ (by have := hwr2'.out; show w.heap.size + 1 < w12.heap.size; omega) (.slice A5 n5 q5))
      have Nn := Aside0.mk (N.out.appK hR5 hg5 hat5)
      have hs6 := Aside0.mk (show w4.heap.size ≤ (w5.setCell ⟨w.heap.size + 1, 2, none⟩ (.slice A5 n5 q5)).heap.size by have := hg5.size; simpa [World.setCell] using this)
      clear N X0 hR5 hB5 hg5 hat5 y0 y1 y2 y3 f4 f5 y5 f6 hne5
      have N := Nn
      clear Nn
      generalize w5.setCell ⟨w.heap.size + 1, 2, none⟩ (.slice A5 n5 q5) = w6 at N Xn hs6 ⊢
      obtain ⟨x0, x1, x2, x3⟩ := Rd.blk4 Xn.out.hx
      obtain ⟨_, ⟨y0, y1, y2, y3⟩, _, ⟨f4, f5⟩, _, _⟩ := N.out.cells
      go_wp2_with (first
       | ((with_reducible refine gate_builtin (b := .append) (xs := #[.tmp 59, .tmp 61]) rfl ?_); at_builtin; refine Kd.R_append k44 (w0 := w6) (w.heap.size + 2) rfl (.tmp 59) (.tmp 61) 42 44 _ 72 rfl Tryd.underlying42 info_44 rfl (by decide) (by decide) (.slice A1 n1 q1) l ⟨t0, t1, t2, t3⟩ [.int .i64 t0, .string t1, .slice A2 n2 q2, .slice A3 n3 q3] (fun k => some k ≠ (Value.slice A5 n5 q5).ownBlock) (fun k => w12.heap.size ≤ k ∧ k < w13.heap.size) rfl (by first | rfl | simp) (Xn.out.M hwr2'.out) (fun k hk => ⟨fun e => by have := hne5'.out k e.symm; have := hs5'.out; omega, fun e => by have := hlv.out k e.symm; omega⟩) (fun k hk e => by have := Kd.R_lt N.out.own2 k e.symm; omega) N.out.own (Below.refl _ _) (by have := hwr2'.out; have := hs4'.out; have := hs6.out; omega) (by omega) ?_; intro v1 w7 hR7 hB7 hg7 hat7; obtain ⟨A7, n7, q7, rfl⟩ : ∃ A n c, v1 = .slice A n c := (by obtain ⟨A, c, e⟩ := Kd.R_slice hR7; exact ⟨_, _, _, e⟩); obtain ⟨_, _, _, _, hv7⟩ := N.out.grown0 hg7 (Kd.R_base N.out.own); have y5 := (Rd.blk4 hv7).2.2.2; have f6 := bfz hv7 3; clear hv7))
      have Nn := Aside0.mk (N.out.appL hR7 hg7)
      clear N hR7 hB7 hg7 hat7 x0 x1 x2 x3 y0 y1 y2 y3 f4 f5 y5 f6
      have N := Nn
      clear Nn
      refine (rR_more.calls k g b a3 d3 e3 B3 125 u a4 d4 e4 B4 w0 _ N.out.i N.out.bl hme.out).mono ?_
      rintro en w8 ⟨rfl, hi, hb, hk⟩
      have Nn := Aside0.mk (N.out.step hi hb hk)
      clear N hi hb hk hme
      have N := Nn
      clear Nn
      go_wp2_with fail
      go_roundg j
      case measure => omega
      exact ⟨u, a4, d4, e4, B4, _, _, _, _, rfl, H, N.out⟩
    all_goals
     have h := H.out
     clear H
     rw [pairsF, if_neg (by first | (rw [q]; decide) | simp)] at h
     obtain rfl := Option.some.inj h
     clear h
     go_wp2_with fail
     have F := N.out.fin _ rfl
     clear N x0 x1 x2 x3 y0 y1 y2 y3 f0 f1 f2 f3 f4 f5 c1 c3
     generalize World.setCell _ _ _ = wf at F ⊢
     obtain ⟨FP, c0, c1, c2, c3⟩ := F
     exact bodyPost_ret (v := .agg #[.int .i64 6, .string ⟨#[]⟩, .slice A0 ks.length q0, .slice A1 n1 q1]) (by simp [results, Tryd.results66, go_sem, c0, c1, c2, c3]) rfl FP
end Go.Proofs.YteighppcdpaekaaDoor.Rf
end
section
namespace Go.Proofs.YteighppcdpaekaaDoor.Rf
open Go.RowKit Go.Proofs.YteighppcdpaekaaDoorW.PrintWords Go.Proofs.YteighppcdpaekaaDoor Go.Proofs.YteighppcdpaekaaDoor.P
theorem NS.out {w0 w : World} {g : Nat} {b : List Int} {W : World} {a d e B : Int} (h : NS w0 w g b W a d e B) (x0 : Int) (x1 : ByteArray) (x2 : List ByteArray) (x3 : List S44) {v2 v3 : Value} (h2 : Kd.string.R 9 W (w.heap.size + 1) (fun _ => True) v2 x2) (h3 : k44.R 44 W (w.heap.size + 1) (fun k => some k ≠ v2.ownBlock) v3 x3) :
  ∀ W', (((W.setCell ⟨w.heap.size, 0, none⟩ (.int .i64 x0)).setCell ⟨w.heap.size, 1, none⟩ (.string x1)).setCell ⟨w.heap.size, 2, none⟩ v2).setCell ⟨w.heap.size, 3, none⟩ v3 = W' →
  VPost w0 w g b (⟨x0, x1, x2, x3⟩, a, d, e, B) (.returned (.agg #[.int .i64 x0, .string x1, v2, v3])) W' ∧
  W'.cell? ⟨w.heap.size, 0, none⟩ = some (.int .i64 x0) ∧ W'.cell? ⟨w.heap.size, 1, none⟩ = some (.string x1) ∧ W'.cell? ⟨w.heap.size, 2, none⟩ = some v2 ∧ W'.cell? ⟨w.heap.size, 3, none⟩ = some v3 := by
 rintro _ rfl
 have hn := Nat.ne_of_lt h.lt
 have hs : w0.heap.size ≤ w.heap.size := Nat.le_trans h.i.ge (Nat.le_of_lt h.lt)
 have hB := blk_set (blk_set (blk_set (blk_set h.r0 0 (.int .i64 x0)) 1 (.string x1)) 2 v2) 3 v3
 have st2 : ∀ (W : World) (j : Nat) (u : Value), Kd.string.R 9 W (w.heap.size + 1) (fun _ => True) v2 x2 → Kd.string.R 9 (W.setCell ⟨w.heap.size, j, none⟩ u) (w.heap.size + 1) (fun _ => True) v2 x2 := fun W j u hR =>
  Kd.R_mono (Kd.R_far (p := ⟨w.heap.size, j, none⟩) (Kd.R_bound hR) (fun k hk => by have h2 := hk.2.1; show k ≠ w.heap.size; omega) u) (fun _ _ => trivial)
 have st3 : ∀ (W : World) (j : Nat) (u : Value), k44.R 44 W (w.heap.size + 1) (fun k => some k ≠ v2.ownBlock) v3 x3 → k44.R 44 (W.setCell ⟨w.heap.size, j, none⟩ u) (w.heap.size + 1) (fun k => some k ≠ v2.ownBlock) v3 x3 := fun W j u hR =>
  Kd.R_mono (Kd.R_far (p := ⟨w.heap.size, j, none⟩) (Kd.R_bound hR) (fun k hk => by have h2 := hk.2.1; show k ≠ w.heap.size; omega) u) (fun _ hk => hk.1)
 refine ⟨⟨v2, v3, rfl, Kd.R_lower (st2 _ _ _ (st2 _ _ _ (st2 _ _ _ (st2 _ _ _ h2)))) (Nat.le_add_right _ 1), Kd.R_lower (st3 _ _ _ (st3 _ _ _ (st3 _ _ _ (st3 _ _ _ h3)))) (Nat.le_add_right _ 1), (((h.i.far (p := ⟨w.heap.size, 0, none⟩) hn _).far (p := ⟨w.heap.size, 1, none⟩) hn _).far (p := ⟨w.heap.size, 2, none⟩) hn _).far (p := ⟨w.heap.size, 3, none⟩) hn _, ?_, ?_⟩, (blk_cell hB 0).trans rfl, (blk_cell hB 1).trans rfl, (blk_cell hB 2).trans rfl, (blk_cell hB 3).trans rfl⟩
 ·exact below_set (below_set (below_set (below_set h.bl hs) hs) hs) hs
 ·exact keep_far (p := ⟨w.heap.size, 3, none⟩) (keep_far (p := ⟨w.heap.size, 2, none⟩) (keep_far (p := ⟨w.heap.size, 1, none⟩) (keep_far (p := ⟨w.heap.size, 0, none⟩) h.k (Nat.le_refl _) _) (Nat.le_refl _) _) (Nat.le_refl _) _) (Nat.le_refl _) _
theorem NS.gt {w0 w : World} {g : Nat} {b : List Int} {W : World} {a d e B : Int} (h : NS w0 w g b W a d e B) : w.heap.size + 1 ≤ W.heap.size := blk_lt h.r
set_option maxRecDepth 100000 in
set_option maxHeartbeats 3200000 in
theorem value_calls (b : List Int) : ∀ k, VOK b (valF b k)
 | 0 => fun g a d e B r w0 w hI hB h => by simp [valF] at h
 | k + 1 => by
  intro g a d e B r w0 w hI hB h
  have ih := Aside0.mk (value_calls b k)
  have N := Aside0.mk (show NS w0 w g b (w.alloc Z44) a d e B from ⟨hI.alloc _, bal hB _, kal (KeepBut.refl _ _ _) _, blk_new _ _, hI.lt⟩)
  have hlt := hI.lt
  clear hI hB
  rw [valF] at h
  replace h := Option.bind_eq_some_iff.mp h
  obtain ⟨⟨c, a1, d1, e1, B1⟩, hp, h⟩ := h
  have H := Aside0.mk h
  have P := Aside0.mk hp
  clear h hp
  go_enter Tryd.func45, Tryd.ntmps45
  go_upto_region 1 with fail
  refine absP (fun W => NS w0 w g b W a d e B) N.out ?_
  clear N
  intro w1 N1
  have N := Aside0.mk N1
  clear N1
  go_wp2_with fail
  refine (rR_peek.calls g b a d e B c a1 d1 e1 B1 w0 _ N.out.i N.out.bl P.out).mono ?_
  rintro en w2 ⟨rfl, hi, hb, hk⟩
  have Nn := Aside0.mk (N.out.call hi hb hk)
  clear N P hi hb hk
  have N := Nn
  clear Nn
  obtain ⟨A, z, _, x1, x3, _, _, _⟩ := N.out.cells
  obtain ⟨hz0, hz1, hz2, hz3, hzf0, hzf1, hzf2, hzf3⟩ := N.out.z
  rcases Bool.eq_false_or_eq_true (e1 != 0) with q | q
  ·have h := H.out
   clear H
   rw [if_pos q] at h
   obtain rfl := Option.some.inj h
   clear h
   go_wp2_with fail
   have F := N.out.out (0) (⟨#[]⟩) ([]) ([]) (Kd.R_nil _ _ _ _ _) (Kd.R_nil _ _ _ _ _) _ rfl
   clear N x1 x3 hz0 hz1 hz2 hz3 hzf0 hzf1 hzf2 hzf3
   generalize World.setCell _ _ _ = wf at F ⊢
   obtain ⟨FP, c0, c1, c2, c3⟩ := F
   exact bodyPost_ret (v := .agg #[.int .i64 (0), .string (⟨#[]⟩), .slice none 0 0, .slice none 0 0]) (by simp [results, Tryd.results45, go_sem, c0, c1, c2, c3]) rfl FP
  ·have h := H.out
   clear H
   rw [if_neg (by rw [q]; decide)] at h
   have H := Aside0.mk h
   clear h
   rcases Bool.eq_false_or_eq_true (c == 123) with q | q
   ·have h := H.out
    clear H
    rw [if_pos q] at h
    obtain ⟨⟨t0, t1, t2, t3⟩, a2, d2, e2, B2⟩ := r
    have H := Aside0.mk h
    clear h
    go_wp2_with fail
    have hgt := N.out.gt
    refine (object_calls ih.out k g a1 d1 e1 B1 _ w0 _ N.out.i N.out.bl N.out.i.lt H.out).mono ?_
    rintro en w3 ⟨v2, v3, rfl, hR2, hR3, hi, hb, hk⟩
    obtain ⟨A2, n2, q2, rfl⟩ : ∃ A n c, v2 = .slice A n c := by
     obtain ⟨A, c, e⟩ := Kd.R_slice hR2
     exact ⟨_, _, _, e⟩
    obtain ⟨A3, n3, q3, rfl⟩ : ∃ A n c, v3 = .slice A n c := by
     obtain ⟨A, c, e⟩ := Kd.R_slice hR3
     exact ⟨_, _, _, e⟩
    replace hR2 := Kd.R_lower hR2 hgt
    replace hR3 := Kd.R_lower hR3 hgt
    clear hgt
    have Nn := Aside0.mk (N.out.call hi hb hk)
    clear N x1 x3 hz0 hz1 hz2 hz3 hzf0 hzf1 hzf2 hzf3 hi hb hk
    have N := Nn
    clear Nn
    obtain ⟨A, z, _, x1, x3, _, _, _⟩ := N.out.cells
    obtain ⟨hz0, hz1, hz2, hz3, hzf0, hzf1, hzf2, hzf3⟩ := N.out.z
    clear H
    go_wp2_with fail
    have F := N.out.out (t0) (t1) (t2) (t3) (hR2) (hR3) _ rfl
    clear N x1 x3 hz0 hz1 hz2 hz3 hzf0 hzf1 hzf2 hzf3
    generalize World.setCell _ _ _ = wf at F ⊢
    obtain ⟨FP, c0, c1, c2, c3⟩ := F
    exact bodyPost_ret (v := .agg #[.int .i64 (t0), .string (t1), .slice A2 n2 q2, .slice A3 n3 q3]) (by simp [results, Tryd.results45, go_sem, c0, c1, c2, c3]) rfl FP
   ·have h := H.out
    clear H
    rw [if_neg (by rw [q]; decide)] at h
    have H := Aside0.mk h
    clear h
    rcases Bool.eq_false_or_eq_true (c == 91) with q | q
    ·have h := H.out
     clear H
     rw [if_pos q] at h
     obtain ⟨⟨t0, t1, t2, t3⟩, a2, d2, e2, B2⟩ := r
     have H := Aside0.mk h
     clear h
     go_wp2_with fail
     have hgt := N.out.gt
     refine (array_calls ih.out k g a1 d1 e1 B1 _ w0 _ N.out.i N.out.bl N.out.i.lt H.out).mono ?_
     rintro en w3 ⟨v2, v3, rfl, hR2, hR3, hi, hb, hk⟩
     obtain ⟨A2, n2, q2, rfl⟩ : ∃ A n c, v2 = .slice A n c := by
      obtain ⟨A, c, e⟩ := Kd.R_slice hR2
      exact ⟨_, _, _, e⟩
     obtain ⟨A3, n3, q3, rfl⟩ : ∃ A n c, v3 = .slice A n c := by
      obtain ⟨A, c, e⟩ := Kd.R_slice hR3
      exact ⟨_, _, _, e⟩
     replace hR2 := Kd.R_lower hR2 hgt
     replace hR3 := Kd.R_lower hR3 hgt
     clear hgt
     have Nn := Aside0.mk (N.out.call hi hb hk)
     clear N x1 x3 hz0 hz1 hz2 hz3 hzf0 hzf1 hzf2 hzf3 hi hb hk
     have N := Nn
     clear Nn
     obtain ⟨A, z, _, x1, x3, _, _, _⟩ := N.out.cells
     obtain ⟨hz0, hz1, hz2, hz3, hzf0, hzf1, hzf2, hzf3⟩ := N.out.z
     clear H
     go_wp2_with fail
     have F := N.out.out (t0) (t1) (t2) (t3) (hR2) (hR3) _ rfl
     clear N x1 x3 hz0 hz1 hz2 hz3 hzf0 hzf1 hzf2 hzf3
     generalize World.setCell _ _ _ = wf at F ⊢
     obtain ⟨FP, c0, c1, c2, c3⟩ := F
     exact bodyPost_ret (v := .agg #[.int .i64 (t0), .string (t1), .slice A2 n2 q2, .slice A3 n3 q3]) (by simp [results, Tryd.results45, go_sem, c0, c1, c2, c3]) rfl FP
    ·have h := H.out
     clear H
     rw [if_neg (by rw [q]; decide)] at h
     have H := Aside0.mk h
     clear h
     rcases Bool.eq_false_or_eq_true (c == 34) with q | q
     ·have h := H.out
      clear H
      rw [if_pos q] at h
      replace h := Option.bind_eq_some_iff.mp h
      obtain ⟨⟨t, a2, d2, e2, B2⟩, ht, h⟩ := h
      obtain rfl := Option.some.inj h
      have H := Aside0.mk ht
      clear ht h
      go_wp2_with fail
      refine (rR_text.calls k g b a1 d1 e1 B1 t a2 d2 e2 B2 w0 _ N.out.i N.out.bl H.out).mono ?_
      rintro en w3 ⟨rfl, hi, hb, hk⟩
      have Nn := Aside0.mk (N.out.call hi hb hk)
      clear N x1 x3 hz0 hz1 hz2 hz3 hzf0 hzf1 hzf2 hzf3 hi hb hk
      have N := Nn
      clear Nn
      obtain ⟨A, z, _, x1, x3, _, _, _⟩ := N.out.cells
      obtain ⟨hz0, hz1, hz2, hz3, hzf0, hzf1, hzf2, hzf3⟩ := N.out.z
      clear H
      go_wp2_with fail
      have F := N.out.out (4) (t) ([]) ([]) (Kd.R_nil _ _ _ _ _) (Kd.R_nil _ _ _ _ _) _ rfl
      clear N x1 x3 hz0 hz1 hz2 hz3 hzf0 hzf1 hzf2 hzf3
      generalize World.setCell _ _ _ = wf at F ⊢
      obtain ⟨FP, c0, c1, c2, c3⟩ := F
      exact bodyPost_ret (v := .agg #[.int .i64 (4), .string (t), .slice none 0 0, .slice none 0 0]) (by simp [results, Tryd.results45, go_sem, c0, c1, c2, c3]) rfl FP
     ·have h := H.out
      clear H
      rw [if_neg (by rw [q]; decide)] at h
      have H := Aside0.mk h
      clear h
      rcases Bool.eq_false_or_eq_true (c == 116) with q | q
      ·have h := H.out
       clear H
       rw [if_pos q] at h
       obtain ⟨⟨t0, t1, t2, t3, a2, d2, e2, B2⟩, hw, h⟩ := Option.map_eq_some_iff.mp h
       obtain rfl := h
       have H := Aside0.mk hw
       clear hw
       go_wp2_with fail
       have hgt := N.out.gt
       refine (rR_word.calls k g b a1 d1 e1 B1 ⟨#[116, 114, 117, 101]⟩ 2 t0 t1 t2 t3 a2 d2 e2 B2 w0 _ N.out.i N.out.bl H.out).mono ?_
       rintro en w3 ⟨v2, v3, rfl, hR2, hR3, hi, hb, hk⟩
       obtain ⟨A2, n2, q2, rfl⟩ : ∃ A n c, v2 = .slice A n c := by
        obtain ⟨A, c, e⟩ := Kd.R_slice hR2
        exact ⟨_, _, _, e⟩
       obtain ⟨A3, n3, q3, rfl⟩ : ∃ A n c, v3 = .slice A n c := by
        obtain ⟨A, c, e⟩ := Kd.R_slice hR3
        exact ⟨_, _, _, e⟩
       replace hR2 := Kd.R_lower hR2 hgt
       replace hR3 := Kd.R_lower hR3 hgt
       clear hgt
       have Nn := Aside0.mk (N.out.call hi hb hk)
       clear N x1 x3 hz0 hz1 hz2 hz3 hzf0 hzf1 hzf2 hzf3 hi hb hk
       have N := Nn
       clear Nn
       obtain ⟨A, z, _, x1, x3, _, _, _⟩ := N.out.cells
       obtain ⟨hz0, hz1, hz2, hz3, hzf0, hzf1, hzf2, hzf3⟩ := N.out.z
       clear H
       go_wp2_with fail
       have F := N.out.out (t0) (t1) (t2) (t3) (hR2) (hR3) _ rfl
       clear N x1 x3 hz0 hz1 hz2 hz3 hzf0 hzf1 hzf2 hzf3
       generalize World.setCell _ _ _ = wf at F ⊢
       obtain ⟨FP, c0, c1, c2, c3⟩ := F
       exact bodyPost_ret (v := .agg #[.int .i64 (t0), .string (t1), .slice A2 n2 q2, .slice A3 n3 q3]) (by simp [results, Tryd.results45, go_sem, c0, c1, c2, c3]) rfl FP
      ·have h := H.out
       clear H
       rw [if_neg (by rw [q]; decide)] at h
       have H := Aside0.mk h
       clear h
       rcases Bool.eq_false_or_eq_true (c == 102) with q | q
       ·have h := H.out
        clear H
        rw [if_pos q] at h
        obtain ⟨⟨t0, t1, t2, t3, a2, d2, e2, B2⟩, hw, h⟩ := Option.map_eq_some_iff.mp h
        obtain rfl := h
        have H := Aside0.mk hw
        clear hw
        go_wp2_with fail
        have hgt := N.out.gt
        refine (rR_word.calls k g b a1 d1 e1 B1 ⟨#[102, 97, 108, 115, 101]⟩ 1 t0 t1 t2 t3 a2 d2 e2 B2 w0 _ N.out.i N.out.bl H.out).mono ?_
        rintro en w3 ⟨v2, v3, rfl, hR2, hR3, hi, hb, hk⟩
        obtain ⟨A2, n2, q2, rfl⟩ : ∃ A n c, v2 = .slice A n c := by
         obtain ⟨A, c, e⟩ := Kd.R_slice hR2
         exact ⟨_, _, _, e⟩
        obtain ⟨A3, n3, q3, rfl⟩ : ∃ A n c, v3 = .slice A n c := by
         obtain ⟨A, c, e⟩ := Kd.R_slice hR3
         exact ⟨_, _, _, e⟩
        replace hR2 := Kd.R_lower hR2 hgt
        replace hR3 := Kd.R_lower hR3 hgt
        clear hgt
        have Nn := Aside0.mk (N.out.call hi hb hk)
        clear N x1 x3 hz0 hz1 hz2 hz3 hzf0 hzf1 hzf2 hzf3 hi hb hk
        have N := Nn
        clear Nn
        obtain ⟨A, z, _, x1, x3, _, _, _⟩ := N.out.cells
        obtain ⟨hz0, hz1, hz2, hz3, hzf0, hzf1, hzf2, hzf3⟩ := N.out.z
        clear H
        go_wp2_with fail
        have F := N.out.out (t0) (t1) (t2) (t3) (hR2) (hR3) _ rfl
        clear N x1 x3 hz0 hz1 hz2 hz3 hzf0 hzf1 hzf2 hzf3
        generalize World.setCell _ _ _ = wf at F ⊢
        obtain ⟨FP, c0, c1, c2, c3⟩ := F
        exact bodyPost_ret (v := .agg #[.int .i64 (t0), .string (t1), .slice A2 n2 q2, .slice A3 n3 q3]) (by simp [results, Tryd.results45, go_sem, c0, c1, c2, c3]) rfl FP
       ·have h := H.out
        clear H
        rw [if_neg (by rw [q]; decide)] at h
        have H := Aside0.mk h
        clear h
        rcases Bool.eq_false_or_eq_true (c == 110) with q | q
        ·have h := H.out
         clear H
         rw [if_pos q] at h
         obtain ⟨⟨t0, t1, t2, t3, a2, d2, e2, B2⟩, hw, h⟩ := Option.map_eq_some_iff.mp h
         obtain rfl := h
         have H := Aside0.mk hw
         clear hw
         go_wp2_with fail
         have hgt := N.out.gt
         refine (rR_word.calls k g b a1 d1 e1 B1 ⟨#[110, 117, 108, 108]⟩ 0 t0 t1 t2 t3 a2 d2 e2 B2 w0 _ N.out.i N.out.bl H.out).mono ?_
         rintro en w3 ⟨v2, v3, rfl, hR2, hR3, hi, hb, hk⟩
         obtain ⟨A2, n2, q2, rfl⟩ : ∃ A n c, v2 = .slice A n c := by
          obtain ⟨A, c, e⟩ := Kd.R_slice hR2
          exact ⟨_, _, _, e⟩
         obtain ⟨A3, n3, q3, rfl⟩ : ∃ A n c, v3 = .slice A n c := by
          obtain ⟨A, c, e⟩ := Kd.R_slice hR3
          exact ⟨_, _, _, e⟩
         replace hR2 := Kd.R_lower hR2 hgt
         replace hR3 := Kd.R_lower hR3 hgt
         clear hgt
         have Nn := Aside0.mk (N.out.call hi hb hk)
         clear N x1 x3 hz0 hz1 hz2 hz3 hzf0 hzf1 hzf2 hzf3 hi hb hk
         have N := Nn
         clear Nn
         obtain ⟨A, z, _, x1, x3, _, _, _⟩ := N.out.cells
         obtain ⟨hz0, hz1, hz2, hz3, hzf0, hzf1, hzf2, hzf3⟩ := N.out.z
         clear H
         go_wp2_with fail
         have F := N.out.out (t0) (t1) (t2) (t3) (hR2) (hR3) _ rfl
         clear N x1 x3 hz0 hz1 hz2 hz3 hzf0 hzf1 hzf2 hzf3
         generalize World.setCell _ _ _ = wf at F ⊢
         obtain ⟨FP, c0, c1, c2, c3⟩ := F
         exact bodyPost_ret (v := .agg #[.int .i64 (t0), .string (t1), .slice A2 n2 q2, .slice A3 n3 q3]) (by simp [results, Tryd.results45, go_sem, c0, c1, c2, c3]) rfl FP
        ·have h := H.out
         clear H
         rw [if_neg (by rw [q]; decide)] at h
         have H := Aside0.mk h
         clear h
         have h := H.out
         clear H
         obtain ⟨⟨t0, t1, t2, t3, a2, d2, e2, B2⟩, hw, h⟩ := Option.map_eq_some_iff.mp h
         obtain rfl := h
         have H := Aside0.mk hw
         clear hw
         go_wp2_with fail
         refine (number_calls k g b a1 d1 e1 B1 _ w0 _ N.out.i N.out.bl N.out.i.lt H.out).mono ?_
         rintro en w3 ⟨rfl, h2, h3, hi, hb, hk⟩
         obtain rfl : t2 = [] := h2
         obtain rfl : t3 = [] := h3
         have Nn := Aside0.mk (N.out.call hi hb hk)
         clear N x1 x3 hz0 hz1 hz2 hz3 hzf0 hzf1 hzf2 hzf3 hi hb hk
         have N := Nn
         clear Nn
         obtain ⟨A, z, _, x1, x3, _, _, _⟩ := N.out.cells
         obtain ⟨hz0, hz1, hz2, hz3, hzf0, hzf1, hzf2, hzf3⟩ := N.out.z
         clear H
         go_wp2_with fail
         have F := N.out.out (t0) (t1) ([]) ([]) (Kd.R_nil _ _ _ _ _) (Kd.R_nil _ _ _ _ _) _ rfl
         clear N x1 x3 hz0 hz1 hz2 hz3 hzf0 hzf1 hzf2 hzf3
         generalize World.setCell _ _ _ = wf at F ⊢
         obtain ⟨FP, c0, c1, c2, c3⟩ := F
         exact bodyPost_ret (v := .agg #[.int .i64 (t0), .string (t1), .slice none 0 0, .slice none 0 0]) (by simp [results, Tryd.results45, go_sem, c0, c1, c2, c3]) rfl FP
end Go.Proofs.YteighppcdpaekaaDoor.Rf
end
section
namespace Go.Proofs.YteighppcdpaekaaDoor.Rf
open Go.RowKit Go.Proofs.YteighppcdpaekaaDoorW.PrintWords Go.Proofs.YteighppcdpaekaaDoorW.PrintLast Go.Proofs.YteighppcdpaekaaDoorW.PrintMore Go.Proofs.YteighppcdpaekaaDoor Go.Proofs.YteighppcdpaekaaDoor.P
def parseF (k : Nat) (b : List Int) : Option (S44 × Int × Int) :=
 (r3_Valid.f k b).bind fun t => if (t.2 != 0) = true then some (⟨0, ⟨#[]⟩, [], []⟩, t.1, 10) else
  (rR_blank.f k b 0 0 0 0).bind fun s => (valF b k s.1 s.2.1 s.2.2.1 s.2.2.2).bind fun v =>
   (rR_blank.f k b v.2.1 v.2.2.1 v.2.2.2.1 v.2.2.2.2).bind fun u =>
    (if (u.2.2.1 == 0 && decide (u.1 < b.length)) = true then rR_fail.f b u.1 u.2.1 u.2.2.1 u.2.2.2 12 u.1 else some u).bind fun z =>
     if (z.2.2.1 != 0) = true then some (⟨0, ⟨#[]⟩, [], []⟩, z.2.2.2, z.2.2.1) else some (v.1, 0, 0)
structure PT (w : World) (g : Nat) (b : List Int) (W : World) (a d e B : Int) : Prop where
 i : IsS96 w W g b a d e B
 bl : Below w.heap.size w W
 zb : W.heap[w.heap.size]? = some (.cells #[.int .i64 0, .string ⟨#[]⟩, .slice none 0 0, .slice none 0 0] 44 (0, 0))
 lt : w.heap.size < g
section
variable {w : World} {g : Nat} {b : List Int} {W W' : World} {a d e B a' d' e' B' : Int}
theorem PT.step (h : PT w g b W a d e B) (hi : IsS96 w W' g b a' d' e' B') (hb : Below w.heap.size w W') (hk : KeepBut W W' g none) : PT w g b W' a' d' e' B' :=
 ⟨hi, hb, hk.blk h.zb (Nat.ne_of_lt h.lt) (by simp), h.lt⟩
theorem PT.alloc (h : PT w g b W a d e B) (x : Obj) : PT w g b (W.alloc x) a d e B := h.step (h.i.alloc x) (bal h.bl x) (kal (KeepBut.refl _ _ _) x)
theorem PT.drew (h : PT w g b W a d e B) : PT w g b W.drew a d e B := h.step h.i.drew (bdr1 h.bl) (keep_drew (KeepBut.refl _ _ _))
theorem PT.cells (h : PT w g b W a d e B) : (W.cell? ⟨w.heap.size, 0, none⟩ = some (.int .i64 0) ∧ W.cell? ⟨w.heap.size, 1, none⟩ = some (.string ⟨#[]⟩) ∧ W.cell? ⟨w.heap.size, 2, none⟩ = some (.slice none 0 0) ∧ W.cell? ⟨w.heap.size, 3, none⟩ = some (.slice none 0 0)) ∧
  (W.frozen? ⟨w.heap.size, 0, none⟩ = false ∧ W.frozen? ⟨w.heap.size, 1, none⟩ = false ∧ W.frozen? ⟨w.heap.size, 2, none⟩ = false ∧ W.frozen? ⟨w.heap.size, 3, none⟩ = false) ∧
  W.cell? ⟨g, 1, none⟩ = some (.int .i64 a) ∧ W.cell? ⟨g, 3, none⟩ = some (.int .i64 e) ∧ W.cell? ⟨g, 4, none⟩ = some (.int .i64 B) := by
 obtain ⟨A, c, HG, hg, HC⟩ := h.i
 exact ⟨Rd.blk4 h.zb, ⟨bfz h.zb 0, bfz h.zb 1, bfz h.zb 2, bfz h.zb 3⟩, cellS96_1 HG, cellS96_3 HG, cellS96_4 HG⟩
theorem XS.keep {base top nx : Nat} {t0 : Int} {t1 : ByteArray} {v2 v3 : Value} {t2 : List ByteArray} {t3 : List S44} (h : XS W base top nx t0 t1 v2 v3 t2 t3) (hk : KeepBut W W' g none) (hg : g < base) : XS W' base top nx t0 t1 v2 v3 t2 t3 := by
 have := h.le
 exact ⟨hk.blk h.hx (by omega) (by simp), Kd.R_keep h.r2 hk (fun k hk => by omega), Kd.R_keep h.r3 hk (fun k hk => by omega), h.le⟩
end
theorem fin4 {w W : World} (hz : W.heap[w.heap.size]? = some (.cells #[.int .i64 0, .string ⟨#[]⟩, .slice none 0 0, .slice none 0 0] 44 (0, 0))) (hb : Below w.heap.size w W) (v0 v1 v2 v3 : Value) : ∀ W', (((W.setCell ⟨w.heap.size, 0, none⟩ v0).setCell ⟨w.heap.size, 1, none⟩ v1).setCell ⟨w.heap.size, 2, none⟩ v2).setCell ⟨w.heap.size, 3, none⟩ v3 = W' →
  Below w.heap.size w W' ∧ W'.cell? ⟨w.heap.size, 0, none⟩ = some v0 ∧ W'.cell? ⟨w.heap.size, 1, none⟩ = some v1 ∧ W'.cell? ⟨w.heap.size, 2, none⟩ = some v2 ∧ W'.cell? ⟨w.heap.size, 3, none⟩ = some v3 := by
 rintro _ rfl
 have hB := blk_set (blk_set (blk_set (blk_set hz 0 v0) 1 v1) 2 v2) 3 v3
 exact ⟨below_set (below_set (below_set (below_set hb (Nat.le_refl _)) (Nat.le_refl _)) (Nat.le_refl _)) (Nat.le_refl _), (blk_cell hB 0).trans rfl, (blk_cell hB 1).trans rfl, (blk_cell hB 2).trans rfl, (blk_cell hB 3).trans rfl⟩
def PPost (w : World) (r : S44 × Int × Int) (en : Ending) (w' : World) : Prop :=
 ∃ v2 v3 : Value, en = .returned (.tuple #[.agg #[.int .i64 r.1.f0, .string r.1.f1, v2, v3], .int .i64 r.2.1, .int .i64 r.2.2]) ∧ Kd.string.R 9 w' w.heap.size (fun _ => True) v2 r.1.f2 ∧ k44.R 44 w' w.heap.size (fun _ => True) v3 r.1.f3 ∧ Below w.heap.size w w'
set_option maxRecDepth 100000 in
set_option maxHeartbeats 3200000 in
theorem parse_calls (k : Nat) (A : Option Addr) (c : Nat) (b : List Int) (r : S44 × Int × Int) (w : World) (hr : Kd.C (Kd.int .u8) w A b.length b) (hc : b.length ≤ c) (h : parseF k b = some r) :
  Calls Tryd.prog 19 #[.slice A b.length c] w (PPost w r) := by
 obtain ⟨⟨va, ve⟩, hv, h⟩ := Option.bind_eq_some_iff.mp h
 have H := Aside0.mk h
 have HV := Aside0.mk hv
 have HR := Aside0.mk hr
 have hc' := Aside0.mk hc
 clear h hv hr hc
 go_enter Tryd.func19, Tryd.ntmps19
 have HB := Aside0.mk (bal (Below.refl w.heap.size w) Z44)
 go_wp2_with fail
 refine (r3_Valid.calls k A c b va ve _ (Kd.C_below HR.out (bal (Below.refl _ _) _)) hc'.out HV.out).mono ?_
 rintro en w3 ⟨rfl, hb3⟩
 have hz3 : w3.heap[w.heap.size]? = some (.cells #[.int .i64 0, .string ⟨#[]⟩, .slice none 0 0, .slice none 0 0] 44 (0, 0)) := blk_below (blk_new w (.cells #[.int .i64 0, .string ⟨#[]⟩, .slice none 0 0, .slice none 0 0] 44 (0, 0))) hb3
 have hB3 : Below w.heap.size w w3 := below_weaken HB.out (by simp) hb3
 have hZ3 := Aside0.mk hz3
 have HB3 := Aside0.mk hB3
 clear HB HV hb3 hz3 hB3
 rcases Bool.eq_false_or_eq_true (ve != 0) with q | q
 ·have h := H.out
  clear H
  rw [if_pos q] at h
  obtain rfl := Option.some.inj h
  clear h
  obtain ⟨z0, z1, z2, z3⟩ := Rd.blk4 hZ3.out
  have f0 := bfz hZ3.out 0
  have f1 := bfz hZ3.out 1
  have f2 := bfz hZ3.out 2
  have f3 := bfz hZ3.out 3
  go_wp2_with fail
  have F := fin4 hZ3.out HB3.out (.int .i64 0) (.string ⟨#[]⟩) (.slice none 0 0) (.slice none 0 0) _ rfl
  clear hZ3 HB3 z0 z1 z2 z3 f0 f1 f2 f3
  generalize World.setCell _ _ _ = wf at F ⊢
  obtain ⟨fb, c0, c1, c2, c3⟩ := F
  refine bodyPost_ret (v := .tuple #[.agg #[.int .i64 0, .string ⟨#[]⟩, .slice none 0 0, .slice none 0 0], .int .i64 va, .int .i64 10]) (by simp [results, Tryd.results19, go_sem, c0, c1, c2, c3]) rfl ?_
  exact ⟨_, _, rfl, Kd.R_nil _ _ _ _ _, Kd.R_nil _ _ _ _ _, fb⟩
 ·have h := H.out
  clear H
  rw [if_neg (by rw [q]; decide)] at h
  obtain ⟨⟨a1, d1, e1, B1⟩, hbl, h⟩ := Option.bind_eq_some_iff.mp h
  obtain ⟨⟨⟨t0, t1, t2, t3⟩, a2, d2, e2, B2⟩, hvl, h⟩ := Option.bind_eq_some_iff.mp h
  obtain ⟨⟨a3, d3, e3, B3⟩, hbl2, h⟩ := Option.bind_eq_some_iff.mp h
  obtain ⟨⟨a4, d4, e4, B4⟩, hfl, h⟩ := Option.bind_eq_some_iff.mp h
  have H := Aside0.mk h
  have P1 := Aside0.mk hbl
  have P2 := Aside0.mk hvl
  have P3 := Aside0.mk hbl2
  have P4 := Aside0.mk hfl
  clear h hbl hvl hbl2 hfl
  have hlt3 := blk_lt hZ3.out
  have N := Aside0.mk (show PT w w3.heap.size b (w3.alloc (.cells #[.slice A b.length c, .int .i64 0, .int .i64 0, .int .i64 0, .int .i64 0] 96 (0, 0))) 0 0 0 0 from ⟨IsS96.new w w3 A c b 0 0 0 0 HB3.out HR.out hc'.out, bal HB3.out _, blk_grown hZ3.out (World.grownBy_alloc _ _ none) (by simp), hlt3⟩)
  clear hlt3
  go_wp2_with fail
  refine (rR_blank.calls k w3.heap.size b 0 0 0 0 a1 d1 e1 B1 w _ N.out.i N.out.bl P1.out).mono ?_
  rintro en w4 ⟨rfl, hi, hb, hk⟩
  have Nn := Aside0.mk (N.out.step hi hb hk)
  clear N hi hb hk P1
  have N := Nn
  clear Nn
  go_wp2_with fail
  refine (value_calls b k w3.heap.size a1 d1 e1 B1 _ w _ N.out.i N.out.bl P2.out).mono ?_
  rintro en w5 ⟨v2, v3, rfl, hR2, hR3, hi, hb, hk⟩
  obtain ⟨A2, n2, q2, rfl⟩ : ∃ A n c, v2 = .slice A n c := by
   obtain ⟨A, c, e⟩ := Kd.R_slice hR2
   exact ⟨_, _, _, e⟩
  obtain ⟨A3, n3, q3, rfl⟩ : ∃ A n c, v3 = .slice A n c := by
   obtain ⟨A, c, e⟩ := Kd.R_slice hR3
   exact ⟨_, _, _, e⟩
  have hg4 := Aside0.mk N.out.i.lt
  have X0 := Aside0.mk (XS.mk' (t0 := t0) (t1 := t1) hR2 hR3 hk.1)
  have Nn := Aside0.mk ((N.out.step hi hb hk).alloc (.cells #[.int .i64 t0, .string t1, .slice A2 n2 q2, .slice A3 n3 q3] 44 (0, 0)))
  clear N hi hb hk P2 hR2 hR3
  have N := Nn
  clear Nn
  go_upto_region 7 with fail
  generalize w5.alloc (.cells #[.int .i64 t0, .string t1, .slice A2 n2 q2, .slice A3 n3 q3] 44 (0, 0)) = w6 at N X0 ⊢
  go_wp2_with fail
  refine (rR_blank.calls k w3.heap.size b a2 d2 e2 B2 a3 d3 e3 B3 w _ N.out.i N.out.bl P3.out).mono ?_
  rintro en w7 ⟨rfl, hi, hb, hk⟩
  have Nn := Aside0.mk (N.out.step hi hb hk)
  have Xn := Aside0.mk (X0.out.keep hk hg4.out)
  clear N hi hb hk P3 X0
  have N := Nn
  have X := Xn
  clear Nn Xn
  obtain ⟨⟨z0, z1, z2, z3⟩, ⟨f0, f1, f2, f3⟩, c1, c3, c4⟩ := N.out.cells
  go_upto_region 8 with fail
  go_cut [40] (fun sv wc => sv = .bool (e3 == 0 && decide (a3 < (b.length : Int))) ∧ wc = w7)
  case first =>
   rcases Bool.eq_false_or_eq_true (e3 == 0) with q1 | q1
   ·by_cases q2 : a3 < (b.length : Int)
    ·go_wp2_with fail
     go_meet
     exact ⟨by simp [q1, q2], rfl⟩
    ·go_wp2_with fail
     go_meet
     exact ⟨by simp [q1, q2], rfl⟩
   ·go_wp2_with fail
    go_meet
    exact ⟨by simp [q1], rfl⟩
  case rest =>
   obtain ⟨rfl, rfl⟩ := hcut
   go_upto_if 40 with fail
   go_cut [] (fun wc => PT w w3.heap.size b wc a4 d4 e4 B4 ∧ XS wc w4.heap.size w5.heap.size w5.heap.size t0 t1 (.slice A2 n2 q2) (.slice A3 n3 q3) t2 t3)
   case first =>
    have h4 := P4.out
    clear P4
    rcases Bool.eq_false_or_eq_true (e3 == 0 && decide (a3 < (b.length : Int))) with q1 | q1
    ·rw [if_pos q1] at h4
     rw [q1]
     have P4 := Aside0.mk h4
     clear h4
     go_wp2_with fail
     refine (rR_fail.calls w3.heap.size b a3 d3 e3 B3 12 a3 a4 d4 e4 B4 w _ N.out.i N.out.bl P4.out).mono ?_
     rintro en w8 ⟨rfl, hi, hb, hk⟩
     have Nn := Aside0.mk (N.out.step hi hb hk)
     have Xn := Aside0.mk (X.out.keep hk hg4.out)
     clear hi hb hk N X
     go_wp2_with fail
     go_meet
     exact ⟨Nn.out, Xn.out⟩
    ·rw [if_neg (by rw [q1]; decide)] at h4
     obtain ⟨rfl, rfl, rfl, rfl⟩ : a3 = a4 ∧ d3 = d4 ∧ e3 = e4 ∧ B3 = B4 := by simpa using h4
     clear h4
     rw [q1]
     go_wp2_with fail
     go_meet
     exact ⟨N.out, X.out⟩
   case rest =>
    clear N X P4 z0 z1 z2 z3 f0 f1 f2 f3 c1 c3 c4
    obtain ⟨Nn, Xn⟩ := hcut
    have N := Aside0.mk Nn
    have X := Aside0.mk Xn
    clear Nn Xn
    obtain ⟨⟨z0, z1, z2, z3⟩, ⟨f0, f1, f2, f3⟩, c1, c3, c4⟩ := N.out.cells
    obtain ⟨x0, x1, x2, x3⟩ := Rd.blk4 X.out.hx
    have hx := Aside0.mk (Nat.lt_of_lt_of_le N.out.lt (Nat.le_of_lt hg4.out))
    rcases Bool.eq_false_or_eq_true (e4 != 0) with q1 | q1
    ·have h := H.out
     clear H
     rw [if_pos q1] at h
     obtain rfl := Option.some.inj h
     clear h
     have hne : w3.heap.size ≠ w.heap.size := Nat.ne_of_gt N.out.lt
     have F := Aside0.mk (fin4 N.out.zb N.out.bl (.int .i64 0) (.string ⟨#[]⟩) (.slice none 0 0) (.slice none 0 0) _ rfl)
     clear N X x0 x1 x2 x3
     go_upto_region 11 with fail
     go_region_with (fail)
     all_goals
      go_wp2
      have F := F.out
      clear z0 z1 z2 z3 f0 f1 f2 f3 c1 c3 c4
      generalize World.setCell _ _ _ = wf at F ⊢
      obtain ⟨fb, c0, c1, c2, c3⟩ := F
      have c0 : wf.drew.cell? ⟨w.heap.size, 0, none⟩ = _ := c0
      have c1 : wf.drew.cell? ⟨w.heap.size, 1, none⟩ = _ := c1
      have c2 : wf.drew.cell? ⟨w.heap.size, 2, none⟩ = _ := c2
      have c3 : wf.drew.cell? ⟨w.heap.size, 3, none⟩ = _ := c3
      refine bodyPost_ret (v := .tuple #[.agg #[.int .i64 0, .string ⟨#[]⟩, .slice none 0 0, .slice none 0 0], .int .i64 B4, .int .i64 e4]) (by simp [results, Tryd.results19, go_sem, Act.put, c0, c1, c2, c3]) rfl ?_
      exact ⟨_, _, rfl, Kd.R_nil _ _ _ _ _, Kd.R_nil _ _ _ _ _, bdr1 fb⟩
    ·have h := H.out
     clear H
     rw [if_neg (by rw [q1]; decide)] at h
     obtain rfl := Option.some.inj h
     clear h
     go_wp2_with fail
     have F := fin4 N.out.zb N.out.bl (.int .i64 t0) (.string t1) (.slice A2 n2 q2) (.slice A3 n3 q3) _ rfl
     have Y := Aside0.mk ((((X.out.set ⟨w.heap.size, 0, none⟩ hx.out (.int .i64 t0)).set ⟨w.heap.size, 1, none⟩ hx.out (.string t1)).set ⟨w.heap.size, 2, none⟩ hx.out (.slice A2 n2 q2)).set ⟨w.heap.size, 3, none⟩ hx.out (.slice A3 n3 q3))
     clear N X z0 z1 z2 z3 f0 f1 f2 f3 c1 c3 c4 x0 x1 x2 x3
     generalize World.setCell _ _ _ = wf at F Y ⊢
     obtain ⟨fb, c0, c1, c2, c3⟩ := F
     refine bodyPost_ret (v := .tuple #[.agg #[.int .i64 t0, .string t1, .slice A2 n2 q2, .slice A3 n3 q3], .int .i64 0, .int .i64 0]) (by simp [results, Tryd.results19, go_sem, c0, c1, c2, c3]) rfl ?_
     have hle := Nat.le_of_lt hx.out
     exact ⟨_, _, rfl, Kd.R_lower (Kd.R_mono Y.out.r2 (fun _ _ => trivial)) hle, Kd.R_lower (Kd.R_mono Y.out.r3 (fun _ _ => trivial)) hle, fb⟩
end Go.Proofs.YteighppcdpaekaaDoor.Rf
end
section
namespace Go.Proofs.YteighppcdpaekaaDoor.P
open Go.RowKit Go.Proofs.YteighppcdpaekaaDoorW.PrintWords Go.Proofs.YteighppcdpaekaaDoorW.PrintLast Go.Proofs.YteighppcdpaekaaDoorW.PrintMore
def eqT (a : Int) (s : ByteArray) (b : Int) (t : ByteArray) : Option Bool := if b = 4 then some (a == 4 && s.toList == t.toList) else none
set_option maxRecDepth 100000 in
set_option maxHeartbeats 3200000 in
theorem eqT_calls (a : Int) (s : ByteArray) (v2 v3 : Value) (b : Int) (t : ByteArray) (v4 v5 : Value) (r : Bool) (w : World) (h : eqT a s b t = some r) :
  Calls Tryd.prog 12 #[.agg #[.int .i64 a, .string s, v2, v3], .agg #[.int .i64 b, .string t, v4, v5]] w fun e w' => e = .returned (.bool r) ∧ Below w.heap.size w w' := by
 obtain rfl : b = 4 := by
  unfold eqT at h
  split at h
  ·assumption
  ·cases h
 unfold eqT at h
 rw [if_pos rfl] at h
 obtain rfl := Option.some.inj h
 clear h
 have hb := bal (bal (Below.refl w.heap.size w) (.cells #[.int .i64 a, .string s, v2, v3] 27 (0, 0))) (.cells #[.int .i64 4, .string t, v4, v5] 27 (0, 0))
 have B0 := blk_grown (blk_new w (.cells #[.int .i64 a, .string s, v2, v3] 27 (0, 0))) (World.grownBy_alloc _ (.cells #[.int .i64 4, .string t, v4, v5] 27 (0, 0)) none) (by simp)
 have B1 := blk_new (w.alloc (.cells #[.int .i64 a, .string s, v2, v3] 27 (0, 0))) (.cells #[.int .i64 4, .string t, v4, v5] 27 (0, 0))
 simp only [World.size_alloc] at B1
 have c0 := (blk_cell B0 0).trans rfl
 have c1 := (blk_cell B0 1).trans rfl
 have d0 := (blk_cell B1 0).trans rfl
 have d1 := (blk_cell B1 1).trans rfl
 have hb := Aside0.mk hb
 clear B0 B1
 go_enter Tryd.func12, Tryd.ntmps12
 by_cases ha : a = 4
 ·subst ha
  rcases Bool.eq_false_or_eq_true (s.toList == t.toList) with hs | hs
  ·rw [hs]
   have hs' : s.toList = t.toList := by simpa using hs
   go_wp2_with fail
   go_ret
   exact ⟨rfl, hb.out⟩
  ·rw [hs]
   have hs' : s.toList ≠ t.toList := by simpa using hs
   go_wp2_with fail
   go_ret
   exact ⟨rfl, hb.out⟩
 ·have ha2 : (a == 4) = false := by simpa using ha
  rw [ha2]
  go_wp2_with fail
  go_ret
  exact ⟨rfl, hb.out⟩
end Go.Proofs.YteighppcdpaekaaDoor.P
end
section
namespace Go.Proofs.YteighppcdpaekaaDoor.P
open Go.RowKit Go.Proofs.YteighppcdpaekaaDoorW.PrintWords Go.Proofs.YteighppcdpaekaaDoorW.PrintLast Go.Proofs.YteighppcdpaekaaDoorW.PrintMore
attribute [local go_sem] max2_int min2_int max_two min_two max_three min_three max_four min_four
set_option linter.unusedVariables false
set_option linter.unusedSimpArgs false
def json_Text.f (a0 : ByteArray) : Option (Int × ByteArray × List ByteArray × (List (S27))) := some (4, a0, ([] : List ByteArray), ([] : List (S27)))
set_option maxHeartbeats 8000000 in
set_option maxRecDepth 100000 in
theorem json_Text.calls (a0 : ByteArray) (r1 : Int) (r2 : ByteArray) (r3 : List ByteArray) (r4 : List (S27)) (w : World) (h : json_Text.f a0 = some (r1, r2, r3, r4)) :
  Calls Tryd.prog 13 #[.string a0] w fun e w' => ∃ v2_ v3_ : Value, e = .returned (.agg #[.int .i64 r1, .string r2, v2_, v3_]) ∧ Kd.R Kd.string 9 w' w.heap.size (fun _ => True) v2_ r3 ∧ Kd.R k27 27 w' w.heap.size (fun k_ => some k_ ≠ (v2_ : Value).ownBlock) v3_ r4 ∧ Below w.heap.size w w' := by
 have hu27 := Tryd.underlying27
 have HB := Aside0.mk (Below.refl w.heap.size w)
 have H : (some (4, a0, ([] : List ByteArray), ([] : List (S27)))) = some (r1, r2, r3, r4) := h
 clear h
 simp only [Option.some.injEq, Prod.mk.injEq] at H
 obtain ⟨rfl, rfl, rfl, rfl⟩ := H
 go_enter Tryd.func13, Tryd.ntmps13
 go_wp2_with (first | ((with_reducible refine gate_dst (N := 2) rfl ?_); refine box_event ?hg (N := 2) ?hd (cs := #[.int .i64 0, .string (⟨#[]⟩ : ByteArray), .slice none 0 0, .slice none 0 0]) (t := 27) ?hr ?_; (case hd => rfl); (case hg => rfl); (case hr => first | (go_simp; done) | (go_simp; rfl)); intro gb175 hg w2 hbox hb; have n0_ := Aside0.mk (below_step (by repeat (first | (with_reducible first | exact HB.out | apply bal | apply pbdN | apply bdr1) | exact HB.out)) hb); have n1_ := Aside0.mk (hbox); have n2_ := Aside0.mk ((by rw [hg]; exact (below_size (by repeat (first | (with_reducible first | exact HB.out | apply bal | apply pbdN | apply bdr1) | exact HB.out))) : w.heap.size ≤ gb175)); have n3_ := Aside0.mk ((by rw [hg]; exact (below_size (by repeat (first | (with_reducible first | exact HB.out | apply bal | apply pbdN | apply bdr1) | exact HB.out))) : w.heap.size ≤ gb175)); clear HB; have HB := n0_; have BK175 := n1_; have GW175 := n2_; have GE175 := n3_; clear n0_ n1_ n2_ n3_; clear hb hbox hg; have hcz3_0 : w2.cell? ⟨gb175, 0, none⟩ = some (.int .i64 0) := (blk_cell BK175.out 0).trans rfl; have hcz3_1 : w2.cell? ⟨gb175, 1, none⟩ = some (.string (⟨#[]⟩ : ByteArray)) := (blk_cell BK175.out 1).trans rfl; have hcz3_2 : w2.cell? ⟨gb175, 2, none⟩ = some (.slice none 0 0) := (blk_cell BK175.out 2).trans rfl; have hcz3_3 : w2.cell? ⟨gb175, 3, none⟩ = some (.slice none 0 0) := (blk_cell BK175.out 3).trans rfl; have hfz3_0 := bfz BK175.out 0; have hfz3_1 := bfz BK175.out 1; have hfz3_2 := bfz BK175.out 2; have hfz3_3 := bfz BK175.out 3))
 refine bodyPost_ret (results_cell_row rfl _ _ gb175 27 #[.int .i64 4, .string a0, .slice none 0 0, .slice none 0 0] (0, 0) _ rfl (by (with_reducible repeat (first | refine blk_drewN ?_ _ | refine blk_drew ?_ | refine blk_alloc ?_ _)); refine blk_put (cs := #[.int .i64 4, .string a0, .slice none 0 0, .slice none 0 0]) ?_ 3 _ rfl; (with_reducible repeat (first | refine blk_drewN ?_ _ | refine blk_drew ?_ | refine blk_alloc ?_ _)); refine blk_put (cs := #[.int .i64 4, .string a0, .slice none 0 0, .slice none 0 0]) ?_ 2 _ rfl; (with_reducible repeat (first | refine blk_drewN ?_ _ | refine blk_drew ?_ | refine blk_alloc ?_ _)); refine blk_put (cs := #[.int .i64 4, .string (⟨#[]⟩ : ByteArray), .slice none 0 0, .slice none 0 0]) ?_ 1 _ rfl; (with_reducible repeat (first | refine blk_drewN ?_ _ | refine blk_drew ?_ | refine blk_alloc ?_ _)); refine blk_put (cs := #[.int .i64 0, .string (⟨#[]⟩ : ByteArray), .slice none 0 0, .slice none 0 0]) ?_ 0 _ rfl; (with_reducible repeat (first | refine blk_drewN ?_ _ | refine blk_drew ?_ | refine blk_alloc ?_ _)); exact BK175.out) Tryd.underlying27 rfl (by kernel_rfl)) rfl ?_
 exact ⟨_, _, by first | rfl | (simp [errW_none, errW_some] <;> rfl) | (simp [*, errW_none, errW_some] <;> rfl), by first | exact Kd.R_nil _ _ _ _ _ | exact Kd.N_nil _ _ _ _ _ | exact Kd.V_nil _ _ _ _ _ | exact Kd.Q_nil _ _ _ _ _ | exact Kd.S_nil _ _ _ _ _, by first | exact Kd.R_nil _ _ _ _ _ | exact Kd.N_nil _ _ _ _ _ | exact Kd.V_nil _ _ _ _ _ | exact Kd.Q_nil _ _ _ _ _ | exact Kd.S_nil _ _ _ _ _, by repeat (first | (with_reducible first | exact HB.out | apply bal | apply pbdN | apply bdr1 | refine below_set ?_ GE175.out) | exact HB.out)⟩
end Go.Proofs.YteighppcdpaekaaDoor.P
end
section
namespace Go.Proofs.YteighppcdpaekaaDoor.P
open Go.RowKit Go.Proofs.YteighppcdpaekaaDoorW.PrintWords Go.Proofs.YteighppcdpaekaaDoorW.PrintLast Go.Proofs.YteighppcdpaekaaDoorW.PrintMore
attribute [local go_sem] max2_int min2_int max_two min_two max_three min_three max_four min_four
set_option linter.unusedVariables false
set_option linter.unusedSimpArgs false
def rpc_isID.f (a0_0 : Int) (a0_1 : ByteArray) (l0_2 : List ByteArray) (l0_3 : List (S27)) : Option (Bool) := if a0_0 = 3 then ((json_Int.f a0_0 a0_1 l0_2 l0_3).bind fun bt335 => (some bt335.2)) else (some (a0_0 == 4))
set_option maxHeartbeats 8000000 in
set_option maxRecDepth 100000 in
theorem rpc_isID.calls (a0_0 : Int) (a0_1 : ByteArray) (A0_2 : Option Addr) (c0_2 : Nat) (l0_2 : List ByteArray) (A0_3 : Option Addr) (c0_3 : Nat) (l0_3 : List (S27)) (r : Bool) (w : World) (hr0_2 : Kd.C Kd.string w A0_2 l0_2.length l0_2) (hc0_2 : l0_2.length ≤ c0_2) (hr0_3 : Kd.C k27 w A0_3 l0_3.length l0_3) (hc0_3 : l0_3.length ≤ c0_3) (h : rpc_isID.f a0_0 a0_1 l0_2 l0_3 = some r) (hT : TabOk w) :
  Calls Tryd.prog 42 #[.agg #[.int .i64 a0_0, .string a0_1, .slice A0_2 l0_2.length c0_2, .slice A0_3 l0_3.length c0_3]] w fun e w' => e = .returned (.bool r) ∧ Below w.heap.size w w' := by
 have hu27 := Tryd.underlying27
 have HR0_2 := Aside0.mk hr0_2
 have HC0_2 := Aside0.mk hc0_2
 clear hr0_2 hc0_2
 have HR0_3 := Aside0.mk hr0_3
 have HC0_3 := Aside0.mk hc0_3
 clear hr0_3 hc0_3
 have HB := Aside0.mk (Below.refl w.heap.size w)
 have H : (if a0_0 = 3 then ((json_Int.f a0_0 a0_1 l0_2 l0_3).bind fun bt335 => (some bt335.2)) else (some (a0_0 == 4))) = some r := h
 clear h
 by_cases c2 : a0_0 = 3
 ·rw [if_pos c2] at H
  have c2b0 : (a0_0 == 3) = true := beq_iff_eq.mpr c2
  have c2b1 : (a0_0 != 3) = false := bne_eq_false_iff_eq.mpr c2
  clear c2
  replace H := Option.bind_eq_some_iff.mp H
  obtain ⟨⟨t335, t336⟩, A30, H⟩ := H
  replace H : (some t336) = some r := H
  have A3 := Aside0.mk A30
  clear A30
  obtain rfl := Option.some.inj H
  go_enter Tryd.func42, Tryd.ntmps42
  go_wp2_with (first | ((with_reducible refine gate_dst (N := 1) rfl ?_); refine box_event ?hg (N := 1) ?hd (cs := #[.int .i64 a0_0, .string a0_1, .slice A0_2 l0_2.length c0_2, .slice A0_3 l0_3.length c0_3]) (t := 27) ?hr ?_; (case hd => rfl); (case hg => rfl); (case hr => first | (go_simp; done) | (go_simp; rfl)); intro gb334 hg w4 hbox hb; have n0_ := Aside0.mk (below_step (by repeat (first | (with_reducible first | exact HB.out | apply bal | apply pbdN | apply bdr1) | exact HB.out)) hb); have n1_ := Aside0.mk (hbox); have n2_ := Aside0.mk ((by rw [hg]; exact (below_size (by repeat (first | (with_reducible first | exact HB.out | apply bal | apply pbdN | apply bdr1) | exact HB.out))) : w.heap.size ≤ gb334)); have n3_ := Aside0.mk ((by rw [hg]; exact (below_size (by repeat (first | (with_reducible first | exact HB.out | apply bal | apply pbdN | apply bdr1) | exact HB.out))) : w.heap.size ≤ gb334)); clear HB; have HB := n0_; have BK334 := n1_; have GW334 := n2_; have GE334 := n3_; clear n0_ n1_ n2_ n3_; clear hb hbox hg; have hcz5_0 : w4.cell? ⟨gb334, 0, none⟩ = some (.int .i64 a0_0) := (blk_cell BK334.out 0).trans rfl; have hcz5_1 : w4.cell? ⟨gb334, 1, none⟩ = some (.string a0_1) := (blk_cell BK334.out 1).trans rfl; have hcz5_2 : w4.cell? ⟨gb334, 2, none⟩ = some (.slice A0_2 l0_2.length c0_2) := (blk_cell BK334.out 2).trans rfl; have hcz5_3 : w4.cell? ⟨gb334, 3, none⟩ = some (.slice A0_3 l0_3.length c0_3) := (blk_cell BK334.out 3).trans rfl; have hfz5_0 := bfz BK334.out 0; have hfz5_1 := bfz BK334.out 1; have hfz5_2 := bfz BK334.out 2; have hfz5_3 := bfz BK334.out 3) | ((with_reducible refine gate_callee (f := 29) rfl ?_); refine goesL_ (some 10) rfl rfl Tryd.func29 (by kernel_rfl) rfl #[.agg #[.int .i64 a0_0, .string a0_1, .slice A0_2 l0_2.length c0_2, .slice A0_3 l0_3.length c0_3]] rfl (by (try simp only [List.map_toArray, List.map_cons, List.map_nil]); first | done | rfl | (simp only [List.length_drop, List.length_take]; rfl)) ?_; (with_reducible refine (json_Int.calls a0_0 a0_1 _ _ l0_2 _ _ l0_3 t335 t336 _ ?side1 ?side2 ?side3 ?side4 A3.out ?sideT).mono ?_); (case sideT => exact hT.below (by repeat (first | (with_reducible first | exact HB.out | apply bal | apply pbdN | apply bdr1 | refine below_set ?_ GE334.out) | exact HB.out))); (case side1 => repeat (first | exact (Kd.C_below HR0_2.out HB.out) | (with_reducible refine Kd.C_alloc ?_ _) | (with_reducible refine Kd.C_drewN ?_ _) | (with_reducible refine Kd.C_drew ?_))); (case side2 => exact HC0_2.out); (case side3 => repeat (first | exact (Kd.C_below HR0_3.out HB.out) | (with_reducible refine Kd.C_alloc ?_ _) | (with_reducible refine Kd.C_drewN ?_ _) | (with_reducible refine Kd.C_drew ?_))); (case side4 => exact HC0_3.out); rintro e w6 ⟨rfl, hb⟩; refine ⟨_, rfl, ?_⟩; have n0_ := Aside0.mk (blk_below (g := gb334) (o := .cells #[.int .i64 a0_0, .string a0_1, .slice A0_2 l0_2.length c0_2, .slice A0_3 l0_3.length c0_3] 27 (0, 0)) (by (with_reducible repeat (first | refine blk_drewN ?_ _ | refine blk_drew ?_ | refine blk_alloc ?_ _)); exact BK334.out) hb); have n1_ := Aside0.mk (below_step (by repeat (first | (with_reducible first | exact HB.out | apply bal | apply pbdN | apply bdr1 | refine below_set ?_ GE334.out) | exact HB.out)) hb); clear BK334; clear HB; have BK334 := n0_; have HB := n1_; clear n0_ n1_; (try clear hb); (try clear hb2); (try clear hk); (try clear hi)))
  go_ret
  exact ⟨by first | rfl | (simp [errW_none, errW_some] <;> rfl) | (simp [*, errW_none, errW_some] <;> rfl), by repeat (first | (with_reducible first | exact HB.out | apply bal | apply pbdN | apply bdr1 | refine below_set ?_ GE334.out) | exact HB.out)⟩
 ·rw [if_neg c2] at H
  have c2b0 : (a0_0 == 3) = false := beq_eq_false_iff_ne.mpr c2
  have c2b1 : (a0_0 != 3) = true := bne_iff_ne.mpr c2
  obtain rfl := Option.some.inj H
  go_enter Tryd.func42, Tryd.ntmps42
  go_wp2_with (first | ((with_reducible refine gate_dst (N := 1) rfl ?_); refine box_event ?hg (N := 1) ?hd (cs := #[.int .i64 a0_0, .string a0_1, .slice A0_2 l0_2.length c0_2, .slice A0_3 l0_3.length c0_3]) (t := 27) ?hr ?_; (case hd => rfl); (case hg => rfl); (case hr => first | (go_simp; done) | (go_simp; rfl)); intro gb334 hg w7 hbox hb; have n0_ := Aside0.mk (below_step (by repeat (first | (with_reducible first | exact HB.out | apply bal | apply pbdN | apply bdr1) | exact HB.out)) hb); have n1_ := Aside0.mk (hbox); have n2_ := Aside0.mk ((by rw [hg]; exact (below_size (by repeat (first | (with_reducible first | exact HB.out | apply bal | apply pbdN | apply bdr1) | exact HB.out))) : w.heap.size ≤ gb334)); have n3_ := Aside0.mk ((by rw [hg]; exact (below_size (by repeat (first | (with_reducible first | exact HB.out | apply bal | apply pbdN | apply bdr1) | exact HB.out))) : w.heap.size ≤ gb334)); clear HB; have HB := n0_; have BK334 := n1_; have GW334 := n2_; have GE334 := n3_; clear n0_ n1_ n2_ n3_; clear hb hbox hg; have hcz8_0 : w7.cell? ⟨gb334, 0, none⟩ = some (.int .i64 a0_0) := (blk_cell BK334.out 0).trans rfl; have hcz8_1 : w7.cell? ⟨gb334, 1, none⟩ = some (.string a0_1) := (blk_cell BK334.out 1).trans rfl; have hcz8_2 : w7.cell? ⟨gb334, 2, none⟩ = some (.slice A0_2 l0_2.length c0_2) := (blk_cell BK334.out 2).trans rfl; have hcz8_3 : w7.cell? ⟨gb334, 3, none⟩ = some (.slice A0_3 l0_3.length c0_3) := (blk_cell BK334.out 3).trans rfl; have hfz8_0 := bfz BK334.out 0; have hfz8_1 := bfz BK334.out 1; have hfz8_2 := bfz BK334.out 2; have hfz8_3 := bfz BK334.out 3))
  go_ret
  exact ⟨by first | rfl | (simp [errW_none, errW_some] <;> rfl) | (simp [*, errW_none, errW_some] <;> rfl), by repeat (first | (with_reducible first | exact HB.out | apply bal | apply pbdN | apply bdr1 | refine below_set ?_ GE334.out) | exact HB.out)⟩
end Go.Proofs.YteighppcdpaekaaDoor.P
end
