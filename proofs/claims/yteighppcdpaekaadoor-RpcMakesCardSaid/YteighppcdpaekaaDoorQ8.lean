/- Walks and words of this session, put together by a program of this session (pack.py). Conditions: as each text says. -/
import Derived.Deep.DeepCutAuto
import Derived.StillTailTactics
import Derived.Deep.RegionWith
import Derived.Test.YteighppcdpaekaaDoorQ2
import Derived.Test.YteighppcdpaekaaDoorQ7
set_option linter.unusedVariables false
set_option linter.unusedSimpArgs false
section
namespace Go.Proofs.YteighppcdpaekaaDoor.Rd
open Go.RowKit Go.Proofs.YteighppcdpaekaaDoorW.PrintWords
open Go.Proofs.YteighppcdpaekaaDoor
theorem enter_ok {w0 : World} {g : Nat} {A : Option Addr} {c : Nat} {b : List Int} {w : World} {p d : Nat} (h : RS w0 g A c b w p d) (hp : p < b.length) (hd : d + 1 ≤ 64) :
  Calls Tryd.prog 97 #[.pointer (some ⟨g, 0, none⟩)] w fun e w' => e = .returned (.tuple #[]) ∧ RS w0 g A c b w' (Js.blank b (p + 1)) (d + 1) ∧ Kbt w w' g none := by
 have hsm := h.small;have h1 := h.c1;have h2 := h.c2;have f1 := h.fr 1;have f2 := h.fr 2;have hl := h.lt;go_enter Tryd.func97, Tryd.ntmps97
 go_wp2_with fail
 refine (blank_calls (p + 1) (RS.to (p := (p : Int) + 1) (d := (d : Int) + 1) (by repeat (first | exact h | apply RS.drewN | apply RS.drew | apply RS.set1 | apply RS.set2)) (by omega) rfl)).mono ?_;rintro e w' ⟨rfl, hS, hK⟩;go_wp2
 go_end0
 exact ⟨rfl, hS, Kbt.trans (by repeat (first | exact (Kbt.refl _ _ _) | apply Kbt.set_ | apply kdrN | apply keep_drew | apply kal)) hK (.inl rfl)⟩
theorem enter_no {w0 : World} {g : Nat} {A : Option Addr} {c : Nat} {b : List Int} {w : World} {p d : Nat} (h : RS w0 g A c b w p d) (hb : d < 1000000) (hd : 64 < d + 1) :
  Calls Tryd.prog 97 #[.pointer (some ⟨g, 0, none⟩)] w fun e w' => e = .panicked [{ v := .iface 115 (.agg #[.int .i64 (p : Int), .int .i64 13]), recovered := false }] ∧ Below w0.heap.size w0 w' ∧ Kbt w w' g none := by
 have h1 := h.c1;have h2 := h.c2;have f2 := h.fr 2;have hl := h.lt;go_enter Tryd.func97, Tryd.ntmps97
 go_wp2_with fail
 refine (fail_calls 13 (p := (p : Int)) (d := (d : Int) + 1) (by repeat (first | exact h | apply RS.drewN | apply RS.drew | apply RS.set1 | apply RS.set2))).mono ?_;rintro e w' ⟨rfl, rfl⟩;exact ⟨rfl, rfl, (RS.bel (by repeat (first | exact h | apply RS.drewN | apply RS.drew | apply RS.set1 | apply RS.set2))), (by repeat (first | exact (Kbt.refl _ _ _) | apply Kbt.set_ | apply kdrN | apply keep_drew | apply kal))⟩
theorem comma_calls {w0 : World} {g : Nat} {A : Option Addr} {c : Nat} {b : List Int} {w : World} {p d : Nat} (cl : Int) (h : RS w0 g A c b w p d) (hd : 1 ≤ d) (hdb : d < 1000000) :
  Calls Tryd.prog 98 #[.pointer (some ⟨g, 0, none⟩), .int .u8 cl] w fun e w' => match Js.comma b cl p with
   | .ok false q => e = .returned (.bool false) ∧ RS w0 g A c b w' q ((d : Int) - 1) ∧ Kbt w w' g none
   | .ok true q => e = .returned (.bool true) ∧ RS w0 g A c b w' q d ∧ Kbt w w' g none
   | .no x k => e = .panicked [{ v := .iface 115 (.agg #[.int .i64 (x : Int), .int .i64 (k : Int)]), recovered := false }] ∧ Below w0.heap.size w0 w' ∧ Kbt w w' g none := by
 have hsm := h.small
 cases hx : b[Js.blank b p]? with
 | none =>
  have hr : Js.comma b cl p = .no (Js.blank b p) 11 := by simp [Js.comma, hx]
  rw [hr]; clear hr;have hbl := blank_calls p h;generalize Js.blank b p = q at hbl hx ⊢;go_enter Tryd.func98, Tryd.ntmps98;go_wp2_with (go_at_call 58; refine (hbl).mono ?_; rintro e w' ⟨rfl, hS, hK⟩);have hp1 := peek_no hS hx;clear hx hbl;go_wp2_with (go_at_call 74; refine (hp1).mono ?_; rintro e w' ⟨rfl, n, rfl⟩);exact ⟨rfl, rfl, (RS.bel (by repeat (first | exact hS | apply RS.drewN | apply RS.drew | apply RS.set1 | apply RS.set2))), (by repeat (first | exact hK | apply Kbt.set_ | apply kdrN | apply keep_drew | apply kal))⟩
 | some x =>
  by_cases h1 : x = cl
  ·have hr : Js.comma b cl p = .ok false (Js.blank b p + 1) := by simp [Js.comma, hx, h1]
   rw [hr]; clear hr;replace h1 := beq_iff_eq.2 h1;have hbl := blank_calls p h;generalize Js.blank b p = q at hbl hx ⊢;go_enter Tryd.func98, Tryd.ntmps98;go_wp2_with (go_at_call 58; refine (hbl).mono ?_; rintro e w' ⟨rfl, hS, hK⟩);have hp : q < b.length := (List.getElem?_eq_some_iff.1 hx).1;have hp1 := peek_ok hS hx;have g1 := hS.c1;have g2 := hS.c2;have f1 := hS.fr 1;have f2 := hS.fr 2;clear hx hbl;go_wp2_with (go_at_call 74; refine (hp1).mono ?_; rintro e w' ⟨rfl, n, rfl⟩);go_ret;exact ⟨rfl, (RS.to (p := (q : Int) + 1) (d := (d : Int) - 1) (by repeat (first | exact hS | apply RS.drewN | apply RS.drew | apply RS.set1 | apply RS.set2)) (by omega) rfl), (by repeat (first | exact hK | apply Kbt.set_ | apply kdrN | apply keep_drew | apply kal))⟩
  ·by_cases h2 : x = 44
   ·have hr : Js.comma b cl p = .ok true (Js.blank b (Js.blank b p + 1)) := by simp [Js.comma, hx, h1, h2]; intro h3; exact absurd (h2.trans h3) h1
    rw [hr]; clear hr;replace h1 := beq_eq_false_iff_ne.2 h1;replace h2 := beq_iff_eq.2 h2;have hbl := blank_calls p h;generalize Js.blank b p = q at hbl hx ⊢;go_enter Tryd.func98, Tryd.ntmps98;go_wp2_with (go_at_call 58; refine (hbl).mono ?_; rintro e w' ⟨rfl, hS, hK⟩);have hp : q < b.length := (List.getElem?_eq_some_iff.1 hx).1;have hp1 := peek_ok hS hx;have g1 := hS.c1;have f1 := hS.fr 1;clear hx hbl;go_wp2_with (go_at_call 74; refine (hp1).mono ?_; rintro e w' ⟨rfl, n, rfl⟩);refine (blank_calls (q + 1) (RS.to (p := (q : Int) + 1) (d := (d : Int)) (by repeat (first | exact hS | apply RS.drewN | apply RS.drew | apply RS.set1 | apply RS.set2)) (by omega) rfl)).mono ?_;rintro e w' ⟨rfl, hS2, hK2⟩;go_wp2;go_ret;exact ⟨rfl, hS2, Kbt.trans (by repeat (first | exact hK | apply Kbt.set_ | apply kdrN | apply keep_drew | apply kal)) hK2 (.inl rfl)⟩
   ·have hr : Js.comma b cl p = .no (Js.blank b p) 6 := by simp [Js.comma, hx, h1, h2]
    rw [hr]; clear hr;replace h1 := beq_eq_false_iff_ne.2 h1;replace h2 := beq_eq_false_iff_ne.2 h2;have hbl := blank_calls p h;generalize Js.blank b p = q at hbl hx ⊢;go_enter Tryd.func98, Tryd.ntmps98;go_wp2_with (go_at_call 58; refine (hbl).mono ?_; rintro e w' ⟨rfl, hS, hK⟩);have hp : q < b.length := (List.getElem?_eq_some_iff.1 hx).1;have hp1 := peek_ok hS hx;clear hx hbl;go_wp2_with (go_at_call 74; refine (hp1).mono ?_; rintro e w' ⟨rfl, n, rfl⟩);refine (fail_calls 6 (p := (q : Int)) (d := (d : Int)) (by repeat (first | exact hS | apply RS.drewN | apply RS.drew | apply RS.set1 | apply RS.set2))).mono ?_;rintro e w' ⟨rfl, rfl⟩;exact ⟨rfl, rfl, (RS.bel (by repeat (first | exact hS | apply RS.drewN | apply RS.drew | apply RS.set1 | apply RS.set2))), (by repeat (first | exact hK | apply Kbt.set_ | apply kdrN | apply keep_drew | apply kal))⟩
end Go.Proofs.YteighppcdpaekaaDoor.Rd
end
section
namespace Go.Proofs.YteighppcdpaekaaDoor.Rd
open Go.RowKit Go.Proofs.YteighppcdpaekaaDoorW.PrintWords
open Go.Proofs.YteighppcdpaekaaDoor
def numberV (b : List Int) (p : Nat) : Js.Out (List Int) := match Js.number b p with
 | .ok _ q => .ok ((b.take q).drop p) q
 | .no x k => .no x k
def VNum (_ : World) (l : List Int) (u : Value) : Prop := u = .agg #[.int .i64 3, .string (strOfNums l), .slice none 0 0, .slice none 0 0]
def Z25 : Obj := .cells #[.int .i64 0, .string ⟨#[]⟩, .slice none 0 0, .slice none 0 0] 27 (0, 0)
structure St (w0 : World) (g : Nat) (A : Option Addr) (c : Nat) (b : List Int) (w : World) (d : Int) (wc : World) (q : Nat) : Prop where
 rs : RS w0 g A c b wc q d
 kb : Kbt w wc g none
 zb : wc.heap[w.heap.size]? = some Z25
theorem St.drewN {w0 : World} {g : Nat} {A : Option Addr} {c : Nat} {b : List Int} {w : World} {d : Int} {wc : World} {q : Nat} (h : St w0 g A c b w d wc q) (n : Nat) : St w0 g A c b w d (wc.drewN n) q := ⟨h.rs.drewN n, kdrN h.kb n, h.zb⟩
theorem St.step {w0 : World} {g : Nat} {A : Option Addr} {c : Nat} {b : List Int} {w : World} {d : Int} {wc w2 : World} {q r : Nat} (h : St w0 g A c b w d wc q) (hg : g < w.heap.size) (hS : RS w0 g A c b w2 r d) (hK : Kbt wc w2 g none) : St w0 g A c b w d w2 r :=
 ⟨hS, h.kb.trans hK (.inl rfl), (hK.blk h.zb (by omega) (by simp))⟩
theorem St.at1 {w0 : World} {g : Nat} {A : Option Addr} {c : Nat} {b : List Int} {w : World} {d : Int} {wc : World} {q : Nat} (h : St w0 g A c b w d wc q) (hg : g < w.heap.size) : St w0 g A c b w d (wc.setCell ⟨g, 1, none⟩ (.int .i64 ((q : Int) + 1))) (q + 1) :=
 h.step hg ((h.rs.set1 _).to (by omega) rfl) ((Kbt.refl _ _ _).set_ _ _)
theorem info_u8 : (Tryd.prog.info? 5).map (fun i => (i.zero, i.size, i.bytes)) = some (some (.int .u8 0), 1, 1) := by kernel_rfl
theorem cut_runs {b : List Int} {A : Option Addr} {c p q : Nat} (hpq : p ≤ q) (hq : q ≤ b.length) (hc : b.length ≤ c) :
  ∃ A' : Option Addr, (∀ W : World, (Instr.slice 35 (.slice A b.length c) (some (.int .i64 p)) (some (.int .i64 q)) none).run Tryd.prog W = .ok (.slice A' (q - p) (c - p)) W) ∧
   (∀ w : World, Kd.C (Kd.int .u8) w A b.length b → (convert 35 9 (.slice A' (q - p) (c - p))).run Tryd.prog w = .ok (.string (strOfNums ((b.take q).drop p))) w) := by
 obtain ⟨i, hi, hz⟩ := Option.map_eq_some_iff.1 info_u8;obtain ⟨A', h1, h2, h3⟩ := print_mid_int (P := Tryd.prog) (k := .u8) 35 5 Tryd.underlying35 hi (by simp at hz; exact hz.2.1) A c b (p : Int) (q : Int) (by omega) (by omega) (by omega) hc;simp only [Int.toNat_natCast] at h1 h2 h3
 have hl : ((b.take q).drop p).length = q - p := by simp; omega
 rw [hl] at h1 h2;refine ⟨A', h1, fun w hC => ?_⟩;exact string_of_reads Tryd.underlying35 Tryd.underlying5 Tryd.underlying9 (h2 w (Kd.reads_of_C (enc := Value.int .u8) (d := (0 : Int)) (h1 := fun _ => rfl) hC))
set_option maxRecDepth 100000 in
set_option maxHeartbeats 1600000 in
theorem number_calls {w0 : World} {g : Nat} {A : Option Addr} {c : Nat} {b : List Int} {w : World} {d : Int} {p : Nat} (h : RS w0 g A c b w p d) (hp : p ≤ b.length) (hbc : b.length ≤ c) :
  Calls Tryd.prog 79 #[.pointer (some ⟨g, 0, none⟩)] w (Post w0 g A c b w d VNum (numberV b p)) := by
 have hsm := h.small;have hg := h.lt;have h1 := h.c1
 have hSt : St w0 g A c b w d (w.alloc Z25) p := ⟨h.alloc _, kal (Kbt.refl _ _ _) _, blk_new _ _⟩
 have f1 := h.fr 1;have hnx := next_calls (w := w.alloc Z25) (p := p) 45 (h.alloc _);have hn0 : Hid (Js.number b p = Js.numInt b (if Js.next b p 45 then p + 1 else p)) := rfl;go_enter Tryd.func79, Tryd.ntmps79;generalize hbm : Js.next b p 45 = bm at hnx hn0;have hbm' := Lib.hid hbm; clear hbm
 go_upto_if 9 with (go_at_call 100; refine hnx.mono ?_; rintro e w' ⟨rfl, n, rfl⟩)
 clear hnx
 go_cut [] (fun wc => ∃ q, Hid (Js.number b p = Js.numInt b q) ∧ q ≤ b.length ∧ St w0 g A c b w d wc q)
 case first =>
  cases bm
  ·go_wp2_with fail
   go_meet
   case rel => exact ⟨p, hn0, hp, hSt.drewN _⟩
  ·have := Js.next_lt hbm'.out
   go_wp2_with fail
   go_meet
   case rel => exact ⟨p + 1, hn0, by omega, (hSt.drewN _).at1 hg⟩
 case rest =>
  clear hSt hn0 hbm' f1 h1;obtain ⟨q, hq, hqb, hT⟩ := hcut
  cases hx : b[q]? with
  | none =>
   have hr : Hid (numberV b p = .no q 11) := by have := hq.out; show _ = _; simp [numberV, this, Js.numInt, hx]
   have hp1 := peek_no hT.rs hx;clear hx hq;go_wp2_with (go_at_call 74; refine hp1.mono ?_; rintro e w' ⟨rfl, n, rfl⟩);refine ⟨rfl, ?_⟩;rw [hr.out];exact ⟨rfl, (hT.drewN _).rs.bel, (hT.drewN _).kb⟩
  | some x =>
   have hql : q < b.length := (List.getElem?_eq_some_iff.1 hx).1
   have hq1 : Hid (Js.number b p = if x == 48 then Js.numFrac b (q + 1) else match Js.digits b q with | .no x e => .no x e | .ok _ r => Js.numFrac b r) := by have := hq.out; show _ = _; rw [this]; simp only [Js.numInt, hx]; rfl
   have hp1 := peek_ok hT.rs hx;clear hx hq;have h1 := hT.rs.c1;have f1 := hT.rs.fr 1
   go_upto_if 19 with (go_at_call 74; refine hp1.mono ?_; rintro e w' ⟨rfl, n, rfl⟩)
   clear hp1;replace hT := hT.drewN n
   go_cut [] (fun wc => ∃ r, Hid (Js.number b p = Js.numFrac b r) ∧ r ≤ b.length ∧ St w0 g A c b w d wc r)
   case first =>
    by_cases h48 : x = 48
    ·have hn : Hid (Js.number b p = Js.numFrac b (q + 1)) := by have := hq1.out; rw [h48] at this; exact this
     replace h48 := beq_iff_eq.2 h48;clear hq1
     go_wp2_with fail
     go_meet
     case rel => exact ⟨q + 1, hn, by omega, hT.at1 hg⟩
    ·replace h48 := beq_eq_false_iff_ne.2 h48
     cases hd : Js.digits b q with
     | no y k =>
      have hn : Hid (numberV b p = .no y k) := by have := hq1.out; rw [h48, hd] at this; show _ = _; simp [numberV, this]
      have hp2 := digits_no hT.rs hd;clear hq1 hd;go_wp2_with (go_at_call 101; refine hp2.mono ?_; rintro e w' ⟨rfl, hb, hK⟩);refine ⟨rfl, ?_⟩;rw [hn.out];exact ⟨rfl, hb, hT.kb.trans hK (.inl rfl)⟩
     | ok y r =>
      have hn : Hid (Js.number b p = Js.numFrac b r) := by have := hq1.out; rw [h48, hd] at this; exact this
      have hp2 := digits_ok hT.rs hd;have hrl := Js.digits_le hd;clear hq1 hd;go_wp2_with (go_at_call 101; refine hp2.mono ?_; rintro e w' ⟨rfl, hS, hK⟩)
      go_meet
      case rel => exact ⟨r, hn, hrl.2, hT.step hg hS hK⟩
   case rest =>
    clear hq1 hT h1 f1;obtain ⟨q, hq, hqb, hT⟩ := hcut
    have hq1 : Hid (Js.number b p = if Js.next b q 46 then match Js.digits b (q + 1) with | .no x e => .no x e | .ok _ r => Js.numExp b r else Js.numExp b q) := by have := hq.out; show _ = _; rw [this]; rfl
    clear hq;have hnx := next_calls q 46 hT.rs;have h1 := hT.rs.c1;have f1 := hT.rs.fr 1;generalize hbm : Js.next b q 46 = bm at hnx hq1
    have hlt : bm = true → q < b.length := fun e => Js.next_lt (hbm.trans e)
    clear hbm
    go_upto_if 30 with (go_at_call 100; refine hnx.mono ?_; rintro e w' ⟨rfl, n, rfl⟩)
    clear hnx;replace hT := hT.drewN n
    go_cut [] (fun wc => ∃ r, Hid (Js.number b p = Js.numExp b r) ∧ r ≤ b.length ∧ St w0 g A c b w d wc r)
    case first =>
     cases bm
     ·have hn : Hid (Js.number b p = Js.numExp b q) := hq1.out
      clear hq1
      go_wp2_with fail
      go_meet
      case rel => exact ⟨q, hn, hqb, hT⟩
     ·have hql := hlt rfl
      have hTT := hT.at1 hg
      cases hd : Js.digits b (q + 1) with
      | no y k =>
       have hn : Hid (numberV b p = .no y k) := by have := hq1.out; simp only [if_true, hd] at this; show _ = _; simp [numberV, this]
       have hp2 := digits_no hTT.rs hd;clear hq1 hd;go_wp2_with (go_at_call 101; refine hp2.mono ?_; rintro e w' ⟨rfl, hb, hK⟩);refine ⟨rfl, ?_⟩;rw [hn.out];exact ⟨rfl, hb, hTT.kb.trans hK (.inl rfl)⟩
      | ok y r =>
       have hn : Hid (Js.number b p = Js.numExp b r) := by have := hq1.out; simp only [if_true, hd] at this; exact this
       have hp2 := digits_ok hTT.rs hd;have hrl := Js.digits_le hd;clear hq1 hd;go_wp2_with (go_at_call 101; refine hp2.mono ?_; rintro e w' ⟨rfl, hS, hK⟩)
       go_meet
       case rel => exact ⟨r, hn, hrl.2, hTT.step hg hS hK⟩
    case rest =>
     clear hq1 hT h1 f1 hlt;obtain ⟨q, hq, hqb, hT⟩ := hcut
     have hq1 : Hid (Js.number b p = if Js.next b q 101 || Js.next b q 69 then Js.numSign b (q + 1) else .ok () q) := by have := hq.out; show _ = _; rw [this]; rfl
     clear hq;have hnx := next_calls q 101 hT.rs
     have hnx2 := fun n => next_calls q 69 (hT.drewN n).rs
     generalize hbm : Js.next b q 101 = bm at hnx hq1;generalize hbm2 : Js.next b q 69 = bm2 at hnx2 hq1
     have hlt : (bm || bm2) = true → q < b.length := fun e => by
      rcases Bool.or_eq_true _ _ ▸ e with e | e
      ·exact Js.next_lt (hbm.trans e)
      ·exact Js.next_lt (hbm2.trans e)
     clear hbm hbm2;have h1 := hT.rs.c1;have f1 := hT.rs.fr 1
     go_upto_region 10 with fail
     go_cut [45] (fun s45 wc => s45 = .bool (bm || bm2) ∧ St w0 g A c b w d wc q)
     case first =>
      cases bm
      ·cases bm2
       all_goals
        go_wp2_with fail
        refine hnx.mono ?_;rintro e w' ⟨rfl, n, rfl⟩
        go_wp2_with fail
        refine (hnx2 n).mono ?_;rintro e w' ⟨rfl, m, rfl⟩
        go_wp2_with fail
        go_meet
        case rel => exact ⟨rfl, hT.drewN _⟩
      ·go_wp2_with fail
       refine hnx.mono ?_;rintro e w' ⟨rfl, n, rfl⟩
       go_wp2_with fail
       go_meet
       case rel => exact ⟨by simp, hT.drewN _⟩
     case rest =>
      clear hnx hnx2 hT h1 f1;obtain ⟨rfl, hT⟩ := hcut;generalize hb3 : (bm || bm2) = b3 at hlt hq1;clear hb3 bm bm2;have h1 := hT.rs.c1;have f1 := hT.rs.fr 1
      go_upto_if 45 with fail
      go_cut [] (fun wc => ∃ r, Hid (Js.number b p = .ok () r) ∧ r ≤ b.length ∧ q ≤ r ∧ St w0 g A c b w d wc r)
      case first =>
       cases b3
       ·have hn : Hid (Js.number b p = .ok () q) := hq1.out
        go_wp2_with fail
        go_meet
        case rel => exact ⟨q, hn, hqb, Nat.le_refl _, hT⟩
       ·have hql := hlt rfl
        have hTT := hT.at1 hg;have hq2 : Hid (Js.number b p = Js.digits b (if Js.next b (q + 1) 43 || Js.next b (q + 1) 45 then q + 1 + 1 else q + 1)) := hq1.out;clear hq1 hlt;have hnx := next_calls (q + 1) 43 hTT.rs
        have hnx2 := fun n => next_calls (q + 1) 45 (hTT.drewN n).rs
        generalize hbm : Js.next b (q + 1) 43 = bm at hnx hq2;generalize hbm2 : Js.next b (q + 1) 45 = bm2 at hnx2 hq2
        have hlt : (bm || bm2) = true → q + 1 < b.length := fun e => by
         rcases Bool.or_eq_true _ _ ▸ e with e | e
         ·exact Js.next_lt (hbm.trans e)
         ·exact Js.next_lt (hbm2.trans e)
        clear hbm hbm2
        go_upto_region 12 with fail
        go_cut [58] (fun s58 wc => s58 = .bool (bm || bm2) ∧ St w0 g A c b w d wc (q + 1))
        case first =>
         cases bm
         ·cases bm2
          all_goals
           go_wp2_with fail
           refine hnx.mono ?_;rintro e w' ⟨rfl, n, rfl⟩
           go_wp2_with fail
           refine (hnx2 n).mono ?_;rintro e w' ⟨rfl, m, rfl⟩
           go_wp2_with fail
           go_meet
           case rel => exact ⟨rfl, hTT.drewN _⟩
         ·go_wp2_with fail
          refine hnx.mono ?_;rintro e w' ⟨rfl, n, rfl⟩
          go_wp2_with fail
          go_meet
          case rel => exact ⟨by simp, hTT.drewN _⟩
        case rest =>
         clear hnx hnx2 hT hTT h1 f1;obtain ⟨rfl, hT⟩ := hcut;generalize hb3 : (bm || bm2) = b3 at hlt hq2;clear hb3 bm bm2;have h1 := hT.rs.c1;have f1 := hT.rs.fr 1
         go_upto_if 58 with fail
         go_cut [] (fun wc => ∃ r, Hid (Js.number b p = Js.digits b r) ∧ q ≤ r ∧ St w0 g A c b w d wc r)
         case first =>
          cases b3
          ·have hn : Hid (Js.number b p = Js.digits b (q + 1)) := hq2.out
           go_wp2_with fail
           go_meet
           case rel => exact ⟨q + 1, hn, by omega, hT⟩
          ·have hql2 := hlt rfl
           have hn : Hid (Js.number b p = Js.digits b (q + 1 + 1)) := hq2.out;have hTT := hT.at1 hg
           go_wp2_with fail
           go_meet
           case rel => exact ⟨q + 1 + 1, hn, by omega, hTT⟩
         case rest =>
          clear hT h1 f1 hq2 hlt;obtain ⟨r, hq, hqr, hT⟩ := hcut
          cases hd : Js.digits b r with
          | no y k =>
           have hn : Hid (numberV b p = .no y k) := by have := hq.out; show _ = _; simp [numberV, this, hd]
           have hp2 := digits_no hT.rs hd;clear hq hd;go_wp2_with (go_at_call 101; refine hp2.mono ?_; rintro e w' ⟨rfl, hb, hK⟩);refine ⟨rfl, ?_⟩;rw [hn.out];exact ⟨rfl, hb, hT.kb.trans hK (.inl rfl)⟩
          | ok y s =>
           have hn : Hid (Js.number b p = .ok () s) := hq.out.trans hd;have hp2 := digits_ok hT.rs hd;have hrl := Js.digits_le hd;clear hq hd;go_wp2_with (go_at_call 101; refine hp2.mono ?_; rintro e w' ⟨rfl, hS, hK⟩)
           go_meet
           case rel => exact ⟨s, hn, hrl.2, by omega, hT.step hg hS hK⟩
      case rest =>
       clear hT h1 f1 hq1 hlt;obtain ⟨q, hq, hqb, hqr, hT⟩ := hcut;have hle := Js.number_le hq.out
       have hn : Hid (numberV b p = .ok ((b.take q).drop p) q) := by have := hq.out; show _ = _; simp [numberV, this]
       have h0 := hT.rs.c0;have h1 := hT.rs.c1;obtain ⟨A', hr1, hr2⟩ := cut_runs (A := A) (c := c) hle.1 hle.2 hbc;have hr3 := hr2 wc.drew (Kd.C_below hT.rs.read (below_drew hT.rs.bel));clear hq hr2;have hr1' := hr1 wc.drew;clear hr1;have hz0 : wc.cell? ⟨w.heap.size, 0, none⟩ = some (.int .i64 0) := (bceq hT.zb 0).trans rfl;have hz1 : wc.cell? ⟨w.heap.size, 1, none⟩ = some (.string ⟨#[]⟩) := (bceq hT.zb 1).trans rfl;have hz2 : wc.cell? ⟨w.heap.size, 2, none⟩ = some (.slice none 0 0) := (bceq hT.zb 2).trans rfl;have hz3 : wc.cell? ⟨w.heap.size, 3, none⟩ = some (.slice none 0 0) := (bceq hT.zb 3).trans rfl;have hzf0 := bfz hT.zb 0;have hzf1 := bfz hT.zb 1;have hzf2 := bfz hT.zb 2;have hzf3 := bfz hT.zb 3;go_wp2;refine wp_region_still_tail 12 (by kernel_rfl) (by kernel_rfl) ?_;simp only [List.take_succ_cons, List.take_zero, List.drop_succ_cons, List.drop_zero];rw [show ({ heap := wc.heap, tape := wc.tape, drawn := wc.drawn + 1, os := wc.os, output := wc.output } : World) = wc.drew from rfl]
       repeat still_step
       refine wpStill_nil ?_;go_wp2;have hB := blk_set (blk_set (blk_set (blk_set hT.zb 0 (.int .i64 3)) 1 (.string (strOfNums ((b.take q).drop p)))) 2 (.slice none 0 0)) 3 (.slice none 0 0)
       have hRS : RS w0 g A c b _ (q : Int) d := (((((hT.rs.far (q := ⟨w.heap.size, 0, none⟩) (Nat.ne_of_lt hg) (Nat.le_trans hT.rs.ge (Nat.le_of_lt hg)) (.int .i64 3)).far (q := ⟨w.heap.size, 1, none⟩) (Nat.ne_of_lt hg) (Nat.le_trans hT.rs.ge (Nat.le_of_lt hg)) (.string (strOfNums ((b.take q).drop p)))).far (q := ⟨w.heap.size, 2, none⟩) (Nat.ne_of_lt hg) (Nat.le_trans hT.rs.ge (Nat.le_of_lt hg)) (.slice none 0 0)).far (q := ⟨w.heap.size, 3, none⟩) (Nat.ne_of_lt hg) (Nat.le_trans hT.rs.ge (Nat.le_of_lt hg)) (.slice none 0 0)).drew)
       have hKB : Kbt w _ g none := keep_drew (keep_far (p := ⟨w.heap.size, 3, none⟩) (keep_far (p := ⟨w.heap.size, 2, none⟩) (keep_far (p := ⟨w.heap.size, 1, none⟩) (keep_far (p := ⟨w.heap.size, 0, none⟩) hT.kb (Nat.le_refl _) (.int .i64 3)) (Nat.le_refl _) (.string (strOfNums ((b.take q).drop p)))) (Nat.le_refl _) (.slice none 0 0)) (Nat.le_refl _) (.slice none 0 0));replace hB := blk_drew hB;generalize hwf : World.drew _ = wf at hB hRS hKB ⊢;clear hwf hz0 hz1 hz2 hz3 hzf0 hzf1 hzf2 hzf3 hr3 hr1' hT;have c0 : wf.cell? ⟨w.heap.size, 0, none⟩ = some (.int .i64 3) := (bceq hB 0).trans rfl;have c1 : wf.cell? ⟨w.heap.size, 1, none⟩ = some (.string (strOfNums ((b.take q).drop p))) := (bceq hB 1).trans rfl;have c2 : wf.cell? ⟨w.heap.size, 2, none⟩ = some (.slice none 0 0) := (bceq hB 2).trans rfl;have c3 : wf.cell? ⟨w.heap.size, 3, none⟩ = some (.slice none 0 0) := (bceq hB 3).trans rfl;refine bodyPost_ret (v := .agg #[.int .i64 3, .string (strOfNums ((b.take q).drop p)), .slice none 0 0, .slice none 0 0]) (by simp [results, Tryd.results79, go_sem, c0, c1, c2, c3]) rfl ?_;rw [hn.out];exact ⟨_, rfl, rfl, hRS, hKB⟩
end Go.Proofs.YteighppcdpaekaaDoor.Rd
end
section
namespace Go.Proofs.YteighppcdpaekaaDoor.Rf
open Go.RowKit Go.Proofs.YteighppcdpaekaaDoorW.PrintWords Go.Proofs.YteighppcdpaekaaDoor Go.Proofs.YteighppcdpaekaaDoor.P
abbrev NumOut := Int × ByteArray × List ByteArray × List S44 × Int × Int × Int × Int
def numE (b : List Int) (fr : Int) (a d e B : Int) : Option NumOut := if e != 0 then some (0, ⟨#[]⟩, [], [], a, d, e, B) else if 0 ≤ fr ∧ fr ≤ a ∧ a ≤ b.length then some (3, strOfNums ((b.take a.toNat).drop fr.toNat), [], [], a, d, e, B) else none
def numX (k : Nat) (b : List Int) (fr : Int) (a d e B : Int) : Option NumOut :=
 (RRq_see.f b a d e B).bind fun t => if (t.1 == 101 || t.1 == 69) = true then
   (RRq_see.f b (wrap64 (t.2.1 + 1)) t.2.2.1 t.2.2.2.1 t.2.2.2.2).bind fun u =>
    (RRq_digits.f k b (if (u.1 == 43 || u.1 == 45) = true then wrap64 (u.2.1 + 1) else u.2.1) u.2.2.1 u.2.2.2.1 u.2.2.2.2).bind fun v => numE b fr v.1 v.2.1 v.2.2.1 v.2.2.2
  else numE b fr t.2.1 t.2.2.1 t.2.2.2.1 t.2.2.2.2
def numD (k : Nat) (b : List Int) (fr : Int) (a d e B : Int) : Option NumOut :=
 (RRq_see.f b a d e B).bind fun t =>
  (if (t.1 == 46) = true then RRq_digits.f k b (wrap64 (t.2.1 + 1)) t.2.2.1 t.2.2.2.1 t.2.2.2.2 else some (t.2.1, t.2.2.1, t.2.2.2.1, t.2.2.2.2)).bind fun v => numX k b fr v.1 v.2.1 v.2.2.1 v.2.2.2
def numI (k : Nat) (b : List Int) (fr : Int) (a d e B : Int) : Option NumOut :=
 (RRq_peek.f b a d e B).bind fun t =>
  (if (t.1 == 48) = true then some (wrap64 (t.2.1 + 1), t.2.2.1, t.2.2.2.1, t.2.2.2.2) else RRq_digits.f k b t.2.1 t.2.2.1 t.2.2.2.1 t.2.2.2.2).bind fun v => numD k b fr v.1 v.2.1 v.2.2.1 v.2.2.2
def numF (k : Nat) (b : List Int) (a d e B : Int) : Option NumOut :=
 (RRq_see.f b a d e B).bind fun t => numI k b a (if (t.1 == 45) = true then wrap64 (t.2.1 + 1) else t.2.1) t.2.2.1 t.2.2.2.1 t.2.2.2.2
set_option maxRecDepth 100000 in
set_option maxHeartbeats 3200000 in
theorem number_calls (k g : Nat) (b : List Int) (a d e B : Int) (r : NumOut) (w0 w : World) (hI : IsS96 w0 w g b a d e B) (hB : Below w0.heap.size w0 w) (hlt : g < w.heap.size) (h : numF k b a d e B = some r) :
  Calls Tryd.prog 70 #[.pointer (some ⟨g, 0, none⟩)] w fun en w' => en = .returned (.agg #[.int .i64 r.1, .string r.2.1, .slice none 0 0, .slice none 0 0]) ∧ r.2.2.1 = [] ∧ r.2.2.2.1 = [] ∧ IsS96 w0 w' g b r.2.2.2.2.1 r.2.2.2.2.2.1 r.2.2.2.2.2.2.1 r.2.2.2.2.2.2.2 ∧ Below w0.heap.size w0 w' ∧ Kbt w w' g none := by
 have N0 := Sdq.mk (show NS w0 w g b (w.alloc Z44) a d e B from ⟨hI.alloc _, bal hB _, kal (Kbt.refl _ _ _) _, blk_new _ _, hlt⟩);have H := Sdq.mk h;clear hI hB h;obtain ⟨⟨c1, a1, d1, e1, B1⟩, hs, h⟩ := Option.bind_eq_some_iff.mp H.out;clear H;have H := Sdq.mk h;have hse := Sdq.mk hs;clear h hs;go_enter Tryd.func70, Tryd.ntmps70
 go_upto_region 1 with fail
 refine absP (fun W => NS w0 w g b W a d e B) N0.out ?_;clear N0;intro w1 N1';have N1 := Sdq.mk N1';clear N1';obtain ⟨A, c, x0, x1, x3, x4, x5, x6⟩ := N1.out.cells
 go_wp2_with fail
 refine (RRq_see.calls g b a d e B c1 a1 d1 e1 B1 w0 _ N1.out.i N1.out.bl hse.out).mono ?_;rintro en w2 ⟨rfl, hi, hb, hk⟩;have N2 := Sdq.mk (N1.out.call hi hb hk);clear N1 hi hb hk hse x0 x1 x3 x4 x5 x6;obtain ⟨A2, c2, x0, x1, x3, x4, x5, x6⟩ := N2.out.cells;have N := N2;clear N2
 go_upto_if 11 with fail
 go_cut [] (fun wc => ∃ xa xd xe xB : Int, NS w0 w g b wc xa xd xe xB ∧ Sdq (numI k b a xa xd xe xB = some r))
 case first =>
  rcases Bool.eq_false_or_eq_true (c1 == 45) with q1 | q1
  ·have h := H.out
   clear H;rw [if_pos q1] at h;have H := Sdq.mk h;clear h
   go_wp2_with fail
   go_meet
   case rel => exact ⟨_, _, _, _, N.out.set1 _, H⟩
  ·have h := H.out
   clear H;rw [if_neg (by rw [q1]; decide)] at h;have H := Sdq.mk h;clear h
   go_wp2_with fail
   go_meet
   case rel => exact ⟨_, _, _, _, N.out, H⟩
 case rest =>
  clear N H x0 x1 x3 x4 x5 x6;obtain ⟨a2, d2, e2, B2, Nn, H⟩ := hcut;have N := Sdq.mk Nn;clear Nn;obtain ⟨A41, z41, x0, x1, x3, x4, x5, x6⟩ := N.out.cells;have h := H.out;clear H;unfold numI at h;replace h := Option.bind_eq_some_iff.mp h;obtain ⟨⟨c2, a3, d3, e3, B3⟩, hs, h⟩ := h;have H := Sdq.mk h;have hse := Sdq.mk hs;clear h hs
  go_wp2_with fail
  refine (RRq_peek.calls g b a2 d2 e2 B2 c2 a3 d3 e3 B3 w0 _ N.out.i N.out.bl hse.out).mono ?_;rintro en w41 ⟨rfl, hi, hb, hk⟩;have Nn := Sdq.mk (N.out.call hi hb hk);clear x0 x1 x3 x4 x5 x6 N hi hb hk hse;have N := Nn;clear Nn;obtain ⟨A42, z42, x0, x1, x3, x4, x5, x6⟩ := N.out.cells
  go_upto_if 22 with fail
  go_cut [] (fun wc => ∃ xa xd xe xB : Int, NS w0 w g b wc xa xd xe xB ∧ Sdq (numD k b a xa xd xe xB = some r))
  case first =>
   rcases Bool.eq_false_or_eq_true (c2 == 48) with q1 | q1
   ·have h := H.out
    clear H;rw [if_pos q1] at h;have H := Sdq.mk (show numD k b a (wrap64 (a3 + 1)) d3 e3 B3 = some r from h);clear h
    go_wp2_with fail
    go_meet
    case rel => exact ⟨_, _, _, _, N.out.set1 _, H⟩
   ·have h := H.out
    clear H;rw [if_neg (by rw [q1]; decide)] at h;have H := Sdq.mk h;clear h;have h := H.out;clear H;replace h := Option.bind_eq_some_iff.mp h;obtain ⟨⟨u1, u2, u3, u4⟩, hs, h⟩ := h;have hse := Sdq.mk hs;have H := Sdq.mk h;clear h hs
    go_wp2_with fail
    refine (RRq_digits.calls k g b a3 d3 e3 B3 u1 u2 u3 u4 w0 _ N.out.i N.out.bl hse.out).mono ?_;rintro en w42 ⟨rfl, hi, hb, hk⟩;have Nn := Sdq.mk (N.out.call hi hb hk);clear x0 x1 x3 x4 x5 x6 N hi hb hk hse;have N := Nn;clear Nn;obtain ⟨A43, z43, x0, x1, x3, x4, x5, x6⟩ := N.out.cells
    go_wp2_with fail
    go_meet
    case rel => exact ⟨_, _, _, _, N.out, H⟩
  case rest =>
   clear N H x0 x1 x3 x4 x5 x6;obtain ⟨a4, d4, e4, B4, Nn, H⟩ := hcut;have N := Sdq.mk Nn;clear Nn;obtain ⟨A44, z44, x0, x1, x3, x4, x5, x6⟩ := N.out.cells;have h := H.out;clear H;unfold numD at h;replace h := Option.bind_eq_some_iff.mp h;obtain ⟨⟨c4, a5, d5, e5, B5⟩, hs, h⟩ := h;have H := Sdq.mk h;have hse := Sdq.mk hs;clear h hs
   go_wp2_with fail
   refine (RRq_see.calls g b a4 d4 e4 B4 c4 a5 d5 e5 B5 w0 _ N.out.i N.out.bl hse.out).mono ?_;rintro en w44 ⟨rfl, hi, hb, hk⟩;have Nn := Sdq.mk (N.out.call hi hb hk);clear x0 x1 x3 x4 x5 x6 N hi hb hk hse;have N := Nn;clear Nn;obtain ⟨A45, z45, x0, x1, x3, x4, x5, x6⟩ := N.out.cells
   go_upto_if 34 with fail
   go_cut [] (fun wc => ∃ xa xd xe xB : Int, NS w0 w g b wc xa xd xe xB ∧ Sdq (numX k b a xa xd xe xB = some r))
   case first =>
    rcases Bool.eq_false_or_eq_true (c4 == 46) with q1 | q1
    ·have h := H.out
     clear H;rw [if_pos q1] at h;have H := Sdq.mk h;clear h
     go_upto_region 10 with fail
     refine absP (fun W => NS w0 w g b W (wrap64 (a5 + 1)) d5 e5 B5) (N.out.set1 _) ?_;clear x0 x1 x3 x4 x5 x6;clear N;intro wn45 Nn;have N := Sdq.mk Nn;clear Nn;obtain ⟨A46, z46, x0, x1, x3, x4, x5, x6⟩ := N.out.cells;have h := H.out;clear H;replace h := Option.bind_eq_some_iff.mp h;obtain ⟨⟨u1, u2, u3, u4⟩, hs, h⟩ := h;have hse := Sdq.mk hs;have H := Sdq.mk h;clear h hs
     go_wp2_with fail
     refine (RRq_digits.calls k g b (wrap64 (a5 + 1)) d5 e5 B5 u1 u2 u3 u4 w0 _ N.out.i N.out.bl hse.out).mono ?_;rintro en w46 ⟨rfl, hi, hb, hk⟩;have Nn := Sdq.mk (N.out.call hi hb hk);clear x0 x1 x3 x4 x5 x6 N hi hb hk hse;have N := Nn;clear Nn;obtain ⟨A47, z47, x0, x1, x3, x4, x5, x6⟩ := N.out.cells
     go_wp2_with fail
     go_meet
     case rel => exact ⟨_, _, _, _, N.out, H⟩
    ·have h := H.out
     clear H;rw [if_neg (by rw [q1]; decide)] at h;have H := Sdq.mk (show numX k b a a5 d5 e5 B5 = some r from h);clear h
     go_wp2_with fail
     go_meet
     case rel => exact ⟨_, _, _, _, N.out, H⟩
   case rest =>
    clear N H x0 x1 x3 x4 x5 x6;obtain ⟨a6, d6, e6, B6, Nn, H⟩ := hcut;have N := Sdq.mk Nn;clear Nn;obtain ⟨A48, z48, x0, x1, x3, x4, x5, x6⟩ := N.out.cells;have h := H.out;clear H;unfold numX at h;replace h := Option.bind_eq_some_iff.mp h;obtain ⟨⟨c6, a7, d7, e7, B7⟩, hs, h⟩ := h;have H := Sdq.mk h;have hse := Sdq.mk hs;clear h hs
    go_wp2_with fail
    refine (RRq_see.calls g b a6 d6 e6 B6 c6 a7 d7 e7 B7 w0 _ N.out.i N.out.bl hse.out).mono ?_;rintro en w48 ⟨rfl, hi, hb, hk⟩;have Nn := Sdq.mk (N.out.call hi hb hk);clear x0 x1 x3 x4 x5 x6 N hi hb hk hse;have N := Nn;clear Nn;obtain ⟨A49, z49, x0, x1, x3, x4, x5, x6⟩ := N.out.cells
    go_upto_region 12 with fail
    go_cut [51] (fun sv wc => sv = .bool (c6 == 101 || c6 == 69) ∧ NS w0 w g b wc a7 d7 e7 B7)
    case first =>
     rcases (show ((c6 == 101) = true ∧ (c6 == 101 || c6 == 69) = true) ∨ ((c6 == 101) = false ∧ (c6 == 69) = true ∧ (c6 == 101 || c6 == 69) = true) ∨ ((c6 == 101) = false ∧ (c6 == 69) = false ∧ (c6 == 101 || c6 == 69) = false) from by cases (c6 == 101) <;> cases (c6 == 69) <;> simp) with ⟨q4, q5⟩ | ⟨q4, q4b, q5⟩ | ⟨q4, q4b, q5⟩
     ·go_wp2_with fail
      go_meet
      case rel => exact ⟨by rw [q5], N.out⟩
     ·go_wp2_with fail
      go_meet
      case rel => exact ⟨by rw [q5], N.out⟩
     ·go_wp2_with fail
      go_meet
      case rel => exact ⟨by rw [q5], N.out⟩
    case rest =>
     clear x0 x1 x3 x4 x5 x6 N;obtain ⟨rfl, Nn⟩ := hcut;have N := Sdq.mk Nn;clear Nn;obtain ⟨A50, z50, x0, x1, x3, x4, x5, x6⟩ := N.out.cells
     go_upto_if 51 with fail
     go_cut [] (fun wc => ∃ xa xd xe xB : Int, NS w0 w g b wc xa xd xe xB ∧ Sdq (numE b a xa xd xe xB = some r))
     case first =>
      rcases Bool.eq_false_or_eq_true (c6 == 101 || c6 == 69) with q1 | q1
      ·have h := H.out
       clear H;rw [if_pos q1] at h;replace h := Option.bind_eq_some_iff.mp h;obtain ⟨⟨c8, a9, d9, e9, B9⟩, hs, h⟩ := h;have H := Sdq.mk h;have hse := Sdq.mk hs;clear h hs;rw [q1]
       go_upto_region 14 with fail
       refine absP (fun W => NS w0 w g b W (wrap64 (a7 + 1)) d7 e7 B7) (N.out.set1 _) ?_;clear x0 x1 x3 x4 x5 x6;clear N;intro wn50 Nn;have N := Sdq.mk Nn;clear Nn;obtain ⟨A51, z51, x0, x1, x3, x4, x5, x6⟩ := N.out.cells
       go_wp2_with fail
       refine (RRq_see.calls g b (wrap64 (a7 + 1)) d7 e7 B7 c8 a9 d9 e9 B9 w0 _ N.out.i N.out.bl hse.out).mono ?_;rintro en w51 ⟨rfl, hi, hb, hk⟩;have Nn := Sdq.mk (N.out.call hi hb hk);clear x0 x1 x3 x4 x5 x6 N hi hb hk hse;have N := Nn;clear Nn;obtain ⟨A52, z52, x0, x1, x3, x4, x5, x6⟩ := N.out.cells
       go_upto_region 15 with fail
       go_cut [66] (fun sv wc => sv = .bool (c8 == 43 || c8 == 45) ∧ NS w0 w g b wc a9 d9 e9 B9)
       case first =>
        rcases (show ((c8 == 43) = true ∧ (c8 == 43 || c8 == 45) = true) ∨ ((c8 == 43) = false ∧ (c8 == 45) = true ∧ (c8 == 43 || c8 == 45) = true) ∨ ((c8 == 43) = false ∧ (c8 == 45) = false ∧ (c8 == 43 || c8 == 45) = false) from by cases (c8 == 43) <;> cases (c8 == 45) <;> simp) with ⟨q4, q5⟩ | ⟨q4, q4b, q5⟩ | ⟨q4, q4b, q5⟩
        ·go_wp2_with fail
         go_meet
         case rel => exact ⟨by rw [q5], N.out⟩
        ·go_wp2_with fail
         go_meet
         case rel => exact ⟨by rw [q5], N.out⟩
        ·go_wp2_with fail
         go_meet
         case rel => exact ⟨by rw [q5], N.out⟩
       case rest =>
        clear x0 x1 x3 x4 x5 x6 N;obtain ⟨rfl, Nn⟩ := hcut;have N := Sdq.mk Nn;clear Nn;obtain ⟨A53, z53, x0, x1, x3, x4, x5, x6⟩ := N.out.cells
        go_upto_if 66 with fail
        go_cut [] (fun wc => ∃ xa xd xe xB : Int, NS w0 w g b wc xa xd xe xB ∧ Sdq (((RRq_digits.f k b xa xd xe xB).bind fun v => numE b a v.1 v.2.1 v.2.2.1 v.2.2.2) = some r))
        case first =>
         rcases Bool.eq_false_or_eq_true (c8 == 43 || c8 == 45) with q2 | q2
         ·rw [q2]
          have h := H.out;clear H;rw [if_pos q2] at h;have H := Sdq.mk h;clear h
          go_wp2_with fail
          go_meet
          case rel => exact ⟨_, _, _, _, N.out.set1 _, H⟩
         ·rw [q2]
          have h := H.out;clear H;rw [if_neg (by rw [q2]; decide)] at h;have H := Sdq.mk h;clear h
          go_wp2_with fail
          go_meet
          case rel => exact ⟨_, _, _, _, N.out, H⟩
        case rest =>
         clear N H x0 x1 x3 x4 x5 x6;obtain ⟨a10, d10, e10, B10, Nn, H⟩ := hcut;have N := Sdq.mk Nn;clear Nn;obtain ⟨A54, z54, x0, x1, x3, x4, x5, x6⟩ := N.out.cells
         go_upto_region 17 with fail
         have h := H.out;clear H;replace h := Option.bind_eq_some_iff.mp h;obtain ⟨⟨u1, u2, u3, u4⟩, hs, h⟩ := h;have hse := Sdq.mk hs;have H := Sdq.mk h;clear h hs
         go_wp2_with fail
         refine (RRq_digits.calls k g b a10 d10 e10 B10 u1 u2 u3 u4 w0 _ N.out.i N.out.bl hse.out).mono ?_;rintro en w54 ⟨rfl, hi, hb, hk⟩;have Nn := Sdq.mk (N.out.call hi hb hk);clear x0 x1 x3 x4 x5 x6 N hi hb hk hse;have N := Nn;clear Nn;obtain ⟨A55, z55, x0, x1, x3, x4, x5, x6⟩ := N.out.cells
         go_wp2_with fail
         go_meet
         case rel => exact ⟨_, _, _, _, N.out, H⟩
      ·have h := H.out
       clear H;rw [if_neg (by rw [q1]; decide)] at h;have H := Sdq.mk (show numE b a a7 d7 e7 B7 = some r from h);clear h;rw [q1]
       go_wp2_with fail
       go_meet
       case rel => exact ⟨_, _, _, _, N.out, H⟩
     case rest =>
      clear N H x0 x1 x3 x4 x5 x6;obtain ⟨a8, d8, e8, B8, Nn, H⟩ := hcut;have N := Sdq.mk Nn;clear Nn;obtain ⟨A56, z56, x0, x1, x3, x4, x5, x6⟩ := N.out.cells;have h := H.out;clear H;unfold numE at h;obtain ⟨hz0, hz1, hz2, hz3, hzf0, hzf1, hzf2, hzf3⟩ := N.out.z
      rcases Bool.eq_false_or_eq_true (e8 != 0) with q8 | q8
      ·rw [if_pos q8] at h
       obtain rfl := Option.some.inj h
       go_wp2_with fail
       have F := N.out.fin 0 ⟨#[]⟩ _ rfl;clear N x0 x1 x3 x4 x5 x6 hz0 hz1 hz2 hz3 hzf0 hzf1 hzf2 hzf3;generalize World.setCell _ _ _ = wf at F ⊢;obtain ⟨fi, fb, fk, c0, c1, c2, c3⟩ := F;refine bodyPost_ret (v := .agg #[.int .i64 0, .string (⟨#[]⟩), .slice none 0 0, .slice none 0 0]) (by simp [results, Tryd.results70, go_sem, c0, c1, c2, c3]) rfl ?_;exact ⟨rfl, fi, fb, fk⟩
      ·rw [if_neg (by rw [q8]; decide)] at h
       obtain ⟨hab, h⟩ : (0 ≤ a ∧ a ≤ a8 ∧ a8 ≤ b.length) ∧ (3, strOfNums ((b.take a8.toNat).drop a.toNat), [], [], a8, d8, e8, B8) = r := by
        by_cases hc : 0 ≤ a ∧ a ≤ a8 ∧ a8 ≤ b.length
        ·rw [if_pos hc] at h
         exact ⟨hc, Option.some.inj h⟩
        ·rw [if_neg hc] at h
         simp at h
       obtain rfl := h;obtain ⟨p, rfl⟩ := Int.eq_ofNat_of_zero_le hab.1;obtain ⟨q, rfl⟩ := Int.eq_ofNat_of_zero_le (Int.le_trans hab.1 hab.2.1)
       have hpq : p ≤ q := by omega
       have hqb : q ≤ b.length := by omega
       clear hab;obtain ⟨A', hr1, hr2⟩ := Rd.cut_runs (A := A56) (c := z56) hpq hqb x5;have hr3 := hr2 wc.drew (Kd.C_below x6 (below_drew (Below.refl _ _)));clear hr2;have hr1' := hr1 wc.drew;clear hr1
       go_wp2_with fail
       refine wp_region_still_tail 12 (by kernel_rfl) (by kernel_rfl) ?_;simp only [List.take_succ_cons, List.take_zero, List.drop_succ_cons, List.drop_zero];rw [show ({ heap := wc.heap, tape := wc.tape, drawn := wc.drawn + 1, os := wc.os, output := wc.output } : World) = wc.drew from rfl]
       repeat still_step
       refine wpStill_nil ?_;go_wp2;clear hr1' hr3;have F := N.out.fin 3 (strOfNums ((b.take q).drop p)) _ rfl;clear N x0 x1 x3 x4 x5 x6 hz0 hz1 hz2 hz3 hzf0 hzf1 hzf2 hzf3;generalize World.setCell _ _ _ = wf at F ⊢;obtain ⟨fi, fb, fk, c0, c1, c2, c3⟩ := F;replace fi := fi.drew;replace fb := bdr1 fb;replace fk := keep_drew fk;have c0 : wf.drew.cell? ⟨w.heap.size, 0, none⟩ = _ := c0;have c1 : wf.drew.cell? ⟨w.heap.size, 1, none⟩ = _ := c1;have c2 : wf.drew.cell? ⟨w.heap.size, 2, none⟩ = _ := c2;have c3 : wf.drew.cell? ⟨w.heap.size, 3, none⟩ = _ := c3;refine bodyPost_ret (v := .agg #[.int .i64 3, .string ((strOfNums ((b.take q).drop p))), .slice none 0 0, .slice none 0 0]) (by simp [results, Tryd.results70, go_sem, c0, c1, c2, c3]) rfl ?_;exact ⟨rfl, fi, fb, fk⟩
end Go.Proofs.YteighppcdpaekaaDoor.Rf
end
section
namespace Go.Proofs.YteighppcdpaekaaDoor.Rd
open Go.RowKit Go.Proofs.YteighppcdpaekaaDoorW.PrintWords
open Go.Proofs.YteighppcdpaekaaDoor
def VKind (k : Int) (_ : World) (_ : Unit) (u : Value) : Prop := u = .agg #[.int .i64 k, .string ⟨#[]⟩, .slice none 0 0, .slice none 0 0]
theorem St.at1' {w0 : World} {g : Nat} {A : Option Addr} {c : Nat} {b : List Int} {w : World} {d : Int} {wc : World} {q r : Nat} {x : Int} (h : St w0 g A c b w d wc q) (hg : g < w.heap.size) (hx : x = r) (hr : r = q + 1) : St w0 g A c b w d (wc.setCell ⟨g, 1, none⟩ (.int .i64 x)) r := by
 subst hr; subst hx;have := h.at1 hg
 rwa [show ((q + 1 : Nat) : Int) = (q : Int) + 1 by omega]
theorem St.stored {w0 : World} {g : Nat} {A : Option Addr} {c : Nat} {b : List Int} {w : World} {d : Int} {wc : World} {q : Nat} (h : St w0 g A c b w d wc q) (hg : g < w.heap.size) (v0 v1 v2 v3 : Value) :
  let wf := (((wc.setCell ⟨w.heap.size, 0, none⟩ v0).setCell ⟨w.heap.size, 1, none⟩ v1).setCell ⟨w.heap.size, 2, none⟩ v2).setCell ⟨w.heap.size, 3, none⟩ v3
  wf.heap[w.heap.size]? = some (.cells #[v0, v1, v2, v3] 27 (0, 0)) ∧ RS w0 g A c b wf q d ∧ Kbt w wf g none := by
 have hge : w0.heap.size ≤ w.heap.size := Nat.le_trans h.rs.ge (Nat.le_of_lt hg);refine ⟨blk_set (blk_set (blk_set (blk_set h.zb 0 v0) 1 v1) 2 v2) 3 v3, ?_, ?_⟩
 ·exact (((h.rs.far (q := ⟨w.heap.size, 0, none⟩) (Nat.ne_of_lt hg) hge v0).far (q := ⟨w.heap.size, 1, none⟩) (Nat.ne_of_lt hg) hge v1).far (q := ⟨w.heap.size, 2, none⟩) (Nat.ne_of_lt hg) hge v2).far (q := ⟨w.heap.size, 3, none⟩) (Nat.ne_of_lt hg) hge v3
 ·exact keep_far (p := ⟨w.heap.size, 3, none⟩) (keep_far (p := ⟨w.heap.size, 2, none⟩) (keep_far (p := ⟨w.heap.size, 1, none⟩) (keep_far (p := ⟨w.heap.size, 0, none⟩) h.kb (Nat.le_refl _) v0) (Nat.le_refl _) v1) (Nat.le_refl _) v2) (Nat.le_refl _) v3
theorem blk4 {wf : World} {G : Nat} {v0 v1 v2 v3 : Value} {t : TypeId} (h : wf.heap[G]? = some (.cells #[v0, v1, v2, v3] t (0, 0))) :
  wf.cell? ⟨G, 0, none⟩ = some v0 ∧ wf.cell? ⟨G, 1, none⟩ = some v1 ∧ wf.cell? ⟨G, 2, none⟩ = some v2 ∧ wf.cell? ⟨G, 3, none⟩ = some v3 :=
 ⟨(bceq h 0).trans rfl, (bceq h 1).trans rfl, (bceq h 2).trans rfl, (bceq h 3).trans rfl⟩
theorem St.zero {w0 : World} {g : Nat} {A : Option Addr} {c : Nat} {b : List Int} {w : World} {d : Int} {wc : World} {q : Nat} (h : St w0 g A c b w d wc q) :
  (wc.cell? ⟨w.heap.size, 0, none⟩ = some (.int .i64 0) ∧ wc.cell? ⟨w.heap.size, 1, none⟩ = some (.string ⟨#[]⟩) ∧ wc.cell? ⟨w.heap.size, 2, none⟩ = some (.slice none 0 0) ∧ wc.cell? ⟨w.heap.size, 3, none⟩ = some (.slice none 0 0)) ∧
  (wc.frozen? ⟨w.heap.size, 0, none⟩ = false ∧ wc.frozen? ⟨w.heap.size, 1, none⟩ = false ∧ wc.frozen? ⟨w.heap.size, 2, none⟩ = false ∧ wc.frozen? ⟨w.heap.size, 3, none⟩ = false) :=
 ⟨blk4 h.zb, bfz h.zb 0, bfz h.zb 1, bfz h.zb 2, bfz h.zb 3⟩
set_option maxRecDepth 100000 in
set_option maxHeartbeats 1600000 in
theorem word_calls {w0 : World} {g : Nat} {A : Option Addr} {c : Nat} {b : List Int} {w : World} {d : Int} {p : Nat} (s : ByteArray) (hs : s.size ≤ 1000) (kind : Int) (h : RS w0 g A c b w p d) (hp : p ≤ b.length) :
  Calls Tryd.prog 78 #[.pointer (some ⟨g, 0, none⟩), .string s, .int .i64 kind] w (Post w0 g A c b w d (VKind kind) (Js.word b (bytesOf s) p)) := by
 have hsm := h.small;have hg := h.lt
 have hSt : St w0 g A c b w d (w.alloc Z25) p := ⟨h.alloc _, kal (Kbt.refl _ _ _) _, blk_new _ _⟩
 go_enter Tryd.func78, Tryd.ntmps78
 go_wp2_with fail
 go_loopg [10] s.size (fun kq s10 wc => ∃ k : Nat, kq + k = s.size ∧ s10 = .int .i64 k ∧ p + k ≤ b.length ∧ Hid (Js.word b (bytesOf s) p = Js.word b ((bytesOf s).drop k) (p + k)) ∧ St w0 g A c b w d wc (p + k))
 case atStart => exact ⟨0, rfl, rfl, hp, rfl, hSt⟩
 case round =>
  clear hSt h;obtain ⟨k, hk, rfl, hpk, hw, hT⟩ := hrel;by_cases hlt : k < s.size
  ·have hdr : (bytesOf s).drop k = ((s[k]'hlt).toNat : Int) :: (bytesOf s).drop (k + 1) := by
    rw [List.drop_eq_getElem_cons (by simp [bytesOf]; exact hlt)]
    simp [bytesOf]
    rfl
   cases hx : b[p + k]? with
   | none =>
    have hn : Hid (Js.word b (bytesOf s) p = .no (p + k) 11) := by have := hw.out; show _ = _; rw [this, hdr]; simp [Js.word, hx]
    have hp1 := peek_no hT.rs hx
    have hp2 := fun n => peek_no (hT.drewN n).rs hx
    clear hx hw hdr
    go_wp2_with fail
    go_region_with (go_at_call 74; refine (hp2 1).mono ?_; intro e w' hh; rcases e with v | ch | _; rotate_left; (obtain ⟨he, n, rfl⟩ := hh; injection he with he; subst he; refine ⟨rfl, ?_⟩; rw [hn.out]; exact ⟨rfl, ((hT.drewN 1).drewN _).rs.bel, ((hT.drewN 1).drewN _).kb⟩); (obtain ⟨he, _⟩ := hh; cases he); (obtain rfl : v = .int .u8 0 := by obtain ⟨he, _⟩ := hh; cases he))
    all_goals (obtain ⟨he, _⟩ := hh; cases he)
   | some x =>
    have hpl : p + k < b.length := (List.getElem?_eq_some_iff.1 hx).1
    have hp1 := fun n => peek_ok (hT.drewN n).rs hx
    have hn0 : Hid (Js.word b (bytesOf s) p = if x == ((s[k]'hlt).toNat : Int) then Js.word b ((bytesOf s).drop (k + 1)) (p + k + 1) else .no (p + k) 6) := by have := hw.out; show _ = _; rw [this, hdr]; simp [Js.word, hx]
    clear hx hw hdr;have h1 := hT.rs.c1;have f1 := hT.rs.fr 1
    by_cases hxe : x = ((s[k]'hlt).toNat : Int)
    ·have hn : Hid (Js.word b (bytesOf s) p = Js.word b ((bytesOf s).drop (k + 1)) (p + (k + 1))) := by have := hn0.out; rw [if_pos (by simpa using hxe)] at this; exact this
     have hxb : (x != ((s[k]'hlt).toNat : Int)) = false := by simpa using hxe
     clear hxe hn0
     obtain ⟨k1, rfl⟩ : ∃ k1, gk = k1 + 1 := ⟨gk - 1, by omega⟩
     go_wp2_with fail
     go_quiet ((go_at_call 74; exact Calls.quiet_of (hp1 _)))
     go_wp2_with fail
     go_roundg k1
     case measure => omega
     case rel => exact ⟨k + 1, by omega, by go_num, by omega, hn, (hT.drewN _).at1' hg (by omega) (by omega)⟩
    ·have hn : Hid (Js.word b (bytesOf s) p = .no (p + k) 6) := by have := hn0.out; rw [if_neg (by simpa using hxe)] at this; exact this
     have hxb : (x != ((s[k]'hlt).toNat : Int)) = true := by simpa using hxe
     clear hxe hn0
     go_wp2_with fail
     go_quiet ((go_at_call 74; exact Calls.quiet_of (hp1 _)))
     go_wp2_with (go_at_call 60; refine (fail_calls _ (hT.drewN _).rs).mono ?_; rintro e w' ⟨rfl, rfl⟩);refine ⟨rfl, ?_⟩;rw [hn.out];exact ⟨rfl, (hT.drewN _).rs.bel, (hT.drewN _).kb⟩
  ·obtain rfl : k = s.size := by omega
   have hn : Hid (Js.word b (bytesOf s) p = .ok () (p + s.size)) := by have := hw.out; show _ = _; rw [this, List.drop_eq_nil_of_le (by simp [bytesOf])]; rfl
   clear hw;obtain ⟨⟨z0, z1, z2, z3⟩, y0, y1, y2, y3⟩ := hT.zero;have hF := hT.stored hg (.int .i64 kind) (.string ⟨#[]⟩) (.slice none 0 0) (.slice none 0 0);have hF' := Lib.hid hF; clear hF;go_wp2;obtain ⟨hB, hRS, hKB⟩ := hF'.out;clear hF' z0 z1 z2 z3 y0 y1 y2 y3 hT;generalize hwf : World.setCell _ _ _ = wf at hB hRS hKB ⊢;clear hwf;obtain ⟨c0, c1, c2, c3⟩ := blk4 hB;refine bodyPost_ret (v := .agg #[.int .i64 kind, .string ⟨#[]⟩, .slice none 0 0, .slice none 0 0]) (by simp [results, Tryd.results78, go_sem, c0, c1, c2, c3]) rfl ?_;rw [hn.out];exact ⟨_, rfl, rfl, hRS, hKB⟩
end Go.Proofs.YteighppcdpaekaaDoor.Rd
end
section
namespace Go.Proofs.YteighppcdpaekaaDoor.Rf
open Go.RowKit Go.Proofs.YteighppcdpaekaaDoorW.PrintWords Go.Proofs.YteighppcdpaekaaDoor Go.Proofs.YteighppcdpaekaaDoor.P
abbrev St4 := Int × Int × Int × Int
abbrev RVal := S44 × Int × Int × Int × Int
def dupF (ks : List ByteArray) (key : ByteArray) (fr : Int) : Int → Int → Int → Int → Option St4 := match ks with
 | [] => fun a d e B => some (a, d, e, B)
 | x :: r => fun a d e B => if x = key then (if e = 0 then dupF r key fr a d 23 fr else dupF r key fr a d e B) else dupF r key fr a d e B
section
variable (V : Int → Int → Int → Int → Option RVal) (k : Nat) (b : List Int)
def itemsF : Nat → List S44 → Bool → Int → Int → Int → Int → Option RVal
 | 0, _, _, _, _, _, _ => none
 | j + 1, l, m, a, d, e, B => if (m && e == 0) = true then
   (V a d e B).bind fun t => if l.length < 1000000 then
    (RRq_more.f k b t.2.1 t.2.2.1 t.2.2.2.1 t.2.2.2.2 93).bind fun u => itemsF j (l ++ [t.1]) u.1 u.2.1 u.2.2.1 u.2.2.2.1 u.2.2.2.2 else none
  else some (⟨5, ⟨#[]⟩, [], l⟩, a, d, e, B)
def arrF (a d e B : Int) : Option RVal :=
 (RRq_enter.f k b a d e B 93).bind fun t => if t.1 = true then some (⟨5, ⟨#[]⟩, [], []⟩, t.2.1, t.2.2.1, t.2.2.2.1, t.2.2.2.2) else itemsF V k b k [] true t.2.1 t.2.2.1 t.2.2.2.1 t.2.2.2.2
def pairF (ks : List ByteArray) (a d e B : Int) : Option (ByteArray × RVal) :=
 (RRq_text.f k b a d e B).bind fun t =>
 (dupF ks t.1 a t.2.1 t.2.2.1 t.2.2.2.1 t.2.2.2.2).bind fun u =>
 (RRq_blank.f k b u.1 u.2.1 u.2.2.1 u.2.2.2).bind fun u =>
 (RRq_must.f k b u.1 u.2.1 u.2.2.1 u.2.2.2 58).bind fun u =>
 (RRq_blank.f k b u.1 u.2.1 u.2.2.1 u.2.2.2).bind fun u =>
 (V u.1 u.2.1 u.2.2.1 u.2.2.2).bind fun v => some (t.1, v)
def pairsF : Nat → List ByteArray → List S44 → Bool → Int → Int → Int → Int → Option RVal
 | 0, _, _, _, _, _, _, _ => none
 | j + 1, ks, l, m, a, d, e, B => if (m && e == 0) = true then
   (pairF V k b ks a d e B).bind fun t => if l.length < 1000000 ∧ ks.length < 1000000 then
    (RRq_more.f k b t.2.2.1 t.2.2.2.1 t.2.2.2.2.1 t.2.2.2.2.2 125).bind fun u => pairsF j (ks ++ [t.1]) (l ++ [t.2.1]) u.1 u.2.1 u.2.2.1 u.2.2.2.1 u.2.2.2.2 else none
  else some (⟨6, ⟨#[]⟩, ks, l⟩, a, d, e, B)
def objF (a d e B : Int) : Option RVal :=
 (RRq_enter.f k b a d e B 125).bind fun t => if t.1 = true then some (⟨6, ⟨#[]⟩, [], []⟩, t.2.1, t.2.2.1, t.2.2.2.1, t.2.2.2.2) else pairsF V k b k [] [] true t.2.1 t.2.2.1 t.2.2.2.1 t.2.2.2.2
end
def ofNum (t : NumOut) : RVal := (⟨t.1, t.2.1, t.2.2.1, t.2.2.2.1⟩, t.2.2.2.2)
def valF (b : List Int) : Nat → Int → Int → Int → Int → Option RVal
 | 0, _, _, _, _ => none
 | k + 1, a, d, e, B => (RRq_peek.f b a d e B).bind fun t =>
  if (t.2.2.2.1 != 0) = true then some (⟨0, ⟨#[]⟩, [], []⟩, t.2)
  else if (t.1 == 123) = true then objF (valF b k) k b t.2.1 t.2.2.1 t.2.2.2.1 t.2.2.2.2
  else if (t.1 == 91) = true then arrF (valF b k) k b t.2.1 t.2.2.1 t.2.2.2.1 t.2.2.2.2
  else if (t.1 == 34) = true then (RRq_text.f k b t.2.1 t.2.2.1 t.2.2.2.1 t.2.2.2.2).bind fun u => some (⟨4, u.1, [], []⟩, u.2)
  else if (t.1 == 116) = true then (RRq_word.f k b t.2.1 t.2.2.1 t.2.2.2.1 t.2.2.2.2 ⟨#[116, 114, 117, 101]⟩ 2).map ofNum
  else if (t.1 == 102) = true then (RRq_word.f k b t.2.1 t.2.2.1 t.2.2.2.1 t.2.2.2.2 ⟨#[102, 97, 108, 115, 101]⟩ 1).map ofNum
  else if (t.1 == 110) = true then (RRq_word.f k b t.2.1 t.2.2.1 t.2.2.2.1 t.2.2.2.2 ⟨#[110, 117, 108, 108]⟩ 0).map ofNum
  else (numF k b t.2.1 t.2.2.1 t.2.2.2.1 t.2.2.2.2).map ofNum
def VPost (w0 w : World) (g : Nat) (b : List Int) (r : RVal) (en : Ending) (w' : World) : Prop :=
 ∃ v2 v3 : Value, en = .returned (.agg #[.int .i64 r.1.f0, .string r.1.f1, v2, v3]) ∧ Kd.string.R 9 w' w.heap.size (fun _ => True) v2 r.1.f2 ∧ k44.R 44 w' w.heap.size (fun k => some k ≠ v2.ownBlock) v3 r.1.f3 ∧
  IsS96 w0 w' g b r.2.1 r.2.2.1 r.2.2.2.1 r.2.2.2.2 ∧ Below w0.heap.size w0 w' ∧ Kbt w w' g none
def VOK (b : List Int) (V : Int → Int → Int → Int → Option RVal) : Prop := ∀ (g : Nat) (a d e B : Int) (r : RVal) (w0 w : World), IsS96 w0 w g b a d e B → Below w0.heap.size w0 w → V a d e B = some r →
 Calls Tryd.prog 45 #[.pointer (some ⟨g, 0, none⟩)] w (VPost w0 w g b r)
structure VS (w0 w : World) (g : Nat) (b : List Int) (kd : Int) (W : World) (a d e B : Int) (kv lv : Value) (ks : List ByteArray) (l : List S44) : Prop where
 i : IsS96 w0 W g b a d e B
 bl : Below w0.heap.size w0 W
 k : Kbt w W g none
 zb : W.heap[w.heap.size]? = some (.cells #[.int .i64 0, .string ⟨#[]⟩, .slice none 0 0, .slice none 0 0] 44 (0, 0))
 vb : W.heap[w.heap.size + 1]? = some (.cells #[.int .i64 kd, .string ⟨#[]⟩, kv, lv] 44 (0, 0))
 own2 : Kd.string.R 9 W (w.heap.size + 2) (fun _ => True) kv ks
 own : k44.R 44 W (w.heap.size + 2) (fun k => some k ≠ kv.ownBlock) lv l
 lt : g < w.heap.size
section
variable {w0 w : World} {g : Nat} {b : List Int} {kd : Int} {W W' : World} {a d e B a' d' e' B' : Int} {kv lv v1 : Value} {ks : List ByteArray} {l : List S44}
theorem VS.step (h : VS w0 w g b kd W a d e B kv lv ks l) (hi : IsS96 w0 W' g b a' d' e' B') (hb : Below w0.heap.size w0 W') (hk : Kbt W W' g none) : VS w0 w g b kd W' a' d' e' B' kv lv ks l :=
 have := h.lt
 ⟨hi, hb, h.k.trans hk (.inl rfl), hk.blk h.zb (by omega) (by simp), hk.blk h.vb (by omega) (by simp),
  Kd.R_mono (Kd.R_keep (Kd.R_bound h.own2) hk (fun k hk => by have := hk.2.1; omega)) (fun _ _ => trivial), Kd.R_mono (Kd.R_keep (Kd.R_bound h.own) hk (fun k hk => by have := hk.2.1; omega)) (fun _ hk => hk.1), h.lt⟩
theorem VS.alloc (h : VS w0 w g b kd W a d e B kv lv ks l) (x : Obj) : VS w0 w g b kd (W.alloc x) a d e B kv lv ks l := h.step (h.i.alloc x) (bal h.bl x) (kal (Kbt.refl _ _ _) x)
theorem VS.cells (h : VS w0 w g b kd W a d e B kv lv ks l) :
  (W.cell? ⟨w.heap.size, 0, none⟩ = some (.int .i64 0) ∧ W.cell? ⟨w.heap.size, 1, none⟩ = some (.string ⟨#[]⟩) ∧ W.cell? ⟨w.heap.size, 2, none⟩ = some (.slice none 0 0) ∧ W.cell? ⟨w.heap.size, 3, none⟩ = some (.slice none 0 0)) ∧
  (W.cell? ⟨w.heap.size + 1, 0, none⟩ = some (.int .i64 kd) ∧ W.cell? ⟨w.heap.size + 1, 1, none⟩ = some (.string ⟨#[]⟩) ∧ W.cell? ⟨w.heap.size + 1, 2, none⟩ = some kv ∧ W.cell? ⟨w.heap.size + 1, 3, none⟩ = some lv) ∧
  (W.frozen? ⟨w.heap.size, 0, none⟩ = false ∧ W.frozen? ⟨w.heap.size, 1, none⟩ = false ∧ W.frozen? ⟨w.heap.size, 2, none⟩ = false ∧ W.frozen? ⟨w.heap.size, 3, none⟩ = false) ∧
  (W.frozen? ⟨w.heap.size + 1, 2, none⟩ = false ∧ W.frozen? ⟨w.heap.size + 1, 3, none⟩ = false) ∧
  (W.cell? ⟨g, 1, none⟩ = some (.int .i64 a) ∧ W.cell? ⟨g, 3, none⟩ = some (.int .i64 e)) := by
 obtain ⟨A, c, HG, hg, HC⟩ := h.i;exact ⟨Rd.blk4 h.zb, Rd.blk4 h.vb, ⟨bfz h.zb 0, bfz h.zb 1, bfz h.zb 2, bfz h.zb 3⟩, ⟨bfz h.vb 2, bfz h.vb 3⟩, cellS96_1 HG, cellS96_3 HG⟩
theorem VS.ge (h : VS w0 w g b kd W a d e B kv lv ks l) : w0.heap.size ≤ w.heap.size := Nat.le_trans h.i.ge (Nat.le_of_lt h.lt)
theorem VS.grown0 (h : VS w0 w g b kd W a d e B kv lv ks l) {row : Option Nat} (hgr : W.grownBy W' row) (hr : ∀ k, row = some k → w.heap.size + 2 ≤ k) :
  IsS96 w0 W' g b a d e B ∧ Below w0.heap.size w0 W' ∧ Kbt w W' g none ∧ W'.heap[w.heap.size]? = some (.cells #[.int .i64 0, .string ⟨#[]⟩, .slice none 0 0, .slice none 0 0] 44 (0, 0)) ∧ W'.heap[w.heap.size + 1]? = some (.cells #[.int .i64 kd, .string ⟨#[]⟩, kv, lv] 44 (0, 0)) := by
 have hge := h.ge;have hlt := h.lt
 have hne : ∀ i, i < w.heap.size + 2 → some i ≠ row := fun i hi e => by have := hr _ e.symm; omega
 refine ⟨h.i.grown hgr (hne g (by omega)), h.bl.grown hgr (Nat.le_trans hge h.k.1) (fun k hk => by have := hr k hk; omega), ?_, blk_grown h.zb hgr (hne _ (by omega)), blk_grown h.vb hgr (hne _ (by omega))⟩;refine h.k.trans (Kbt.of_grown hgr g) ?_
 cases hv : row with
 | none => exact .inl rfl
 | some k => exact .inr ⟨k, rfl, by have := hr k hv; omega⟩
theorem VS.far (h : VS w0 w g b kd W a d e B kv lv ks l) (i j : Nat) (hi : i = w.heap.size ∨ i = w.heap.size + 1) (x : Value) {kv2 lv2 : Value} {ks2 : List ByteArray} {l2 : List S44} (h2 : Kd.string.R 9 W (w.heap.size + 2) (fun _ => True) kv2 ks2) (h3 : k44.R 44 W (w.heap.size + 2) (fun k => some k ≠ kv2.ownBlock) lv2 l2) :
  IsS96 w0 (W.setCell ⟨i, j, none⟩ x) g b a d e B ∧ Below w0.heap.size w0 (W.setCell ⟨i, j, none⟩ x) ∧ Kbt w (W.setCell ⟨i, j, none⟩ x) g none ∧
  Kd.string.R 9 (W.setCell ⟨i, j, none⟩ x) (w.heap.size + 2) (fun _ => True) kv2 ks2 ∧ k44.R 44 (W.setCell ⟨i, j, none⟩ x) (w.heap.size + 2) (fun k => some k ≠ kv2.ownBlock) lv2 l2 := by
 have hge := h.ge;have hlt := h.lt
 have hi2 : g ≠ i ∧ w.heap.size ≤ i ∧ i < w.heap.size + 2 := by omega
 refine ⟨h.i.far (p := ⟨i, j, none⟩) hi2.1 x, bstq h.bl (by show w0.heap.size ≤ i; omega), keep_far (p := ⟨i, j, none⟩) h.k hi2.2.1 x, ?_, ?_⟩
 ·exact Kd.R_mono (Kd.R_far (p := ⟨i, j, none⟩) (Kd.R_bound h2) (fun k hk => by have h2 := hk.2.1; show k ≠ i; omega) x) (fun _ _ => trivial)
 ·exact Kd.R_mono (Kd.R_far (p := ⟨i, j, none⟩) (Kd.R_bound h3) (fun k hk => by have h2 := hk.2.1; show k ≠ i; omega) x) (fun _ hk => hk.1)
theorem VS.appL (h : VS w0 w g b kd W a d e B kv lv ks l) {l2 : List S44} (hR : k44.R 44 W' (w.heap.size + 2) (fun k => some k ≠ kv.ownBlock) v1 l2) (hgr : W.grownBy W' lv.ownBlock) :
  VS w0 w g b kd (W'.setCell ⟨w.heap.size + 1, 3, none⟩ v1) a d e B kv v1 ks l2 := by
 obtain ⟨h1, h2, h3, h4, h5⟩ := h.grown0 hgr (Kd.R_base h.own);have hk2 : Kd.string.R 9 W' (w.heap.size + 2) (fun _ => True) kv ks := Kd.R_grown2 h.own2 rfl hgr (fun k hk e => (h.own.1 k hk) e);have hge := h.ge;have hlt := h.lt
 refine ⟨h1.far (p := ⟨w.heap.size + 1, 3, none⟩) (by show g ≠ w.heap.size + 1; omega) _, bstq h2 (by show w0.heap.size ≤ w.heap.size + 1; omega), keep_far (p := ⟨w.heap.size + 1, 3, none⟩) h3 (by show w.heap.size ≤ w.heap.size + 1; omega) _,
  blk_far h4 (p := ⟨w.heap.size + 1, 3, none⟩) (by show w.heap.size ≠ w.heap.size + 1; omega) _, blk_set h5 3 v1, ?_, ?_, h.lt⟩
 ·exact Kd.R_mono (Kd.R_far (p := ⟨w.heap.size + 1, 3, none⟩) (Kd.R_bound hk2) (fun k hk => by have h2 := hk.2.1; show k ≠ w.heap.size + 1; omega) _) (fun _ _ => trivial)
 ·exact Kd.R_mono (Kd.R_far (p := ⟨w.heap.size + 1, 3, none⟩) (Kd.R_bound hR) (fun k hk => by have h2 := hk.2.1; show k ≠ w.heap.size + 1; omega) _) (fun _ hk => hk.1)
theorem VS.appK (h : VS w0 w g b kd W a d e B kv lv ks l) {ks2 : List ByteArray} (hR : Kd.string.R 9 W' (w.heap.size + 2) (fun _ => True) v1 ks2) (hgr : W.grownBy W' kv.ownBlock) (hat : v1.ownBlock = kv.ownBlock ∨ ∃ b, v1.ownBlock = some b ∧ W.heap.size ≤ b) :
  VS w0 w g b kd (W'.setCell ⟨w.heap.size + 1, 2, none⟩ v1) a d e B v1 lv ks2 l := by
 obtain ⟨h1, h2, h3, h4, h5⟩ := h.grown0 hgr (Kd.R_base h.own2);have hk2 : k44.R 44 W' (w.heap.size + 2) (fun k => True ∧ some k ≠ v1.ownBlock) lv l := Kd.R_after (Kd.R_mono h.own (fun _ hk => ⟨trivial, hk⟩)) hgr hat;have hge := h.ge;have hlt := h.lt
 refine ⟨h1.far (p := ⟨w.heap.size + 1, 2, none⟩) (by show g ≠ w.heap.size + 1; omega) _, bstq h2 (by show w0.heap.size ≤ w.heap.size + 1; omega), keep_far (p := ⟨w.heap.size + 1, 2, none⟩) h3 (by show w.heap.size ≤ w.heap.size + 1; omega) _,
  blk_far h4 (p := ⟨w.heap.size + 1, 2, none⟩) (by show w.heap.size ≠ w.heap.size + 1; omega) _, blk_set h5 2 v1, ?_, ?_, h.lt⟩
 ·exact Kd.R_mono (Kd.R_far (p := ⟨w.heap.size + 1, 2, none⟩) (Kd.R_bound hR) (fun k hk => by have h2 := hk.2.1; show k ≠ w.heap.size + 1; omega) _) (fun _ _ => trivial)
 ·exact Kd.R_mono (Kd.R_far (p := ⟨w.heap.size + 1, 2, none⟩) (Kd.R_bound hk2) (fun k hk => by have h2 := hk.2.1; show k ≠ w.heap.size + 1; omega) _) (fun _ hk => hk.1.2)
theorem VS.fin (h : VS w0 w g b kd W a d e B kv lv ks l) : ∀ W', (((W.setCell ⟨w.heap.size, 0, none⟩ (.int .i64 kd)).setCell ⟨w.heap.size, 1, none⟩ (.string ⟨#[]⟩)).setCell ⟨w.heap.size, 2, none⟩ kv).setCell ⟨w.heap.size, 3, none⟩ lv = W' →
  VPost w0 w g b (⟨kd, ⟨#[]⟩, ks, l⟩, a, d, e, B) (.returned (.agg #[.int .i64 kd, .string ⟨#[]⟩, kv, lv])) W' ∧
  W'.cell? ⟨w.heap.size, 0, none⟩ = some (.int .i64 kd) ∧ W'.cell? ⟨w.heap.size, 1, none⟩ = some (.string ⟨#[]⟩) ∧ W'.cell? ⟨w.heap.size, 2, none⟩ = some kv ∧ W'.cell? ⟨w.heap.size, 3, none⟩ = some lv := by
 rintro _ rfl;have hn := Nat.ne_of_lt h.lt;have hs := h.ge;have hB := blk_set (blk_set (blk_set (blk_set h.zb 0 (.int .i64 kd)) 1 (.string ⟨#[]⟩)) 2 kv) 3 lv
 have st2 : ∀ (W : World) (j : Nat) (u : Value), Kd.string.R 9 W (w.heap.size + 2) (fun _ => True) kv ks → Kd.string.R 9 (W.setCell ⟨w.heap.size, j, none⟩ u) (w.heap.size + 2) (fun _ => True) kv ks := fun W j u hR =>
  Kd.R_mono (Kd.R_far (p := ⟨w.heap.size, j, none⟩) (Kd.R_bound hR) (fun k hk => by have h2 := hk.2.1; show k ≠ w.heap.size; omega) u) (fun _ _ => trivial)
 have st3 : ∀ (W : World) (j : Nat) (u : Value), k44.R 44 W (w.heap.size + 2) (fun k => some k ≠ kv.ownBlock) lv l → k44.R 44 (W.setCell ⟨w.heap.size, j, none⟩ u) (w.heap.size + 2) (fun k => some k ≠ kv.ownBlock) lv l := fun W j u hR =>
  Kd.R_mono (Kd.R_far (p := ⟨w.heap.size, j, none⟩) (Kd.R_bound hR) (fun k hk => by have h2 := hk.2.1; show k ≠ w.heap.size; omega) u) (fun _ hk => hk.1)
 refine ⟨⟨kv, lv, rfl, Kd.R_lower (st2 _ _ _ (st2 _ _ _ (st2 _ _ _ (st2 _ _ _ h.own2)))) (Nat.le_add_right _ 2), Kd.R_lower (st3 _ _ _ (st3 _ _ _ (st3 _ _ _ (st3 _ _ _ h.own)))) (Nat.le_add_right _ 2), (((h.i.far (p := ⟨w.heap.size, 0, none⟩) hn _).far (p := ⟨w.heap.size, 1, none⟩) hn _).far (p := ⟨w.heap.size, 2, none⟩) hn _).far (p := ⟨w.heap.size, 3, none⟩) hn _, ?_, ?_⟩, (bceq hB 0).trans rfl, (bceq hB 1).trans rfl, (bceq hB 2).trans rfl, (bceq hB 3).trans rfl⟩
 ·exact bstq (bstq (bstq (bstq h.bl hs) hs) hs) hs
 ·exact keep_far (p := ⟨w.heap.size, 3, none⟩) (keep_far (p := ⟨w.heap.size, 2, none⟩) (keep_far (p := ⟨w.heap.size, 1, none⟩) (keep_far (p := ⟨w.heap.size, 0, none⟩) h.k (Nat.le_refl _) _) (Nat.le_refl _) _) (Nat.le_refl _) _) (Nat.le_refl _) _
theorem VS.start {kd : Int} (hI : IsS96 w0 w g b a d e B) (hB : Below w0.heap.size w0 w) (hlt : g < w.heap.size) : VS w0 w g b kd ((w.alloc Z44).alloc (.cells #[.int .i64 kd, .string ⟨#[]⟩, .slice none 0 0, .slice none 0 0] 44 (0, 0))) a d e B (.slice none 0 0) (.slice none 0 0) [] [] := by
 refine ⟨(hI.alloc _).alloc _, bal (bal hB _) _, kal (kal (Kbt.refl _ _ _) _) _, ?_, ?_, Kd.R_nil _ _ _ _ _, Kd.R_nil _ _ _ _ _, hlt⟩
 ·exact blk_grown (blk_new w Z44) (World.grownBy_alloc _ _ none) (by simp)
 ·have := blk_new (w.alloc Z44) (.cells #[.int .i64 kd, .string ⟨#[]⟩, .slice none 0 0, .slice none 0 0] 44 (0, 0))
  simpa using this
end
theorem info_44 : (Tryd.prog.info? 44).map (fun i => (i.zero, i.size, i.bytes)) = some (some (.agg #[(.int .i64 0), (.string ⟨#[]⟩), (.slice none 0 0), (.slice none 0 0)]), 4, 72) := by kernel_rfl
end Go.Proofs.YteighppcdpaekaaDoor.Rf
end
section
namespace Go.Proofs.YteighppcdpaekaaDoor.Rf
open Go.RowKit Go.Proofs.YteighppcdpaekaaDoorW.PrintWords Go.Proofs.YteighppcdpaekaaDoor Go.Proofs.YteighppcdpaekaaDoor.P
set_option maxRecDepth 100000 in
set_option maxHeartbeats 3200000 in
theorem array_calls {V : Int → Int → Int → Int → Option RVal} {b : List Int} (hV : VOK b V) (k g : Nat) (a d e B : Int) (r : RVal) (w0 w : World) (hI : IsS96 w0 w g b a d e B) (hB : Below w0.heap.size w0 w) (hlt : g < w.heap.size) (h : arrF V k b a d e B = some r) :
  Calls Tryd.prog 67 #[.pointer (some ⟨g, 0, none⟩)] w (VPost w0 w g b r) := by
 have N := Sdq.mk (VS.start (kd := 5) hI hB hlt);have h' := Option.bind_eq_some_iff.mp h;obtain ⟨⟨t, a1, d1, e1, B1⟩, hs, h'⟩ := h';have H := Sdq.mk h';have hse := Sdq.mk hs;clear hI hB h h' hs;go_enter Tryd.func67, Tryd.ntmps67
 go_upto_region 2 with fail
 refine absP (fun W => VS w0 w g b 5 W a d e B _ _ _ _) N.out ?_;clear N;intro w1 N1;have N := Sdq.mk N1;clear N1
 go_wp2_with fail
 refine (RRq_enter.calls k g b a d e B 93 t a1 d1 e1 B1 w0 _ N.out.i N.out.bl hse.out).mono ?_;rintro en w2 ⟨rfl, hi, hb, hk⟩;have Nn := Sdq.mk (N.out.step hi hb hk);clear N hse hi hb hk;have N := Nn;clear Nn
 cases t with
 | true =>
  have h := H.out;obtain rfl := Option.some.inj (show some _ = some r from h);clear H h;obtain ⟨⟨x0, x1, x2, x3⟩, ⟨y0, y1, y2, y3⟩, ⟨f0, f1, f2, f3⟩, ⟨f4, f5⟩, c1, c3⟩ := N.out.cells
  go_wp2_with fail
  have F := N.out.fin _ rfl;clear N x0 x1 x2 x3 y0 y1 y2 y3 f0 f1 f2 f3 f4 f5 c1 c3;generalize World.setCell _ _ _ = wf at F ⊢;obtain ⟨FP, c0, c1, c2, c3⟩ := F;exact bodyPost_ret (v := .agg #[.int .i64 5, .string ⟨#[]⟩, .slice none 0 0, .slice none 0 0]) (by simp [results, Tryd.results67, go_sem, c0, c1, c2, c3]) rfl FP
 | false =>
  have h : itemsF V k b k [] true a1 d1 e1 B1 = some r := H.out;clear H;have H := Sdq.mk h;clear h
  go_wp2_with fail
  go_loopg [4] k (fun kq s4 wc => ∃ (m : Bool) (a1 d1 e1 B1 : Int) (lv : Value) (l : List S44), s4 = .bool m ∧ Sdq (itemsF V k b kq l m a1 d1 e1 B1 = some r) ∧ VS w0 w g b 5 wc a1 d1 e1 B1 (.slice none 0 0) lv [] l)
  case atStart => exact ⟨true, _, _, _, _, _, _, rfl, H, N.out⟩
  case round =>
   clear H N;obtain ⟨m, a2, d2, e2, B2, lv, l, rfl, H, Nn⟩ := hrel;have N := Sdq.mk Nn;clear Nn
   obtain ⟨A1, n1, q1, rfl⟩ : ∃ A n c, lv = .slice A n c := by
    obtain ⟨A, c, e⟩ := Kd.R_slice N.out.own;exact ⟨_, _, _, e⟩
   cases gk with
   | zero => exact absurd H.out (by simp [itemsF])
   | succ j =>
    obtain ⟨⟨x0, x1, x2, x3⟩, ⟨y0, y1, y2, y3⟩, ⟨f0, f1, f2, f3⟩, ⟨f4, f5⟩, c1, c3⟩ := N.out.cells
    rcases (show (m = true ∧ (e2 == 0) = true) ∨ (m = true ∧ (e2 == 0) = false) ∨ m = false from by cases m <;> cases (e2 == 0) <;> simp) with ⟨rfl, q⟩ | ⟨rfl, q⟩ | rfl
    ·have h := H.out
     clear H;rw [itemsF, if_pos (by rw [q]; rfl)] at h;replace h := Option.bind_eq_some_iff.mp h;obtain ⟨⟨⟨t0, t1, t2, t3⟩, a3, d3, e3, B3⟩, hv, h⟩ := h
     have hlen : l.length < 1000000 := Classical.byContradiction fun hc => by
      rw [if_neg hc] at h
      simp at h
     rw [if_pos hlen] at h;replace h := Option.bind_eq_some_iff.mp h;obtain ⟨⟨u, a4, d4, e4, B4⟩, hm, h⟩ := h;have hme := Sdq.mk hm;clear hm;have H := Sdq.mk h;have hse := Sdq.mk hv;clear h hv
     go_wp2_with fail
     refine (hV g a2 d2 e2 B2 _ w0 _ N.out.i N.out.bl hse.out).mono ?_;rintro en w3 ⟨v2, v3, rfl, hR2, hR3, hi, hb, hk⟩
     obtain ⟨A2, n2, q2, rfl⟩ : ∃ A n c, v2 = .slice A n c := by
      obtain ⟨A, c, e⟩ := Kd.R_slice hR2;exact ⟨_, _, _, e⟩
     obtain ⟨A3, n3, q3, rfl⟩ : ∃ A n c, v3 = .slice A n c := by
      obtain ⟨A, c, e⟩ := Kd.R_slice hR3;exact ⟨_, _, _, e⟩
     have hrs := N.out.k.1
     have hlv := fun k e => Kd.R_lt N.out.own k e
     have hwr : w.heap.size + 2 ≤ wr.heap.size := by have := blk_lt N.out.vb; omega
     have hsz := hk.1;have Nn := Sdq.mk (N.out.step hi hb hk);clear N hi hb hk x0 x1 x2 x3 y0 y1 y2 y3 f0 f1 f2 f3 f4 f5 c1 c3 hse;have N := Nn;clear Nn
     go_upto_region 7 with fail
     have hx := blk_new w3 (.cells #[.int .i64 t0, .string t1, .slice A2 n2 q2, .slice A3 n3 q3] 44 (0, 0));have hR2' := Kd.R_grown hR2 (World.grownBy_alloc w3 (.cells #[.int .i64 t0, .string t1, .slice A2 n2 q2, .slice A3 n3 q3] 44 (0, 0)) none) (fun _ _ => by simp);have hR3' := Kd.R_grown hR3 (World.grownBy_alloc w3 (.cells #[.int .i64 t0, .string t1, .slice A2 n2 q2, .slice A3 n3 q3] 44 (0, 0)) none) (fun _ _ => by simp);have hM := k44_mkM _ _ (fun _ => True) ⟨t0, t1, t2, t3⟩ hR2' (Kd.R_mono hR3' (fun _ _ => trivial));replace hM := k44.M_lower (show w.heap.size + 2 ≤ wr.heap.size from hwr) (k44.M_mono (ok' := fun k => wr.heap.size ≤ k) (fun k hk => hk.2.1) (k44.M_bound hM));have Nn := Sdq.mk (N.out.alloc (.cells #[.int .i64 t0, .string t1, .slice A2 n2 q2, .slice A3 n3 q3] 44 (0, 0)));clear N hR2 hR3 hR2' hR3';have N := Nn;clear Nn;have hs4 : wr.heap.size ≤ (w3.alloc (.cells #[.int .i64 t0, .string t1, .slice A2 n2 q2, .slice A3 n3 q3] 44 (0, 0))).heap.size := Nat.le_trans hsz (by simp);generalize w3.alloc (.cells #[.int .i64 t0, .string t1, .slice A2 n2 q2, .slice A3 n3 q3] 44 (0, 0)) = w4 at hx hM N hs4 ⊢;obtain ⟨x0, x1, x2, x3⟩ := Rd.blk4 hx;clear hx;obtain ⟨_, ⟨y0, y1, y2, y3⟩, _, ⟨f4, f5⟩, _, _⟩ := N.out.cells;have hM' := Sdq.mk hM;clear hM;have hwr' := Sdq.mk hwr;have hlv' := Sdq.mk hlv;clear hlv hrs
     go_wp2_with (first
      | ((with_reducible refine gate_builtin (b := .append) (xs := #[.tmp 21, .tmp 23]) rfl ?_); at_builtin; refine Kd.R_append k44 (w0 := w4) (w.heap.size + 2) rfl (.tmp 21) (.tmp 23) 42 44 _ 72 rfl Tryd.underlying42 info_44 rfl (by decide) (by decide) (.slice A1 n1 q1) l ⟨t0, t1, t2, t3⟩ [.int .i64 t0, .string t1, .slice A2 n2 q2, .slice A3 n3 q3] (fun k => some k ≠ (Value.slice none 0 0).ownBlock) (fun k => wr.heap.size ≤ k) rfl (by first | rfl | simp) hM'.out (fun k hk => ⟨by simp [Value.ownBlock], fun e => by have := hlv'.out k e.symm; omega⟩) (fun _ _ => by simp [Value.ownBlock]) N.out.own (Below.refl _ _) (by have := hwr'.out; omega) (by omega) ?_; intro v1 w5 hR5 hB5 hg5 hat5; obtain ⟨A5, n5, q5, rfl⟩ : ∃ A n c, v1 = .slice A n c := (by obtain ⟨A, c, e⟩ := Kd.R_slice hR5; exact ⟨_, _, _, e⟩); obtain ⟨_, _, _, _, hv5⟩ := N.out.grown0 hg5 (Kd.R_base N.out.own); have y5 := (Rd.blk4 hv5).2.2.2; have f6 := bfz hv5 3; clear hv5))
     have Nn := Sdq.mk (N.out.appL hR5 hg5);clear N hR5 hB5 hg5 hat5 x0 x1 x2 x3 y0 y1 y2 y3 f4 f5 y5 f6;have N := Nn;clear Nn;refine (RRq_more.calls k g b a3 d3 e3 B3 93 u a4 d4 e4 B4 w0 _ N.out.i N.out.bl hme.out).mono ?_;rintro en w6 ⟨rfl, hi, hb, hk⟩;have Nn := Sdq.mk (N.out.step hi hb hk);clear N hi hb hk hme;have N := Nn;clear Nn
     go_wp2_with fail
     go_roundg j
     case measure => omega
     exact ⟨u, a4, d4, e4, B4, _, _, rfl, H, N.out⟩
    all_goals
     have h := H.out;clear H;rw [itemsF, if_neg (by first | (rw [q]; decide) | simp)] at h;obtain rfl := Option.some.inj h;clear h
     go_wp2_with fail
     have F := N.out.fin _ rfl;clear N x0 x1 x2 x3 y0 y1 y2 y3 f0 f1 f2 f3 f4 f5 c1 c3;generalize World.setCell _ _ _ = wf at F ⊢;obtain ⟨FP, c0, c1, c2, c3⟩ := F;exact bodyPost_ret (v := .agg #[.int .i64 5, .string ⟨#[]⟩, .slice none 0 0, .slice A1 n1 q1]) (by simp [results, Tryd.results67, go_sem, c0, c1, c2, c3]) rfl FP
end Go.Proofs.YteighppcdpaekaaDoor.Rf
end
section
namespace Go.Proofs.YteighppcdpaekaaDoor.Rf
open Go.RowKit Go.Proofs.YteighppcdpaekaaDoorW.PrintWords Go.Proofs.YteighppcdpaekaaDoor Go.Proofs.YteighppcdpaekaaDoor.P
theorem key_at {w : World} {A : Option Addr} {n : Nat} {xs : List ByteArray} (h : Kd.C Kd.string w A n xs) {i : Nat} (hi : i < n) : ∃ ad, A = some ad ∧ w.cell? (ad.add i) = some (.string (xs.getD i ⟨#[]⟩)) := by
 obtain ⟨ad, c, e, _, hK, hc⟩ := Kd.C_get h ⟨#[]⟩ (i : Int) (by omega) (by omega);obtain rfl : c = [.string (xs.getD i ⟨#[]⟩)] := hK;refine ⟨ad, e, ?_⟩;have := hc 0 _ rfl;rw [Int.toNat_natCast] at this
 simpa [Kd.string, Kd.scalar] using this
theorem toList_inj {x y : ByteArray} (h : x.toList = y.toList) : x = y := by
 rw [ByteArray.toList_eq, ByteArray.toList_eq] at h;exact ByteArray.ext (Array.toList_inj.1 h)
theorem key_ne {x y : ByteArray} (h : ¬ x = y) : (x.toList == y.toList) = false := by
 rw [beq_eq_false_iff_ne]
 exact fun e => h (toList_inj e)
structure XS (W : World) (base top nx : Nat) (t0 : Int) (t1 : ByteArray) (v2 v3 : Value) (t2 : List ByteArray) (t3 : List S44) : Prop where
 hx : W.heap[nx]? = some (.cells #[.int .i64 t0, .string t1, v2, v3] 44 (0, 0))
 r2 : Kd.string.R 9 W base (fun k => base ≤ k ∧ k < top) v2 t2
 r3 : k44.R 44 W base (fun k => base ≤ k ∧ k < top) v3 t3
 le : base ≤ nx
theorem XS.mk' {W : World} {base : Nat} {t0 : Int} {t1 : ByteArray} {v2 v3 : Value} {t2 : List ByteArray} {t3 : List S44} (h2 : Kd.string.R 9 W base (fun _ => True) v2 t2) (h3 : k44.R 44 W base (fun k => some k ≠ v2.ownBlock) v3 t3) (hb : base ≤ W.heap.size) :
  XS (W.alloc (.cells #[.int .i64 t0, .string t1, v2, v3] 44 (0, 0))) base W.heap.size W.heap.size t0 t1 v2 v3 t2 t3 :=
 ⟨blk_new _ _, Kd.R_grown (Kd.R_mono (Kd.R_bound h2) (fun k hk => ⟨hk.2.1, hk.2.2.1⟩)) (World.grownBy_alloc W _ none) (fun _ _ => by simp), Kd.R_grown (Kd.R_mono (Kd.R_bound h3) (fun k hk => ⟨hk.2.1, hk.2.2.1⟩)) (World.grownBy_alloc W _ none) (fun _ _ => by simp), hb⟩
theorem XS.grown {W W' : World} {base top nx : Nat} {t0 : Int} {t1 : ByteArray} {v2 v3 : Value} {t2 : List ByteArray} {t3 : List S44} (h : XS W base top nx t0 t1 v2 v3 t2 t3) {row : Option Nat} (hg : W.grownBy W' row) (hr : ∀ k, row = some k → k < base) : XS W' base top nx t0 t1 v2 v3 t2 t3 := by
 have := h.le;exact ⟨blk_grown h.hx hg (fun e => by have := hr _ e.symm; omega), Kd.R_grown h.r2 hg (fun k hk e => by have := hr _ e.symm; omega), Kd.R_grown h.r3 hg (fun k hk e => by have := hr _ e.symm; omega), h.le⟩
theorem XS.set {W : World} {base top nx : Nat} {t0 : Int} {t1 : ByteArray} {v2 v3 : Value} {t2 : List ByteArray} {t3 : List S44} (h : XS W base top nx t0 t1 v2 v3 t2 t3) (p : Addr) (hp : p.block < base) (u : Value) : XS (W.setCell p u) base top nx t0 t1 v2 v3 t2 t3 := by
 have := h.le;exact ⟨blk_far h.hx (by omega) u, Kd.R_far h.r2 (fun k hk => by omega) u, Kd.R_far h.r3 (fun k hk => by omega) u, h.le⟩
theorem XS.M {W : World} {base top nx : Nat} {t0 : Int} {t1 : ByteArray} {v2 v3 : Value} {t2 : List ByteArray} {t3 : List S44} (h : XS W base top nx t0 t1 v2 v3 t2 t3) {base' : Nat} (hb : base' ≤ base) : k44.M W base' (fun k => base ≤ k ∧ k < top) ⟨t0, t1, t2, t3⟩ [.int .i64 t0, .string t1, v2, v3] :=
 k44.M_lower hb (k44_mkM _ _ _ ⟨t0, t1, t2, t3⟩ h.r2 h.r3)
theorem info_9 : (Tryd.prog.info? 9).map (fun i => (i.zero, i.size, i.bytes)) = some (some (.string ⟨#[]⟩), 1, 16) := by kernel_rfl
set_option maxRecDepth 100000 in
set_option maxHeartbeats 3200000 in
theorem object_calls {V : Int → Int → Int → Int → Option RVal} {b : List Int} (hV : VOK b V) (k g : Nat) (a d e B : Int) (r : RVal) (w0 w : World) (hI : IsS96 w0 w g b a d e B) (hB : Below w0.heap.size w0 w) (hlt : g < w.heap.size) (h : objF V k b a d e B = some r) :
  Calls Tryd.prog 66 #[.pointer (some ⟨g, 0, none⟩)] w (VPost w0 w g b r) := by
 have N := Sdq.mk (VS.start (kd := 6) hI hB hlt);have h' := Option.bind_eq_some_iff.mp h;obtain ⟨⟨t, a1, d1, e1, B1⟩, hs, h'⟩ := h';have H := Sdq.mk h';have hse := Sdq.mk hs;clear hI hB h h' hs;go_enter Tryd.func66, Tryd.ntmps66
 go_upto_region 2 with fail
 refine absP (fun W => VS w0 w g b 6 W a d e B _ _ _ _) N.out ?_;clear N;intro w1 N1;have N := Sdq.mk N1;clear N1
 go_wp2_with fail
 refine (RRq_enter.calls k g b a d e B 125 t a1 d1 e1 B1 w0 _ N.out.i N.out.bl hse.out).mono ?_;rintro en w2 ⟨rfl, hi, hb, hk⟩;have Nn := Sdq.mk (N.out.step hi hb hk);clear N hse hi hb hk;have N := Nn;clear Nn
 cases t with
 | true =>
  have h := H.out;obtain rfl := Option.some.inj (show some _ = some r from h);clear H h;obtain ⟨⟨x0, x1, x2, x3⟩, ⟨y0, y1, y2, y3⟩, ⟨f0, f1, f2, f3⟩, ⟨f4, f5⟩, c1, c3⟩ := N.out.cells
  go_wp2_with fail
  have F := N.out.fin _ rfl;clear N x0 x1 x2 x3 y0 y1 y2 y3 f0 f1 f2 f3 f4 f5 c1 c3;generalize World.setCell _ _ _ = wf at F ⊢;obtain ⟨FP, c0, c1, c2, c3⟩ := F;exact bodyPost_ret (v := .agg #[.int .i64 6, .string ⟨#[]⟩, .slice none 0 0, .slice none 0 0]) (by simp [results, Tryd.results66, go_sem, c0, c1, c2, c3]) rfl FP
 | false =>
  have h : pairsF V k b k [] [] true a1 d1 e1 B1 = some r := H.out;clear H;have H := Sdq.mk h;clear h
  go_wp2_with fail
  go_loopg [4] k (fun kq s4 wc => ∃ (m : Bool) (a1 d1 e1 B1 : Int) (kv lv : Value) (ks : List ByteArray) (l : List S44), s4 = .bool m ∧ Sdq (pairsF V k b kq ks l m a1 d1 e1 B1 = some r) ∧ VS w0 w g b 6 wc a1 d1 e1 B1 kv lv ks l)
  case atStart => exact ⟨true, _, _, _, _, _, _, _, _, rfl, H, N.out⟩
  case round =>
   clear H N;obtain ⟨m, a2, d2, e2, B2, kv, lv, ks, l, rfl, H, Nn⟩ := hrel;have N := Sdq.mk Nn;clear Nn
   obtain ⟨A1, n1, q1, rfl⟩ : ∃ A n c, lv = .slice A n c := by
    obtain ⟨A, c, e⟩ := Kd.R_slice N.out.own;exact ⟨_, _, _, e⟩
   obtain ⟨A0, q0, rfl⟩ : ∃ A c, kv = .slice A ks.length c := Kd.R_slice N.out.own2
   cases gk with
   | zero => exact absurd H.out (by simp [pairsF])
   | succ j =>
    obtain ⟨⟨x0, x1, x2, x3⟩, ⟨y0, y1, y2, y3⟩, ⟨f0, f1, f2, f3⟩, ⟨f4, f5⟩, c1, c3⟩ := N.out.cells
    rcases (show (m = true ∧ (e2 == 0) = true) ∨ (m = true ∧ (e2 == 0) = false) ∨ m = false from by cases m <;> cases (e2 == 0) <;> simp) with ⟨rfl, q⟩ | ⟨rfl, q⟩ | rfl
    ·have h := H.out
     clear H;rw [pairsF, if_pos (by rw [q]; rfl)] at h;replace h := Option.bind_eq_some_iff.mp h;obtain ⟨⟨key, ⟨t0, t1, t2, t3⟩, a3, d3, e3, B3⟩, hp, h⟩ := h
     have hlen : l.length < 1000000 ∧ ks.length < 1000000 := Classical.byContradiction fun hc => by
      rw [if_neg hc] at h
      simp at h
     rw [if_pos hlen] at h;obtain ⟨hlen, hlen2⟩ := hlen;replace h := Option.bind_eq_some_iff.mp h;obtain ⟨⟨u, a4, d4, e4, B4⟩, hm, h⟩ := h;have hme := Sdq.mk hm;have H := Sdq.mk h;clear hm h;unfold pairF at hp;replace hp := Option.bind_eq_some_iff.mp hp;obtain ⟨⟨key', ba, bd, be, bB⟩, p1, hp⟩ := hp;replace hp := Option.bind_eq_some_iff.mp hp;obtain ⟨⟨ca, cd, ce, cB⟩, p2, hp⟩ := hp;replace hp := Option.bind_eq_some_iff.mp hp;obtain ⟨⟨da, dd, de, dB⟩, p3, hp⟩ := hp;replace hp := Option.bind_eq_some_iff.mp hp;obtain ⟨⟨ea, ed, ee, eB⟩, p4, hp⟩ := hp;replace hp := Option.bind_eq_some_iff.mp hp;obtain ⟨⟨fa, fd, fe, fB⟩, p5, hp⟩ := hp;replace hp := Option.bind_eq_some_iff.mp hp;obtain ⟨v, p6, hp⟩ := hp;have hp := Option.some.inj hp;obtain rfl : key' = key := congrArg Prod.fst hp;obtain rfl : v = (⟨t0, t1, t2, t3⟩, a3, d3, e3, B3) := congrArg Prod.snd hp;clear hp;have P1 := Sdq.mk p1;have P2 := Sdq.mk p2;have P3 := Sdq.mk p3;have P4 := Sdq.mk p4;have P5 := Sdq.mk p5;have P6 := Sdq.mk p6;clear p1 p2 p3 p4 p5 p6;have hl2 := Sdq.mk hlen2;clear hlen2
     go_wp2_with fail
     refine (RRq_text.calls k g b a2 d2 e2 B2 key' ba bd be bB w0 _ N.out.i N.out.bl P1.out).mono ?_;rintro en w3 ⟨rfl, hi, hb, hk⟩
     have hwr : w.heap.size + 2 ≤ wr.heap.size := by
      have := blk_lt N.out.vb
      omega
     have hwr' := Sdq.mk hwr;have Nn := Sdq.mk (N.out.step hi hb hk);clear N hi hb hk x0 x1 x2 x3 y0 y1 y2 y3 f0 f1 f2 f3 f4 f5 c1 c3 P1 hwr;have N := Nn;clear Nn
     go_upto_block 2 with fail
     go_cut [7] (fun s7 wc => VS w0 w g b 6 wc ca cd ce cB (.slice A0 ks.length q0) (.slice A1 n1 q1) ks l)
     case first =>
      go_wp2_with fail
      go_loopg [7] ks.length (fun kq s7 wc => ∃ (i : Nat) (a1 d1 e1 B1 : Int), s7 = .int .i64 (i : Int) ∧ Sdq (i + kq = ks.length) ∧ Sdq (dupF (ks.drop i) key' a2 a1 d1 e1 B1 = some (ca, cd, ce, cB)) ∧ VS w0 w g b 6 wc a1 d1 e1 B1 (.slice A0 ks.length q0) (.slice A1 n1 q1) ks l)
      case atStart => exact ⟨0, _, _, _, _, rfl, ⟨by omega⟩, P2, N.out⟩
      case round =>
       clear N P2 H hme P3 P4 P5 P6;obtain ⟨i, ga, gd, ge, gB, rfl, hik, hdup, Nn⟩ := hrel;have N := Sdq.mk Nn;clear Nn;obtain ⟨⟨x0, x1, x2, x3⟩, ⟨y0, y1, y2, y3⟩, ⟨f0, f1, f2, f3⟩, ⟨f4, f5⟩, c1, c3⟩ := N.out.cells
       cases gk with
       | zero =>
        obtain rfl : i = ks.length := hik.out;have hd := hdup.out;rw [List.drop_length] at hd
        obtain ⟨rfl, rfl, rfl, rfl⟩ : ga = ca ∧ gd = cd ∧ ge = ce ∧ gB = cB := by simpa [dupF] using hd
        clear hd hdup hik
        go_wp2_with fail
        go_meet
        exact N.out
       | succ jj =>
        have hi : i < ks.length := by have := hik.out; omega
        obtain ⟨ad, hA, hkey⟩ := key_at (Kd.R_reads' N.out.own2).2.2 hi;have hd := hdup.out;rw [List.drop_eq_getElem_cons hi] at hd;subst hA;rw [show ks.getD i ⟨#[]⟩ = ks[i] by simp [hi]] at hkey
        have hiz : (i : Int) < (ks.length : Int) := by omega
        have hw1 : wrap64 ((i : Int) + 1) = ((i + 1 : Nat) : Int) := by have := hl2.out; unfold wrap64; omega
        by_cases hc : ks[i] = key'
        ·rw [hc] at hkey
         have hst : ∃ e' B', RRq_fail.f b ga gd ge gB 23 a2 = some (ga, gd, e', B') ∧ dupF (ks.drop (i + 1)) key' a2 ga gd e' B' = some (ca, cd, ce, cB) := by
          simp only [dupF] at hd;rw [if_pos hc] at hd;by_cases he : ge = 0
          ·rw [if_pos he] at hd
           exact ⟨23, a2, by rw [he]; exact fail_0 _ _ _, hd⟩
          ·rw [if_neg he] at hd
           exact ⟨ge, gB, fail_bad he _ _, hd⟩
         clear hd hc;obtain ⟨e', B', hf, hd⟩ := hst;have hd := Sdq.mk hd;have hf := Sdq.mk hf
         go_wp2_with fail
         refine (RRq_fail.calls g b ga gd ge gB 23 a2 ga gd e' B' w0 _ N.out.i N.out.bl hf.out).mono ?_;rintro en w4 ⟨rfl, hi4, hb, hk⟩;have Nn := Sdq.mk (N.out.step hi4 hb hk);clear N hi4 hb hk x0 x1 x2 x3 y0 y1 y2 y3 f0 f1 f2 f3 f4 f5 c1 c3 hkey hf
         go_wp2_with fail
         go_roundg jj
         case measure => omega
         exact ⟨i + 1, _, _, _, _, by rw [← hw1], ⟨by have := hik.out; omega⟩, by assumption, Nn.out⟩
        ·have hd2 : dupF (ks.drop (i + 1)) key' a2 ga gd ge gB = some (ca, cd, ce, cB) := by
          simp only [dupF] at hd;rw [if_neg hc] at hd;exact hd
         have hd2 := Sdq.mk hd2;clear hd;have hcb := key_ne hc
         go_wp2_with fail
         go_roundg jj
         case measure => omega
         exact ⟨i + 1, _, _, _, _, by rw [← hw1], ⟨by have := hik.out; omega⟩, hd2, N.out⟩
     case rest =>
      clear N P2;have N := Sdq.mk hcut;clear hcut;obtain ⟨⟨x0, x1, x2, x3⟩, ⟨y0, y1, y2, y3⟩, ⟨f0, f1, f2, f3⟩, ⟨f4, f5⟩, c1, c3⟩ := N.out.cells
      go_wp2_with fail
      refine (RRq_blank.calls k g b ca cd ce cB da dd de dB w0 _ N.out.i N.out.bl P3.out).mono ?_;rintro en w10 ⟨rfl, hi, hb, hk⟩;have Nn := Sdq.mk (N.out.step hi hb hk);clear N hi hb hk x0 x1 x2 x3 y0 y1 y2 y3 f0 f1 f2 f3 f4 f5 c1 c3 P3;have N := Nn;clear Nn;obtain ⟨⟨x0, x1, x2, x3⟩, ⟨y0, y1, y2, y3⟩, ⟨f0, f1, f2, f3⟩, ⟨f4, f5⟩, c1, c3⟩ := N.out.cells
      go_wp2_with fail
      refine (RRq_must.calls k g b da dd de dB 58 ea ed ee eB w0 _ N.out.i N.out.bl P4.out).mono ?_;rintro en w11 ⟨rfl, hi, hb, hk⟩;have Nn := Sdq.mk (N.out.step hi hb hk);clear N hi hb hk x0 x1 x2 x3 y0 y1 y2 y3 f0 f1 f2 f3 f4 f5 c1 c3 P4;have N := Nn;clear Nn;obtain ⟨⟨x0, x1, x2, x3⟩, ⟨y0, y1, y2, y3⟩, ⟨f0, f1, f2, f3⟩, ⟨f4, f5⟩, c1, c3⟩ := N.out.cells
      go_wp2_with fail
      refine (RRq_blank.calls k g b ea ed ee eB fa fd fe fB w0 _ N.out.i N.out.bl P5.out).mono ?_;rintro en w12 ⟨rfl, hi, hb, hk⟩;have Nn := Sdq.mk (N.out.step hi hb hk);clear N hi hb hk x0 x1 x2 x3 y0 y1 y2 y3 f0 f1 f2 f3 f4 f5 c1 c3 P5;have N := Nn;clear Nn;obtain ⟨⟨x0, x1, x2, x3⟩, ⟨y0, y1, y2, y3⟩, ⟨f0, f1, f2, f3⟩, ⟨f4, f5⟩, c1, c3⟩ := N.out.cells
      go_wp2_with fail
      refine (hV g fa fd fe fB _ w0 _ N.out.i N.out.bl P6.out).mono ?_;rintro en w13 ⟨v2, v3, rfl, hR2, hR3, hi, hb, hk⟩
      obtain ⟨A2, n2, q2, rfl⟩ : ∃ A n c, v2 = .slice A n c := by
       obtain ⟨A, c, e⟩ := Kd.R_slice hR2;exact ⟨_, _, _, e⟩
      obtain ⟨A3, n3, q3, rfl⟩ : ∃ A n c, v3 = .slice A n c := by
       obtain ⟨A, c, e⟩ := Kd.R_slice hR3;exact ⟨_, _, _, e⟩
      have hlv := Sdq.mk (fun k e => Kd.R_lt N.out.own k e);have hlk := Sdq.mk (fun k e => Kd.R_lt N.out.own2 k e)
      have hwr2 : w.heap.size + 2 ≤ w12.heap.size := by
       have := blk_lt N.out.vb
       omega
      have hwr2' := Sdq.mk hwr2;have hsz := hk.1;have X0 := Sdq.mk (XS.mk' (t0 := t0) (t1 := t1) hR2 hR3 hsz);clear hR2 hR3;have Nn := Sdq.mk (N.out.step hi hb hk);clear N hi hb hk x0 x1 x2 x3 y0 y1 y2 y3 f0 f1 f2 f3 f4 f5 c1 c3 P6;have N := Nn;clear Nn
      go_upto_region 17 with fail
      have Nn := Sdq.mk (N.out.alloc (.cells #[.int .i64 t0, .string t1, .slice A2 n2 q2, .slice A3 n3 q3] 44 (0, 0)));clear N;have N := Nn;clear Nn;have hs4 : w12.heap.size ≤ (w13.alloc (.cells #[.int .i64 t0, .string t1, .slice A2 n2 q2, .slice A3 n3 q3] 44 (0, 0))).heap.size := Nat.le_trans hsz (by simp)
      have hs5 : w13.heap.size ≤ (w13.alloc (.cells #[.int .i64 t0, .string t1, .slice A2 n2 q2, .slice A3 n3 q3] 44 (0, 0))).heap.size := by simp
      generalize w13.alloc (.cells #[.int .i64 t0, .string t1, .slice A2 n2 q2, .slice A3 n3 q3] 44 (0, 0)) = w4 at X0 N hs4 hs5 ⊢;have hs4' := Sdq.mk hs4;have hs5' := Sdq.mk hs5;clear hs4 hs5 hsz hwr2;obtain ⟨_, ⟨y0, y1, y2, y3⟩, _, ⟨f4, f5⟩, _, _⟩ := N.out.cells
      go_upto_region 18 with (first
       | ((with_reducible refine gate_builtin (b := .append) (xs := #[.tmp 53, .tmp 55]) rfl ?_); at_builtin; refine Kd.R_append Kd.string (w0 := w4) (w.heap.size + 2) rfl (.tmp 53) (.tmp 55) 22 9 _ 16 rfl Tryd.underlying22 info_9 rfl (by decide) (by decide) (.slice A0 ks.length q0) ks key' [.string key'] (fun _ => True) (fun _ => False) rfl (by first | rfl | simp) rfl (fun k hk => hk.elim) (fun _ _ => trivial) N.out.own2 (Below.refl _ _) (by have := hwr2'.out; have := hs4'.out; omega) (by have := hl2.out; omega) ?_; intro v1 w5 hR5 hB5 hg5 hat5; obtain ⟨A5, n5, q5, rfl⟩ : ∃ A n c, v1 = .slice A n c := (by obtain ⟨A, c, e⟩ := Kd.R_slice hR5; exact ⟨_, _, _, e⟩); obtain ⟨_, _, _, _, hv5⟩ := N.out.grown0 hg5 (Kd.R_base N.out.own2); have y5 := (Rd.blk4 hv5).2.2.1; have f6 := bfz hv5 2; clear hv5))
      have hne5 : ∀ k, (Value.slice A5 n5 q5).ownBlock = some k → k < w12.heap.size ∨ w4.heap.size ≤ k := fun k e => by
       rcases hat5 with h | ⟨b, h, hle⟩
       ·exact .inl (hlk.out k (h.symm.trans e))
       ·right
        rw [h] at e;cases e;exact hle
      have hne5' := Sdq.mk hne5;have Xn := Sdq.mk ((X0.out.grown hg5 (fun k e => hlk.out k e)).set ⟨w.heap.size + 1, 2, none⟩ (by have := hwr2'.out; show w.heap.size + 1 < w12.heap.size; omega) (.slice A5 n5 q5));have Nn := Sdq.mk (N.out.appK hR5 hg5 hat5);have hs6 := Sdq.mk (show w4.heap.size ≤ (w5.setCell ⟨w.heap.size + 1, 2, none⟩ (.slice A5 n5 q5)).heap.size by have := hg5.size; simpa [World.setCell] using this);clear N X0 hR5 hB5 hg5 hat5 y0 y1 y2 y3 f4 f5 y5 f6 hne5;have N := Nn;clear Nn;generalize w5.setCell ⟨w.heap.size + 1, 2, none⟩ (.slice A5 n5 q5) = w6 at N Xn hs6 ⊢;obtain ⟨x0, x1, x2, x3⟩ := Rd.blk4 Xn.out.hx;obtain ⟨_, ⟨y0, y1, y2, y3⟩, _, ⟨f4, f5⟩, _, _⟩ := N.out.cells
      go_wp2_with (first
       | ((with_reducible refine gate_builtin (b := .append) (xs := #[.tmp 59, .tmp 61]) rfl ?_); at_builtin; refine Kd.R_append k44 (w0 := w6) (w.heap.size + 2) rfl (.tmp 59) (.tmp 61) 42 44 _ 72 rfl Tryd.underlying42 info_44 rfl (by decide) (by decide) (.slice A1 n1 q1) l ⟨t0, t1, t2, t3⟩ [.int .i64 t0, .string t1, .slice A2 n2 q2, .slice A3 n3 q3] (fun k => some k ≠ (Value.slice A5 n5 q5).ownBlock) (fun k => w12.heap.size ≤ k ∧ k < w13.heap.size) rfl (by first | rfl | simp) (Xn.out.M hwr2'.out) (fun k hk => ⟨fun e => by have := hne5'.out k e.symm; have := hs5'.out; omega, fun e => by have := hlv.out k e.symm; omega⟩) (fun k hk e => by have := Kd.R_lt N.out.own2 k e.symm; omega) N.out.own (Below.refl _ _) (by have := hwr2'.out; have := hs4'.out; have := hs6.out; omega) (by omega) ?_; intro v1 w7 hR7 hB7 hg7 hat7; obtain ⟨A7, n7, q7, rfl⟩ : ∃ A n c, v1 = .slice A n c := (by obtain ⟨A, c, e⟩ := Kd.R_slice hR7; exact ⟨_, _, _, e⟩); obtain ⟨_, _, _, _, hv7⟩ := N.out.grown0 hg7 (Kd.R_base N.out.own); have y5 := (Rd.blk4 hv7).2.2.2; have f6 := bfz hv7 3; clear hv7))
      have Nn := Sdq.mk (N.out.appL hR7 hg7);clear N hR7 hB7 hg7 hat7 x0 x1 x2 x3 y0 y1 y2 y3 f4 f5 y5 f6;have N := Nn;clear Nn;refine (RRq_more.calls k g b a3 d3 e3 B3 125 u a4 d4 e4 B4 w0 _ N.out.i N.out.bl hme.out).mono ?_;rintro en w8 ⟨rfl, hi, hb, hk⟩;have Nn := Sdq.mk (N.out.step hi hb hk);clear N hi hb hk hme;have N := Nn;clear Nn
      go_wp2_with fail
      go_roundg j
      case measure => omega
      exact ⟨u, a4, d4, e4, B4, _, _, _, _, rfl, H, N.out⟩
    all_goals
     have h := H.out;clear H;rw [pairsF, if_neg (by first | (rw [q]; decide) | simp)] at h;obtain rfl := Option.some.inj h;clear h
     go_wp2_with fail
     have F := N.out.fin _ rfl;clear N x0 x1 x2 x3 y0 y1 y2 y3 f0 f1 f2 f3 f4 f5 c1 c3;generalize World.setCell _ _ _ = wf at F ⊢;obtain ⟨FP, c0, c1, c2, c3⟩ := F;exact bodyPost_ret (v := .agg #[.int .i64 6, .string ⟨#[]⟩, .slice A0 ks.length q0, .slice A1 n1 q1]) (by simp [results, Tryd.results66, go_sem, c0, c1, c2, c3]) rfl FP
end Go.Proofs.YteighppcdpaekaaDoor.Rf
end
section
namespace Go.Proofs.YteighppcdpaekaaDoor.Rf
open Go.RowKit Go.Proofs.YteighppcdpaekaaDoorW.PrintWords Go.Proofs.YteighppcdpaekaaDoor Go.Proofs.YteighppcdpaekaaDoor.P
theorem NS.out {w0 w : World} {g : Nat} {b : List Int} {W : World} {a d e B : Int} (h : NS w0 w g b W a d e B) (x0 : Int) (x1 : ByteArray) (x2 : List ByteArray) (x3 : List S44) {v2 v3 : Value} (h2 : Kd.string.R 9 W (w.heap.size + 1) (fun _ => True) v2 x2) (h3 : k44.R 44 W (w.heap.size + 1) (fun k => some k ≠ v2.ownBlock) v3 x3) :
  ∀ W', (((W.setCell ⟨w.heap.size, 0, none⟩ (.int .i64 x0)).setCell ⟨w.heap.size, 1, none⟩ (.string x1)).setCell ⟨w.heap.size, 2, none⟩ v2).setCell ⟨w.heap.size, 3, none⟩ v3 = W' →
  VPost w0 w g b (⟨x0, x1, x2, x3⟩, a, d, e, B) (.returned (.agg #[.int .i64 x0, .string x1, v2, v3])) W' ∧
  W'.cell? ⟨w.heap.size, 0, none⟩ = some (.int .i64 x0) ∧ W'.cell? ⟨w.heap.size, 1, none⟩ = some (.string x1) ∧ W'.cell? ⟨w.heap.size, 2, none⟩ = some v2 ∧ W'.cell? ⟨w.heap.size, 3, none⟩ = some v3 := by
 rintro _ rfl;have hn := Nat.ne_of_lt h.lt;have hs : w0.heap.size ≤ w.heap.size := Nat.le_trans h.i.ge (Nat.le_of_lt h.lt);have hB := blk_set (blk_set (blk_set (blk_set h.r0 0 (.int .i64 x0)) 1 (.string x1)) 2 v2) 3 v3
 have st2 : ∀ (W : World) (j : Nat) (u : Value), Kd.string.R 9 W (w.heap.size + 1) (fun _ => True) v2 x2 → Kd.string.R 9 (W.setCell ⟨w.heap.size, j, none⟩ u) (w.heap.size + 1) (fun _ => True) v2 x2 := fun W j u hR =>
  Kd.R_mono (Kd.R_far (p := ⟨w.heap.size, j, none⟩) (Kd.R_bound hR) (fun k hk => by have h2 := hk.2.1; show k ≠ w.heap.size; omega) u) (fun _ _ => trivial)
 have st3 : ∀ (W : World) (j : Nat) (u : Value), k44.R 44 W (w.heap.size + 1) (fun k => some k ≠ v2.ownBlock) v3 x3 → k44.R 44 (W.setCell ⟨w.heap.size, j, none⟩ u) (w.heap.size + 1) (fun k => some k ≠ v2.ownBlock) v3 x3 := fun W j u hR =>
  Kd.R_mono (Kd.R_far (p := ⟨w.heap.size, j, none⟩) (Kd.R_bound hR) (fun k hk => by have h2 := hk.2.1; show k ≠ w.heap.size; omega) u) (fun _ hk => hk.1)
 refine ⟨⟨v2, v3, rfl, Kd.R_lower (st2 _ _ _ (st2 _ _ _ (st2 _ _ _ (st2 _ _ _ h2)))) (Nat.le_add_right _ 1), Kd.R_lower (st3 _ _ _ (st3 _ _ _ (st3 _ _ _ (st3 _ _ _ h3)))) (Nat.le_add_right _ 1), (((h.i.far (p := ⟨w.heap.size, 0, none⟩) hn _).far (p := ⟨w.heap.size, 1, none⟩) hn _).far (p := ⟨w.heap.size, 2, none⟩) hn _).far (p := ⟨w.heap.size, 3, none⟩) hn _, ?_, ?_⟩, (bceq hB 0).trans rfl, (bceq hB 1).trans rfl, (bceq hB 2).trans rfl, (bceq hB 3).trans rfl⟩
 ·exact bstq (bstq (bstq (bstq h.bl hs) hs) hs) hs
 ·exact keep_far (p := ⟨w.heap.size, 3, none⟩) (keep_far (p := ⟨w.heap.size, 2, none⟩) (keep_far (p := ⟨w.heap.size, 1, none⟩) (keep_far (p := ⟨w.heap.size, 0, none⟩) h.k (Nat.le_refl _) _) (Nat.le_refl _) _) (Nat.le_refl _) _) (Nat.le_refl _) _
theorem NS.gt {w0 w : World} {g : Nat} {b : List Int} {W : World} {a d e B : Int} (h : NS w0 w g b W a d e B) : w.heap.size + 1 ≤ W.heap.size := blk_lt h.r
set_option maxRecDepth 100000 in
set_option maxHeartbeats 3200000 in
theorem value_calls (b : List Int) : ∀ k, VOK b (valF b k)
 | 0 => fun g a d e B r w0 w hI hB h => by simp [valF] at h
 | k + 1 => by
  intro g a d e B r w0 w hI hB h;have ih := Sdq.mk (value_calls b k);have N := Sdq.mk (show NS w0 w g b (w.alloc Z44) a d e B from ⟨hI.alloc _, bal hB _, kal (Kbt.refl _ _ _) _, blk_new _ _, hI.lt⟩);have hlt := hI.lt;clear hI hB;rw [valF] at h;replace h := Option.bind_eq_some_iff.mp h;obtain ⟨⟨c, a1, d1, e1, B1⟩, hp, h⟩ := h;have H := Sdq.mk h;have P := Sdq.mk hp;clear h hp;go_enter Tryd.func45, Tryd.ntmps45
  go_upto_region 1 with fail
  refine absP (fun W => NS w0 w g b W a d e B) N.out ?_;clear N;intro w1 N1;have N := Sdq.mk N1;clear N1
  go_wp2_with fail
  refine (RRq_peek.calls g b a d e B c a1 d1 e1 B1 w0 _ N.out.i N.out.bl P.out).mono ?_;rintro en w2 ⟨rfl, hi, hb, hk⟩;have Nn := Sdq.mk (N.out.call hi hb hk);clear N P hi hb hk;have N := Nn;clear Nn;obtain ⟨A, z, _, x1, x3, _, _, _⟩ := N.out.cells;obtain ⟨hz0, hz1, hz2, hz3, hzf0, hzf1, hzf2, hzf3⟩ := N.out.z
  rcases Bool.eq_false_or_eq_true (e1 != 0) with q | q
  ·have h := H.out
   clear H;rw [if_pos q] at h;obtain rfl := Option.some.inj h;clear h
   go_wp2_with fail
   have F := N.out.out (0) (⟨#[]⟩) ([]) ([]) (Kd.R_nil _ _ _ _ _) (Kd.R_nil _ _ _ _ _) _ rfl;clear N x1 x3 hz0 hz1 hz2 hz3 hzf0 hzf1 hzf2 hzf3;generalize World.setCell _ _ _ = wf at F ⊢;obtain ⟨FP, c0, c1, c2, c3⟩ := F;exact bodyPost_ret (v := .agg #[.int .i64 (0), .string (⟨#[]⟩), .slice none 0 0, .slice none 0 0]) (by simp [results, Tryd.results45, go_sem, c0, c1, c2, c3]) rfl FP
  ·have h := H.out
   clear H;rw [if_neg (by rw [q]; decide)] at h;have H := Sdq.mk h;clear h
   rcases Bool.eq_false_or_eq_true (c == 123) with q | q
   ·have h := H.out
    clear H;rw [if_pos q] at h;obtain ⟨⟨t0, t1, t2, t3⟩, a2, d2, e2, B2⟩ := r;have H := Sdq.mk h;clear h
    go_wp2_with fail
    have hgt := N.out.gt;refine (object_calls ih.out k g a1 d1 e1 B1 _ w0 _ N.out.i N.out.bl N.out.i.lt H.out).mono ?_;rintro en w3 ⟨v2, v3, rfl, hR2, hR3, hi, hb, hk⟩
    obtain ⟨A2, n2, q2, rfl⟩ : ∃ A n c, v2 = .slice A n c := by
     obtain ⟨A, c, e⟩ := Kd.R_slice hR2;exact ⟨_, _, _, e⟩
    obtain ⟨A3, n3, q3, rfl⟩ : ∃ A n c, v3 = .slice A n c := by
     obtain ⟨A, c, e⟩ := Kd.R_slice hR3;exact ⟨_, _, _, e⟩
    replace hR2 := Kd.R_lower hR2 hgt;replace hR3 := Kd.R_lower hR3 hgt;clear hgt;have Nn := Sdq.mk (N.out.call hi hb hk);clear N x1 x3 hz0 hz1 hz2 hz3 hzf0 hzf1 hzf2 hzf3 hi hb hk;have N := Nn;clear Nn;obtain ⟨A, z, _, x1, x3, _, _, _⟩ := N.out.cells;obtain ⟨hz0, hz1, hz2, hz3, hzf0, hzf1, hzf2, hzf3⟩ := N.out.z;clear H
    go_wp2_with fail
    have F := N.out.out (t0) (t1) (t2) (t3) (hR2) (hR3) _ rfl;clear N x1 x3 hz0 hz1 hz2 hz3 hzf0 hzf1 hzf2 hzf3;generalize World.setCell _ _ _ = wf at F ⊢;obtain ⟨FP, c0, c1, c2, c3⟩ := F;exact bodyPost_ret (v := .agg #[.int .i64 (t0), .string (t1), .slice A2 n2 q2, .slice A3 n3 q3]) (by simp [results, Tryd.results45, go_sem, c0, c1, c2, c3]) rfl FP
   ·have h := H.out
    clear H;rw [if_neg (by rw [q]; decide)] at h;have H := Sdq.mk h;clear h
    rcases Bool.eq_false_or_eq_true (c == 91) with q | q
    ·have h := H.out
     clear H;rw [if_pos q] at h;obtain ⟨⟨t0, t1, t2, t3⟩, a2, d2, e2, B2⟩ := r;have H := Sdq.mk h;clear h
     go_wp2_with fail
     have hgt := N.out.gt;refine (array_calls ih.out k g a1 d1 e1 B1 _ w0 _ N.out.i N.out.bl N.out.i.lt H.out).mono ?_;rintro en w3 ⟨v2, v3, rfl, hR2, hR3, hi, hb, hk⟩
     obtain ⟨A2, n2, q2, rfl⟩ : ∃ A n c, v2 = .slice A n c := by
      obtain ⟨A, c, e⟩ := Kd.R_slice hR2;exact ⟨_, _, _, e⟩
     obtain ⟨A3, n3, q3, rfl⟩ : ∃ A n c, v3 = .slice A n c := by
      obtain ⟨A, c, e⟩ := Kd.R_slice hR3;exact ⟨_, _, _, e⟩
     replace hR2 := Kd.R_lower hR2 hgt;replace hR3 := Kd.R_lower hR3 hgt;clear hgt;have Nn := Sdq.mk (N.out.call hi hb hk);clear N x1 x3 hz0 hz1 hz2 hz3 hzf0 hzf1 hzf2 hzf3 hi hb hk;have N := Nn;clear Nn;obtain ⟨A, z, _, x1, x3, _, _, _⟩ := N.out.cells;obtain ⟨hz0, hz1, hz2, hz3, hzf0, hzf1, hzf2, hzf3⟩ := N.out.z;clear H
     go_wp2_with fail
     have F := N.out.out (t0) (t1) (t2) (t3) (hR2) (hR3) _ rfl;clear N x1 x3 hz0 hz1 hz2 hz3 hzf0 hzf1 hzf2 hzf3;generalize World.setCell _ _ _ = wf at F ⊢;obtain ⟨FP, c0, c1, c2, c3⟩ := F;exact bodyPost_ret (v := .agg #[.int .i64 (t0), .string (t1), .slice A2 n2 q2, .slice A3 n3 q3]) (by simp [results, Tryd.results45, go_sem, c0, c1, c2, c3]) rfl FP
    ·have h := H.out
     clear H;rw [if_neg (by rw [q]; decide)] at h;have H := Sdq.mk h;clear h
     rcases Bool.eq_false_or_eq_true (c == 34) with q | q
     ·have h := H.out
      clear H;rw [if_pos q] at h;replace h := Option.bind_eq_some_iff.mp h;obtain ⟨⟨t, a2, d2, e2, B2⟩, ht, h⟩ := h;obtain rfl := Option.some.inj h;have H := Sdq.mk ht;clear ht h
      go_wp2_with fail
      refine (RRq_text.calls k g b a1 d1 e1 B1 t a2 d2 e2 B2 w0 _ N.out.i N.out.bl H.out).mono ?_;rintro en w3 ⟨rfl, hi, hb, hk⟩;have Nn := Sdq.mk (N.out.call hi hb hk);clear N x1 x3 hz0 hz1 hz2 hz3 hzf0 hzf1 hzf2 hzf3 hi hb hk;have N := Nn;clear Nn;obtain ⟨A, z, _, x1, x3, _, _, _⟩ := N.out.cells;obtain ⟨hz0, hz1, hz2, hz3, hzf0, hzf1, hzf2, hzf3⟩ := N.out.z;clear H
      go_wp2_with fail
      have F := N.out.out (4) (t) ([]) ([]) (Kd.R_nil _ _ _ _ _) (Kd.R_nil _ _ _ _ _) _ rfl;clear N x1 x3 hz0 hz1 hz2 hz3 hzf0 hzf1 hzf2 hzf3;generalize World.setCell _ _ _ = wf at F ⊢;obtain ⟨FP, c0, c1, c2, c3⟩ := F;exact bodyPost_ret (v := .agg #[.int .i64 (4), .string (t), .slice none 0 0, .slice none 0 0]) (by simp [results, Tryd.results45, go_sem, c0, c1, c2, c3]) rfl FP
     ·have h := H.out
      clear H;rw [if_neg (by rw [q]; decide)] at h;have H := Sdq.mk h;clear h
      rcases Bool.eq_false_or_eq_true (c == 116) with q | q
      ·have h := H.out
       clear H;rw [if_pos q] at h;obtain ⟨⟨t0, t1, t2, t3, a2, d2, e2, B2⟩, hw, h⟩ := Option.map_eq_some_iff.mp h;obtain rfl := h;have H := Sdq.mk hw;clear hw
       go_wp2_with fail
       have hgt := N.out.gt;refine (RRq_word.calls k g b a1 d1 e1 B1 ⟨#[116, 114, 117, 101]⟩ 2 t0 t1 t2 t3 a2 d2 e2 B2 w0 _ N.out.i N.out.bl N.out.i.lt H.out).mono ?_;rintro en w3 ⟨v2, v3, rfl, hR2, hR3, hi, hb, hk⟩
       obtain ⟨A2, n2, q2, rfl⟩ : ∃ A n c, v2 = .slice A n c := by
        obtain ⟨A, c, e⟩ := Kd.R_slice hR2;exact ⟨_, _, _, e⟩
       obtain ⟨A3, n3, q3, rfl⟩ : ∃ A n c, v3 = .slice A n c := by
        obtain ⟨A, c, e⟩ := Kd.R_slice hR3;exact ⟨_, _, _, e⟩
       replace hR2 := Kd.R_lower hR2 hgt;replace hR3 := Kd.R_lower hR3 hgt;clear hgt;have Nn := Sdq.mk (N.out.call hi hb hk);clear N x1 x3 hz0 hz1 hz2 hz3 hzf0 hzf1 hzf2 hzf3 hi hb hk;have N := Nn;clear Nn;obtain ⟨A, z, _, x1, x3, _, _, _⟩ := N.out.cells;obtain ⟨hz0, hz1, hz2, hz3, hzf0, hzf1, hzf2, hzf3⟩ := N.out.z;clear H
       go_wp2_with fail
       have F := N.out.out (t0) (t1) (t2) (t3) (hR2) (hR3) _ rfl;clear N x1 x3 hz0 hz1 hz2 hz3 hzf0 hzf1 hzf2 hzf3;generalize World.setCell _ _ _ = wf at F ⊢;obtain ⟨FP, c0, c1, c2, c3⟩ := F;exact bodyPost_ret (v := .agg #[.int .i64 (t0), .string (t1), .slice A2 n2 q2, .slice A3 n3 q3]) (by simp [results, Tryd.results45, go_sem, c0, c1, c2, c3]) rfl FP
      ·have h := H.out
       clear H;rw [if_neg (by rw [q]; decide)] at h;have H := Sdq.mk h;clear h
       rcases Bool.eq_false_or_eq_true (c == 102) with q | q
       ·have h := H.out
        clear H;rw [if_pos q] at h;obtain ⟨⟨t0, t1, t2, t3, a2, d2, e2, B2⟩, hw, h⟩ := Option.map_eq_some_iff.mp h;obtain rfl := h;have H := Sdq.mk hw;clear hw
        go_wp2_with fail
        have hgt := N.out.gt;refine (RRq_word.calls k g b a1 d1 e1 B1 ⟨#[102, 97, 108, 115, 101]⟩ 1 t0 t1 t2 t3 a2 d2 e2 B2 w0 _ N.out.i N.out.bl N.out.i.lt H.out).mono ?_;rintro en w3 ⟨v2, v3, rfl, hR2, hR3, hi, hb, hk⟩
        obtain ⟨A2, n2, q2, rfl⟩ : ∃ A n c, v2 = .slice A n c := by
         obtain ⟨A, c, e⟩ := Kd.R_slice hR2;exact ⟨_, _, _, e⟩
        obtain ⟨A3, n3, q3, rfl⟩ : ∃ A n c, v3 = .slice A n c := by
         obtain ⟨A, c, e⟩ := Kd.R_slice hR3;exact ⟨_, _, _, e⟩
        replace hR2 := Kd.R_lower hR2 hgt;replace hR3 := Kd.R_lower hR3 hgt;clear hgt;have Nn := Sdq.mk (N.out.call hi hb hk);clear N x1 x3 hz0 hz1 hz2 hz3 hzf0 hzf1 hzf2 hzf3 hi hb hk;have N := Nn;clear Nn;obtain ⟨A, z, _, x1, x3, _, _, _⟩ := N.out.cells;obtain ⟨hz0, hz1, hz2, hz3, hzf0, hzf1, hzf2, hzf3⟩ := N.out.z;clear H
        go_wp2_with fail
        have F := N.out.out (t0) (t1) (t2) (t3) (hR2) (hR3) _ rfl;clear N x1 x3 hz0 hz1 hz2 hz3 hzf0 hzf1 hzf2 hzf3;generalize World.setCell _ _ _ = wf at F ⊢;obtain ⟨FP, c0, c1, c2, c3⟩ := F;exact bodyPost_ret (v := .agg #[.int .i64 (t0), .string (t1), .slice A2 n2 q2, .slice A3 n3 q3]) (by simp [results, Tryd.results45, go_sem, c0, c1, c2, c3]) rfl FP
       ·have h := H.out
        clear H;rw [if_neg (by rw [q]; decide)] at h;have H := Sdq.mk h;clear h
        rcases Bool.eq_false_or_eq_true (c == 110) with q | q
        ·have h := H.out
         clear H;rw [if_pos q] at h;obtain ⟨⟨t0, t1, t2, t3, a2, d2, e2, B2⟩, hw, h⟩ := Option.map_eq_some_iff.mp h;obtain rfl := h;have H := Sdq.mk hw;clear hw
         go_wp2_with fail
         have hgt := N.out.gt;refine (RRq_word.calls k g b a1 d1 e1 B1 ⟨#[110, 117, 108, 108]⟩ 0 t0 t1 t2 t3 a2 d2 e2 B2 w0 _ N.out.i N.out.bl N.out.i.lt H.out).mono ?_;rintro en w3 ⟨v2, v3, rfl, hR2, hR3, hi, hb, hk⟩
         obtain ⟨A2, n2, q2, rfl⟩ : ∃ A n c, v2 = .slice A n c := by
          obtain ⟨A, c, e⟩ := Kd.R_slice hR2;exact ⟨_, _, _, e⟩
         obtain ⟨A3, n3, q3, rfl⟩ : ∃ A n c, v3 = .slice A n c := by
          obtain ⟨A, c, e⟩ := Kd.R_slice hR3;exact ⟨_, _, _, e⟩
         replace hR2 := Kd.R_lower hR2 hgt;replace hR3 := Kd.R_lower hR3 hgt;clear hgt;have Nn := Sdq.mk (N.out.call hi hb hk);clear N x1 x3 hz0 hz1 hz2 hz3 hzf0 hzf1 hzf2 hzf3 hi hb hk;have N := Nn;clear Nn;obtain ⟨A, z, _, x1, x3, _, _, _⟩ := N.out.cells;obtain ⟨hz0, hz1, hz2, hz3, hzf0, hzf1, hzf2, hzf3⟩ := N.out.z;clear H
         go_wp2_with fail
         have F := N.out.out (t0) (t1) (t2) (t3) (hR2) (hR3) _ rfl;clear N x1 x3 hz0 hz1 hz2 hz3 hzf0 hzf1 hzf2 hzf3;generalize World.setCell _ _ _ = wf at F ⊢;obtain ⟨FP, c0, c1, c2, c3⟩ := F;exact bodyPost_ret (v := .agg #[.int .i64 (t0), .string (t1), .slice A2 n2 q2, .slice A3 n3 q3]) (by simp [results, Tryd.results45, go_sem, c0, c1, c2, c3]) rfl FP
        ·have h := H.out
         clear H;rw [if_neg (by rw [q]; decide)] at h;have H := Sdq.mk h;clear h;have h := H.out;clear H;obtain ⟨⟨t0, t1, t2, t3, a2, d2, e2, B2⟩, hw, h⟩ := Option.map_eq_some_iff.mp h;obtain rfl := h;have H := Sdq.mk hw;clear hw
         go_wp2_with fail
         refine (number_calls k g b a1 d1 e1 B1 _ w0 _ N.out.i N.out.bl N.out.i.lt H.out).mono ?_;rintro en w3 ⟨rfl, h2, h3, hi, hb, hk⟩;obtain rfl : t2 = [] := h2;obtain rfl : t3 = [] := h3;have Nn := Sdq.mk (N.out.call hi hb hk);clear N x1 x3 hz0 hz1 hz2 hz3 hzf0 hzf1 hzf2 hzf3 hi hb hk;have N := Nn;clear Nn;obtain ⟨A, z, _, x1, x3, _, _, _⟩ := N.out.cells;obtain ⟨hz0, hz1, hz2, hz3, hzf0, hzf1, hzf2, hzf3⟩ := N.out.z;clear H
         go_wp2_with fail
         have F := N.out.out (t0) (t1) ([]) ([]) (Kd.R_nil _ _ _ _ _) (Kd.R_nil _ _ _ _ _) _ rfl;clear N x1 x3 hz0 hz1 hz2 hz3 hzf0 hzf1 hzf2 hzf3;generalize World.setCell _ _ _ = wf at F ⊢;obtain ⟨FP, c0, c1, c2, c3⟩ := F;exact bodyPost_ret (v := .agg #[.int .i64 (t0), .string (t1), .slice none 0 0, .slice none 0 0]) (by simp [results, Tryd.results45, go_sem, c0, c1, c2, c3]) rfl FP
end Go.Proofs.YteighppcdpaekaaDoor.Rf
end
section
namespace Go.Proofs.YteighppcdpaekaaDoor.Rf
open Go.RowKit Go.Proofs.YteighppcdpaekaaDoorW.PrintWords Go.Proofs.YteighppcdpaekaaDoorW.PrintLast Go.Proofs.YteighppcdpaekaaDoorW.PrintMore Go.Proofs.YteighppcdpaekaaDoor Go.Proofs.YteighppcdpaekaaDoor.P
def parseF (k : Nat) (b : List Int) : Option (S44 × Int × Int) :=
 (R3q_Valid.f k b).bind fun t => if (t.2 != 0) = true then some (⟨0, ⟨#[]⟩, [], []⟩, t.1, 10) else
  (RRq_blank.f k b 0 0 0 0).bind fun s => (valF b k s.1 s.2.1 s.2.2.1 s.2.2.2).bind fun v =>
   (RRq_blank.f k b v.2.1 v.2.2.1 v.2.2.2.1 v.2.2.2.2).bind fun u =>
    (if (u.2.2.1 == 0 && decide (u.1 < b.length)) = true then RRq_fail.f b u.1 u.2.1 u.2.2.1 u.2.2.2 12 u.1 else some u).bind fun z =>
     if (z.2.2.1 != 0) = true then some (⟨0, ⟨#[]⟩, [], []⟩, z.2.2.2, z.2.2.1) else some (v.1, 0, 0)
structure PT (w : World) (g : Nat) (b : List Int) (W : World) (a d e B : Int) : Prop where
 i : IsS96 w W g b a d e B
 bl : Below w.heap.size w W
 zb : W.heap[w.heap.size]? = some (.cells #[.int .i64 0, .string ⟨#[]⟩, .slice none 0 0, .slice none 0 0] 44 (0, 0))
 lt : w.heap.size < g
section
variable {w : World} {g : Nat} {b : List Int} {W W' : World} {a d e B a' d' e' B' : Int}
theorem PT.step (h : PT w g b W a d e B) (hi : IsS96 w W' g b a' d' e' B') (hb : Below w.heap.size w W') (hk : Kbt W W' g none) : PT w g b W' a' d' e' B' :=
 ⟨hi, hb, hk.blk h.zb (Nat.ne_of_lt h.lt) (by simp), h.lt⟩
theorem PT.alloc (h : PT w g b W a d e B) (x : Obj) : PT w g b (W.alloc x) a d e B := h.step (h.i.alloc x) (bal h.bl x) (kal (Kbt.refl _ _ _) x)
theorem PT.drew (h : PT w g b W a d e B) : PT w g b W.drew a d e B := h.step h.i.drew (bdr1 h.bl) (keep_drew (Kbt.refl _ _ _))
theorem PT.cells (h : PT w g b W a d e B) : (W.cell? ⟨w.heap.size, 0, none⟩ = some (.int .i64 0) ∧ W.cell? ⟨w.heap.size, 1, none⟩ = some (.string ⟨#[]⟩) ∧ W.cell? ⟨w.heap.size, 2, none⟩ = some (.slice none 0 0) ∧ W.cell? ⟨w.heap.size, 3, none⟩ = some (.slice none 0 0)) ∧
  (W.frozen? ⟨w.heap.size, 0, none⟩ = false ∧ W.frozen? ⟨w.heap.size, 1, none⟩ = false ∧ W.frozen? ⟨w.heap.size, 2, none⟩ = false ∧ W.frozen? ⟨w.heap.size, 3, none⟩ = false) ∧
  W.cell? ⟨g, 1, none⟩ = some (.int .i64 a) ∧ W.cell? ⟨g, 3, none⟩ = some (.int .i64 e) ∧ W.cell? ⟨g, 4, none⟩ = some (.int .i64 B) := by
 obtain ⟨A, c, HG, hg, HC⟩ := h.i;exact ⟨Rd.blk4 h.zb, ⟨bfz h.zb 0, bfz h.zb 1, bfz h.zb 2, bfz h.zb 3⟩, cellS96_1 HG, cellS96_3 HG, cellS96_4 HG⟩
theorem XS.keep {base top nx : Nat} {t0 : Int} {t1 : ByteArray} {v2 v3 : Value} {t2 : List ByteArray} {t3 : List S44} (h : XS W base top nx t0 t1 v2 v3 t2 t3) (hk : Kbt W W' g none) (hg : g < base) : XS W' base top nx t0 t1 v2 v3 t2 t3 := by
 have := h.le;exact ⟨hk.blk h.hx (by omega) (by simp), Kd.R_keep h.r2 hk (fun k hk => by omega), Kd.R_keep h.r3 hk (fun k hk => by omega), h.le⟩
end
theorem fin4 {w W : World} (hz : W.heap[w.heap.size]? = some (.cells #[.int .i64 0, .string ⟨#[]⟩, .slice none 0 0, .slice none 0 0] 44 (0, 0))) (hb : Below w.heap.size w W) (v0 v1 v2 v3 : Value) : ∀ W', (((W.setCell ⟨w.heap.size, 0, none⟩ v0).setCell ⟨w.heap.size, 1, none⟩ v1).setCell ⟨w.heap.size, 2, none⟩ v2).setCell ⟨w.heap.size, 3, none⟩ v3 = W' →
  Below w.heap.size w W' ∧ W'.cell? ⟨w.heap.size, 0, none⟩ = some v0 ∧ W'.cell? ⟨w.heap.size, 1, none⟩ = some v1 ∧ W'.cell? ⟨w.heap.size, 2, none⟩ = some v2 ∧ W'.cell? ⟨w.heap.size, 3, none⟩ = some v3 := by
 rintro _ rfl;have hB := blk_set (blk_set (blk_set (blk_set hz 0 v0) 1 v1) 2 v2) 3 v3;exact ⟨bstq (bstq (bstq (bstq hb (Nat.le_refl _)) (Nat.le_refl _)) (Nat.le_refl _)) (Nat.le_refl _), (bceq hB 0).trans rfl, (bceq hB 1).trans rfl, (bceq hB 2).trans rfl, (bceq hB 3).trans rfl⟩
def PPost (w : World) (r : S44 × Int × Int) (en : Ending) (w' : World) : Prop :=
 ∃ v2 v3 : Value, en = .returned (.tuple #[.agg #[.int .i64 r.1.f0, .string r.1.f1, v2, v3], .int .i64 r.2.1, .int .i64 r.2.2]) ∧ Kd.string.R 9 w' w.heap.size (fun _ => True) v2 r.1.f2 ∧ k44.R 44 w' w.heap.size (fun _ => True) v3 r.1.f3 ∧ Below w.heap.size w w'
set_option maxRecDepth 100000 in
set_option maxHeartbeats 3200000 in
theorem parse_calls (k : Nat) (A : Option Addr) (c : Nat) (b : List Int) (r : S44 × Int × Int) (w : World) (hr : Kd.C (Kd.int .u8) w A b.length b) (hc : b.length ≤ c) (h : parseF k b = some r) :
  Calls Tryd.prog 19 #[.slice A b.length c] w (PPost w r) := by
 obtain ⟨⟨va, ve⟩, hv, h⟩ := Option.bind_eq_some_iff.mp h;have H := Sdq.mk h;have HV := Sdq.mk hv;have HR := Sdq.mk hr;have hc' := Sdq.mk hc;clear h hv hr hc;go_enter Tryd.func19, Tryd.ntmps19;have HB := Sdq.mk (bal (Below.refl w.heap.size w) Z44)
 go_wp2_with fail
 refine (R3q_Valid.calls k A c b va ve _ (Kd.C_below HR.out (bal (Below.refl _ _) _)) hc'.out HV.out).mono ?_;rintro en w3 ⟨rfl, hb3⟩;have hz3 : w3.heap[w.heap.size]? = some (.cells #[.int .i64 0, .string ⟨#[]⟩, .slice none 0 0, .slice none 0 0] 44 (0, 0)) := blk_below (blk_new w (.cells #[.int .i64 0, .string ⟨#[]⟩, .slice none 0 0, .slice none 0 0] 44 (0, 0))) hb3;have hB3 : Below w.heap.size w w3 := below_weaken HB.out (by simp) hb3;have hZ3 := Sdq.mk hz3;have HB3 := Sdq.mk hB3;clear HB HV hb3 hz3 hB3
 rcases Bool.eq_false_or_eq_true (ve != 0) with q | q
 ·have h := H.out
  clear H;rw [if_pos q] at h;obtain rfl := Option.some.inj h;clear h;obtain ⟨z0, z1, z2, z3⟩ := Rd.blk4 hZ3.out;have f0 := bfz hZ3.out 0;have f1 := bfz hZ3.out 1;have f2 := bfz hZ3.out 2;have f3 := bfz hZ3.out 3
  go_wp2_with fail
  have F := fin4 hZ3.out HB3.out (.int .i64 0) (.string ⟨#[]⟩) (.slice none 0 0) (.slice none 0 0) _ rfl;clear hZ3 HB3 z0 z1 z2 z3 f0 f1 f2 f3;generalize World.setCell _ _ _ = wf at F ⊢;obtain ⟨fb, c0, c1, c2, c3⟩ := F;refine bodyPost_ret (v := .tuple #[.agg #[.int .i64 0, .string ⟨#[]⟩, .slice none 0 0, .slice none 0 0], .int .i64 va, .int .i64 10]) (by simp [results, Tryd.results19, go_sem, c0, c1, c2, c3]) rfl ?_;exact ⟨_, _, rfl, Kd.R_nil _ _ _ _ _, Kd.R_nil _ _ _ _ _, fb⟩
 ·have h := H.out
  clear H;rw [if_neg (by rw [q]; decide)] at h;obtain ⟨⟨a1, d1, e1, B1⟩, hbl, h⟩ := Option.bind_eq_some_iff.mp h;obtain ⟨⟨⟨t0, t1, t2, t3⟩, a2, d2, e2, B2⟩, hvl, h⟩ := Option.bind_eq_some_iff.mp h;obtain ⟨⟨a3, d3, e3, B3⟩, hbl2, h⟩ := Option.bind_eq_some_iff.mp h;obtain ⟨⟨a4, d4, e4, B4⟩, hfl, h⟩ := Option.bind_eq_some_iff.mp h;have H := Sdq.mk h;have P1 := Sdq.mk hbl;have P2 := Sdq.mk hvl;have P3 := Sdq.mk hbl2;have P4 := Sdq.mk hfl;clear h hbl hvl hbl2 hfl;have hlt3 := blk_lt hZ3.out;have N := Sdq.mk (show PT w w3.heap.size b (w3.alloc (.cells #[.slice A b.length c, .int .i64 0, .int .i64 0, .int .i64 0, .int .i64 0] 96 (0, 0))) 0 0 0 0 from ⟨IsS96.new w w3 A c b 0 0 0 0 HB3.out HR.out hc'.out, bal HB3.out _, blk_grown hZ3.out (World.grownBy_alloc _ _ none) (by simp), hlt3⟩);clear hlt3
  go_wp2_with fail
  refine (RRq_blank.calls k w3.heap.size b 0 0 0 0 a1 d1 e1 B1 w _ N.out.i N.out.bl P1.out).mono ?_;rintro en w4 ⟨rfl, hi, hb, hk⟩;have Nn := Sdq.mk (N.out.step hi hb hk);clear N hi hb hk P1;have N := Nn;clear Nn
  go_wp2_with fail
  refine (value_calls b k w3.heap.size a1 d1 e1 B1 _ w _ N.out.i N.out.bl P2.out).mono ?_;rintro en w5 ⟨v2, v3, rfl, hR2, hR3, hi, hb, hk⟩
  obtain ⟨A2, n2, q2, rfl⟩ : ∃ A n c, v2 = .slice A n c := by
   obtain ⟨A, c, e⟩ := Kd.R_slice hR2;exact ⟨_, _, _, e⟩
  obtain ⟨A3, n3, q3, rfl⟩ : ∃ A n c, v3 = .slice A n c := by
   obtain ⟨A, c, e⟩ := Kd.R_slice hR3;exact ⟨_, _, _, e⟩
  have hg4 := Sdq.mk N.out.i.lt;have X0 := Sdq.mk (XS.mk' (t0 := t0) (t1 := t1) hR2 hR3 hk.1);have Nn := Sdq.mk ((N.out.step hi hb hk).alloc (.cells #[.int .i64 t0, .string t1, .slice A2 n2 q2, .slice A3 n3 q3] 44 (0, 0)));clear N hi hb hk P2 hR2 hR3;have N := Nn;clear Nn
  go_upto_region 7 with fail
  generalize w5.alloc (.cells #[.int .i64 t0, .string t1, .slice A2 n2 q2, .slice A3 n3 q3] 44 (0, 0)) = w6 at N X0 ⊢
  go_wp2_with fail
  refine (RRq_blank.calls k w3.heap.size b a2 d2 e2 B2 a3 d3 e3 B3 w _ N.out.i N.out.bl P3.out).mono ?_;rintro en w7 ⟨rfl, hi, hb, hk⟩;have Nn := Sdq.mk (N.out.step hi hb hk);have Xn := Sdq.mk (X0.out.keep hk hg4.out);clear N hi hb hk P3 X0;have N := Nn;have X := Xn;clear Nn Xn;obtain ⟨⟨z0, z1, z2, z3⟩, ⟨f0, f1, f2, f3⟩, c1, c3, c4⟩ := N.out.cells
  go_upto_region 8 with fail
  go_cut [40] (fun sv wc => sv = .bool (e3 == 0 && decide (a3 < (b.length : Int))) ∧ wc = w7)
  case first =>
   rcases Bool.eq_false_or_eq_true (e3 == 0) with q1 | q1
   ·by_cases q2 : a3 < (b.length : Int)
    ·go_wp2_with fail
     go_meet
     exact ⟨by simp [q1, q2], rfl⟩
    ·go_wp2_with fail
     go_meet
     exact ⟨by simp [q1, q2], rfl⟩
   ·go_wp2_with fail
    go_meet
    exact ⟨by simp [q1], rfl⟩
  case rest =>
   obtain ⟨rfl, rfl⟩ := hcut
   go_upto_if 40 with fail
   go_cut [] (fun wc => PT w w3.heap.size b wc a4 d4 e4 B4 ∧ XS wc w4.heap.size w5.heap.size w5.heap.size t0 t1 (.slice A2 n2 q2) (.slice A3 n3 q3) t2 t3)
   case first =>
    have h4 := P4.out;clear P4
    rcases Bool.eq_false_or_eq_true (e3 == 0 && decide (a3 < (b.length : Int))) with q1 | q1
    ·rw [if_pos q1] at h4
     rw [q1];have P4 := Sdq.mk h4;clear h4
     go_wp2_with fail
     refine (RRq_fail.calls w3.heap.size b a3 d3 e3 B3 12 a3 a4 d4 e4 B4 w _ N.out.i N.out.bl P4.out).mono ?_;rintro en w8 ⟨rfl, hi, hb, hk⟩;have Nn := Sdq.mk (N.out.step hi hb hk);have Xn := Sdq.mk (X.out.keep hk hg4.out);clear hi hb hk N X
     go_wp2_with fail
     go_meet
     exact ⟨Nn.out, Xn.out⟩
    ·rw [if_neg (by rw [q1]; decide)] at h4
     obtain ⟨rfl, rfl, rfl, rfl⟩ : a3 = a4 ∧ d3 = d4 ∧ e3 = e4 ∧ B3 = B4 := by simpa using h4
     clear h4;rw [q1]
     go_wp2_with fail
     go_meet
     exact ⟨N.out, X.out⟩
   case rest =>
    clear N X P4 z0 z1 z2 z3 f0 f1 f2 f3 c1 c3 c4;obtain ⟨Nn, Xn⟩ := hcut;have N := Sdq.mk Nn;have X := Sdq.mk Xn;clear Nn Xn;obtain ⟨⟨z0, z1, z2, z3⟩, ⟨f0, f1, f2, f3⟩, c1, c3, c4⟩ := N.out.cells;obtain ⟨x0, x1, x2, x3⟩ := Rd.blk4 X.out.hx;have hx := Sdq.mk (Nat.lt_of_lt_of_le N.out.lt (Nat.le_of_lt hg4.out))
    rcases Bool.eq_false_or_eq_true (e4 != 0) with q1 | q1
    ·have h := H.out
     clear H;rw [if_pos q1] at h;obtain rfl := Option.some.inj h;clear h;have hne : w3.heap.size ≠ w.heap.size := Nat.ne_of_gt N.out.lt;have F := Sdq.mk (fin4 N.out.zb N.out.bl (.int .i64 0) (.string ⟨#[]⟩) (.slice none 0 0) (.slice none 0 0) _ rfl);clear N X x0 x1 x2 x3
     go_upto_region 11 with fail
     go_region_with (fail)
     all_goals
      go_wp2;have F := F.out;clear z0 z1 z2 z3 f0 f1 f2 f3 c1 c3 c4;generalize World.setCell _ _ _ = wf at F ⊢;obtain ⟨fb, c0, c1, c2, c3⟩ := F;have c0 : wf.drew.cell? ⟨w.heap.size, 0, none⟩ = _ := c0;have c1 : wf.drew.cell? ⟨w.heap.size, 1, none⟩ = _ := c1;have c2 : wf.drew.cell? ⟨w.heap.size, 2, none⟩ = _ := c2;have c3 : wf.drew.cell? ⟨w.heap.size, 3, none⟩ = _ := c3;refine bodyPost_ret (v := .tuple #[.agg #[.int .i64 0, .string ⟨#[]⟩, .slice none 0 0, .slice none 0 0], .int .i64 B4, .int .i64 e4]) (by simp [results, Tryd.results19, go_sem, Act.put, c0, c1, c2, c3]) rfl ?_;exact ⟨_, _, rfl, Kd.R_nil _ _ _ _ _, Kd.R_nil _ _ _ _ _, bdr1 fb⟩
    ·have h := H.out
     clear H;rw [if_neg (by rw [q1]; decide)] at h;obtain rfl := Option.some.inj h;clear h
     go_wp2_with fail
     have F := fin4 N.out.zb N.out.bl (.int .i64 t0) (.string t1) (.slice A2 n2 q2) (.slice A3 n3 q3) _ rfl;have Y := Sdq.mk ((((X.out.set ⟨w.heap.size, 0, none⟩ hx.out (.int .i64 t0)).set ⟨w.heap.size, 1, none⟩ hx.out (.string t1)).set ⟨w.heap.size, 2, none⟩ hx.out (.slice A2 n2 q2)).set ⟨w.heap.size, 3, none⟩ hx.out (.slice A3 n3 q3));clear N X z0 z1 z2 z3 f0 f1 f2 f3 c1 c3 c4 x0 x1 x2 x3;generalize World.setCell _ _ _ = wf at F Y ⊢;obtain ⟨fb, c0, c1, c2, c3⟩ := F;refine bodyPost_ret (v := .tuple #[.agg #[.int .i64 t0, .string t1, .slice A2 n2 q2, .slice A3 n3 q3], .int .i64 0, .int .i64 0]) (by simp [results, Tryd.results19, go_sem, c0, c1, c2, c3]) rfl ?_;have hle := Nat.le_of_lt hx.out;exact ⟨_, _, rfl, Kd.R_lower (Kd.R_mono Y.out.r2 (fun _ _ => trivial)) hle, Kd.R_lower (Kd.R_mono Y.out.r3 (fun _ _ => trivial)) hle, fb⟩
end Go.Proofs.YteighppcdpaekaaDoor.Rf
end
section
namespace Go.Proofs.YteighppcdpaekaaDoor.P
open Go.RowKit Go.Proofs.YteighppcdpaekaaDoorW.PrintWords Go.Proofs.YteighppcdpaekaaDoorW.PrintLast Go.Proofs.YteighppcdpaekaaDoorW.PrintMore
def eqT (a : Int) (s : ByteArray) (b : Int) (t : ByteArray) : Option Bool := if b = 4 then some (a == 4 && s.toList == t.toList) else none
set_option maxRecDepth 100000 in
set_option maxHeartbeats 3200000 in
theorem eqT_calls (a : Int) (s : ByteArray) (v2 v3 : Value) (b : Int) (t : ByteArray) (v4 v5 : Value) (r : Bool) (w : World) (h : eqT a s b t = some r) :
  Calls Tryd.prog 12 #[.agg #[.int .i64 a, .string s, v2, v3], .agg #[.int .i64 b, .string t, v4, v5]] w fun e w' => e = .returned (.bool r) ∧ Below w.heap.size w w' := by
 obtain rfl : b = 4 := by
  unfold eqT at h
  split at h
  ·assumption
  ·cases h
 unfold eqT at h;rw [if_pos rfl] at h;obtain rfl := Option.some.inj h;clear h;have hb := bal (bal (Below.refl w.heap.size w) (.cells #[.int .i64 a, .string s, v2, v3] 27 (0, 0))) (.cells #[.int .i64 4, .string t, v4, v5] 27 (0, 0));have B0 := blk_grown (blk_new w (.cells #[.int .i64 a, .string s, v2, v3] 27 (0, 0))) (World.grownBy_alloc _ (.cells #[.int .i64 4, .string t, v4, v5] 27 (0, 0)) none) (by simp);have B1 := blk_new (w.alloc (.cells #[.int .i64 a, .string s, v2, v3] 27 (0, 0))) (.cells #[.int .i64 4, .string t, v4, v5] 27 (0, 0));simp only [World.size_alloc] at B1;have c0 := (bceq B0 0).trans rfl;have c1 := (bceq B0 1).trans rfl;have d0 := (bceq B1 0).trans rfl;have d1 := (bceq B1 1).trans rfl;have hb := Sdq.mk hb;clear B0 B1;go_enter Tryd.func12, Tryd.ntmps12;by_cases ha : a = 4
 ·subst ha
  rcases Bool.eq_false_or_eq_true (s.toList == t.toList) with hs | hs
  ·rw [hs]
   have hs' : s.toList = t.toList := by simpa using hs
   go_wp2_with fail
   go_ret;exact ⟨rfl, hb.out⟩
  ·rw [hs]
   have hs' : s.toList ≠ t.toList := by simpa using hs
   go_wp2_with fail
   go_ret;exact ⟨rfl, hb.out⟩
 ·have ha2 : (a == 4) = false := by simpa using ha
  rw [ha2]
  go_wp2_with fail
  go_ret;exact ⟨rfl, hb.out⟩
end Go.Proofs.YteighppcdpaekaaDoor.P
end
section
namespace Go.Proofs.YteighppcdpaekaaDoor.P
open Go.RowKit Go.Proofs.YteighppcdpaekaaDoorW.PrintWords Go.Proofs.YteighppcdpaekaaDoorW.PrintLast Go.Proofs.YteighppcdpaekaaDoorW.PrintMore
attribute [local go_sem] max2_int min2_int max_two min_two max_three min_three max_four min_four
set_option linter.unusedVariables false
set_option linter.unusedSimpArgs false
def rpc_isID.f (a0_0 : Int) (a0_1 : ByteArray) (l0_2 : List ByteArray) (l0_3 : List (S27)) : Option (Bool) := if a0_0 = 3 then ((json_Int.f a0_0 a0_1 l0_2 l0_3).bind fun bt335 => (some bt335.2)) else (some (a0_0 == 4))
set_option maxHeartbeats 8000000 in
set_option maxRecDepth 100000 in
theorem rpc_isID.calls (a0_0 : Int) (a0_1 : ByteArray) (A0_2 : Option Addr) (c0_2 : Nat) (l0_2 : List ByteArray) (A0_3 : Option Addr) (c0_3 : Nat) (l0_3 : List (S27)) (r : Bool) (w : World) (hr0_2 : Kd.C Kd.string w A0_2 l0_2.length l0_2) (hc0_2 : l0_2.length ≤ c0_2) (hr0_3 : Kd.C k27 w A0_3 l0_3.length l0_3) (hc0_3 : l0_3.length ≤ c0_3) (h : rpc_isID.f a0_0 a0_1 l0_2 l0_3 = some r) (hT : TabOk w) :
  Calls Tryd.prog 42 #[.agg #[.int .i64 a0_0, .string a0_1, .slice A0_2 l0_2.length c0_2, .slice A0_3 l0_3.length c0_3]] w fun e w' => e = .returned (.bool r) ∧ Below w.heap.size w w' := by
 have hu27 := Tryd.underlying27;have HR0_2 := Sdq.mk hr0_2;have HC0_2 := Sdq.mk hc0_2;clear hr0_2 hc0_2;have HR0_3 := Sdq.mk hr0_3;have HC0_3 := Sdq.mk hc0_3;clear hr0_3 hc0_3;have HB := Sdq.mk (Below.refl w.heap.size w);have H : (if a0_0 = 3 then ((json_Int.f a0_0 a0_1 l0_2 l0_3).bind fun bt335 => (some bt335.2)) else (some (a0_0 == 4))) = some r := h;clear h;by_cases c2 : a0_0 = 3
 ·rw [if_pos c2] at H
  have c2b0 : (a0_0 == 3) = true := beq_iff_eq.mpr c2;have c2b1 : (a0_0 != 3) = false := bne_eq_false_iff_eq.mpr c2;clear c2;replace H := Option.bind_eq_some_iff.mp H;obtain ⟨⟨t335, t336⟩, A30, H⟩ := H;replace H : (some t336) = some r := H;have A3 := Sdq.mk A30;clear A30;obtain rfl := Option.some.inj H;go_enter Tryd.func42, Tryd.ntmps42;go_wp2_with (first | ((with_reducible refine gate_dst (N := 1) rfl ?_); refine box_event ?hg (N := 1) ?hd (cs := #[.int .i64 a0_0, .string a0_1, .slice A0_2 l0_2.length c0_2, .slice A0_3 l0_3.length c0_3]) (t := 27) ?hr ?_; (case hd => rfl); (case hg => rfl); (case hr => first | (go_simp; done) | (go_simp; rfl)); intro gb334 hg w4 hbox hb; have n0_ := Sdq.mk (below_step (by repeat (first | (with_reducible first | exact HB.out | apply bal | apply pbdN | apply bdr1) | exact HB.out)) hb); have n1_ := Sdq.mk (hbox); have n2_ := Sdq.mk ((by rw [hg]; exact (below_size (by repeat (first | (with_reducible first | exact HB.out | apply bal | apply pbdN | apply bdr1) | exact HB.out))) : w.heap.size ≤ gb334)); have n3_ := Sdq.mk ((by rw [hg]; exact (below_size (by repeat (first | (with_reducible first | exact HB.out | apply bal | apply pbdN | apply bdr1) | exact HB.out))) : w.heap.size ≤ gb334)); clear HB; have HB := n0_; have BK334 := n1_; have GW334 := n2_; have GE334 := n3_; clear n0_ n1_ n2_ n3_; clear hb hbox hg; have hcz5_0 : w4.cell? ⟨gb334, 0, none⟩ = some (.int .i64 a0_0) := (bceq BK334.out 0).trans rfl; have hcz5_1 : w4.cell? ⟨gb334, 1, none⟩ = some (.string a0_1) := (bceq BK334.out 1).trans rfl; have hcz5_2 : w4.cell? ⟨gb334, 2, none⟩ = some (.slice A0_2 l0_2.length c0_2) := (bceq BK334.out 2).trans rfl; have hcz5_3 : w4.cell? ⟨gb334, 3, none⟩ = some (.slice A0_3 l0_3.length c0_3) := (bceq BK334.out 3).trans rfl; have hfz5_0 := bfz BK334.out 0; have hfz5_1 := bfz BK334.out 1; have hfz5_2 := bfz BK334.out 2; have hfz5_3 := bfz BK334.out 3) | ((with_reducible refine gate_callee (f := 29) rfl ?_); refine goesL_ (some 10) rfl rfl Tryd.func29 (by kernel_rfl) rfl #[.agg #[.int .i64 a0_0, .string a0_1, .slice A0_2 l0_2.length c0_2, .slice A0_3 l0_3.length c0_3]] rfl (by (try simp only [List.map_toArray, List.map_cons, List.map_nil]); first | done | rfl | (simp only [List.length_drop, List.length_take]; rfl)) ?_; (with_reducible refine (json_Int.calls a0_0 a0_1 _ _ l0_2 _ _ l0_3 t335 t336 _ ?side1 ?side2 ?side3 ?side4 A3.out ?sideT).mono ?_); (case sideT => exact hT.below (by repeat (first | (with_reducible first | exact HB.out | apply bal | apply pbdN | apply bdr1 | refine bstq ?_ GE334.out) | exact HB.out))); (case side1 => repeat (first | exact (Kd.C_below HR0_2.out HB.out) | (with_reducible refine Kd.C_alloc ?_ _) | (with_reducible refine Kd.C_drewN ?_ _) | (with_reducible refine Kd.C_drew ?_))); (case side2 => exact HC0_2.out); (case side3 => repeat (first | exact (Kd.C_below HR0_3.out HB.out) | (with_reducible refine Kd.C_alloc ?_ _) | (with_reducible refine Kd.C_drewN ?_ _) | (with_reducible refine Kd.C_drew ?_))); (case side4 => exact HC0_3.out); rintro e w6 ⟨rfl, hb⟩; refine ⟨_, rfl, ?_⟩; have n0_ := Sdq.mk (blk_below (g := gb334) (o := .cells #[.int .i64 a0_0, .string a0_1, .slice A0_2 l0_2.length c0_2, .slice A0_3 l0_3.length c0_3] 27 (0, 0)) (by (with_reducible repeat (first | refine blk_drewN ?_ _ | refine blk_drew ?_ | refine blk_alloc ?_ _)); exact BK334.out) hb); have n1_ := Sdq.mk (below_step (by repeat (first | (with_reducible first | exact HB.out | apply bal | apply pbdN | apply bdr1 | refine bstq ?_ GE334.out) | exact HB.out)) hb); clear BK334; clear HB; have BK334 := n0_; have HB := n1_; clear n0_ n1_; (try clear hb); (try clear hb2); (try clear hk); (try clear hi)))
  go_ret;exact ⟨by first | rfl | (simp [errW_none, errW_some] <;> rfl) | (simp [*, errW_none, errW_some] <;> rfl), by repeat (first | (with_reducible first | exact HB.out | apply bal | apply pbdN | apply bdr1 | refine bstq ?_ GE334.out) | exact HB.out)⟩
 ·rw [if_neg c2] at H
  have c2b0 : (a0_0 == 3) = false := beq_eq_false_iff_ne.mpr c2;have c2b1 : (a0_0 != 3) = true := bne_iff_ne.mpr c2;obtain rfl := Option.some.inj H;go_enter Tryd.func42, Tryd.ntmps42;go_wp2_with (first | ((with_reducible refine gate_dst (N := 1) rfl ?_); refine box_event ?hg (N := 1) ?hd (cs := #[.int .i64 a0_0, .string a0_1, .slice A0_2 l0_2.length c0_2, .slice A0_3 l0_3.length c0_3]) (t := 27) ?hr ?_; (case hd => rfl); (case hg => rfl); (case hr => first | (go_simp; done) | (go_simp; rfl)); intro gb334 hg w7 hbox hb; have n0_ := Sdq.mk (below_step (by repeat (first | (with_reducible first | exact HB.out | apply bal | apply pbdN | apply bdr1) | exact HB.out)) hb); have n1_ := Sdq.mk (hbox); have n2_ := Sdq.mk ((by rw [hg]; exact (below_size (by repeat (first | (with_reducible first | exact HB.out | apply bal | apply pbdN | apply bdr1) | exact HB.out))) : w.heap.size ≤ gb334)); have n3_ := Sdq.mk ((by rw [hg]; exact (below_size (by repeat (first | (with_reducible first | exact HB.out | apply bal | apply pbdN | apply bdr1) | exact HB.out))) : w.heap.size ≤ gb334)); clear HB; have HB := n0_; have BK334 := n1_; have GW334 := n2_; have GE334 := n3_; clear n0_ n1_ n2_ n3_; clear hb hbox hg; have hcz8_0 : w7.cell? ⟨gb334, 0, none⟩ = some (.int .i64 a0_0) := (bceq BK334.out 0).trans rfl; have hcz8_1 : w7.cell? ⟨gb334, 1, none⟩ = some (.string a0_1) := (bceq BK334.out 1).trans rfl; have hcz8_2 : w7.cell? ⟨gb334, 2, none⟩ = some (.slice A0_2 l0_2.length c0_2) := (bceq BK334.out 2).trans rfl; have hcz8_3 : w7.cell? ⟨gb334, 3, none⟩ = some (.slice A0_3 l0_3.length c0_3) := (bceq BK334.out 3).trans rfl; have hfz8_0 := bfz BK334.out 0; have hfz8_1 := bfz BK334.out 1; have hfz8_2 := bfz BK334.out 2; have hfz8_3 := bfz BK334.out 3));go_ret;exact ⟨by first | rfl | (simp [errW_none, errW_some] <;> rfl) | (simp [*, errW_none, errW_some] <;> rfl), by repeat (first | (with_reducible first | exact HB.out | apply bal | apply pbdN | apply bdr1 | refine bstq ?_ GE334.out) | exact HB.out)⟩
end Go.Proofs.YteighppcdpaekaaDoor.P
end
